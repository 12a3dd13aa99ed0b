/- weirlaw30.HistTexts: part of the proof (a value semantics for the model's code, and the functions told by it). -/
import Derived.Test.YtdfajmeabnmhjaaGreatDoorA11
set_option linter.unusedSimpArgs false
set_option linter.unusedVariables false
set_option linter.deprecated false
namespace Go.Ve
abbrev vI (n : Int) : PV := .val (.int .i64 n)
abbrev vB (n : Int) : PV := .val (.int .u8 n)
abbrev vS (s : ByteArray) : PV := .val (.string s)
abbrev vT (b : Bool) : PV := .val (.bool b)
def lnQ (u : Option TypeDesc) (x : PV) : Option PV := match u, x with
 | some .string, .val (.string s) => some (.val (.int .i64 s.size))
 | some (.array n _), _ => some (.val (.int .i64 n))
 | some (.slice _), .sl _ xs _ => some (.val (.int .i64 xs.length))
 | some (.slice _), .slt _ xs _ => some (.val (.int .i64 xs.length))
 | some (.slice _), .rs _ _ _ n _ => some (.val (.int .i64 n))
 | _, _ => none
theorem ln_q (P : Program) (x : PV) (t : TypeId) : lenP P [x] [t] = lnQ (P.underlying t) x := by
 simp only [lenP]
 unfold lnQ
 generalize P.underlying t = o
 cases o with
 | none => rfl
 | some d => cases d <;> first | rfl | (cases x <;> first | rfl | (rename_i v; cases v <;> rfl))
theorem ln_s (s : ByteArray) : lnQ (some .string) (.val (.string s)) = some (.val (.int .i64 s.size)) := rfl
theorem ln_a (n : Nat) (e : TypeId) (x : PV) : lnQ (some (.array n e)) x = some (.val (.int .i64 n)) := rfl
theorem ln_l (e : TypeId) (k : Nat) (xs : List PV) (o : Bool) : lnQ (some (.slice e)) (.sl k xs o) = some (.val (.int .i64 xs.length)) := rfl
theorem ln_t (e : TypeId) (k : Nat) (xs ys : List PV) : lnQ (some (.slice e)) (.slt k xs ys) = some (.val (.int .i64 xs.length)) := rfl
theorem ln_r (e : TypeId) (k b o n c : Nat) : lnQ (some (.slice e)) (.rs k b o n c) = some (.val (.int .i64 n)) := rfl
theorem eqN_ints {P : Program} {e : TypeId} {k : IntKind} (h1 : aggT P e = some false) (hc : P.cellsOf e = 1) (hu : P.underlying e = some (.int k)) (d : Nat) {q : IntKind} : ∀ (V W : List Int) (A B : List PV) (i : Nat), V.length = W.length →
  A.drop i = V.map (fun n => PV.val (.int q n)) → B.drop i = W.map (fun n => PV.val (.int q n)) → eqN P (eqI P (d + 1) e) e A B (List.range' i V.length) = some (decide (V = W))
 | [], [], A, B, i, _, _, _ => rfl
 | [], _ :: _, _, _, _, h, _, _ => by simp at h
 | _ :: _, [], _, _, _, h, _, _ => by simp at h
 | v :: V, w :: W, A, B, i, hl, hA, hB => by
  have one : ∀ (A : List PV) (v : Int) (V : List Int), A.drop i = (v :: V).map (fun n => PV.val (.int q n)) → loadP P [] e (.vptr A (i * P.cellsOf e)) = some (.val (.int q v)) ∧ A.drop (i + 1) = V.map (fun n => PV.val (.int q n)) := by
   intro A v V hA
   have hlt : i < A.length := by
    have := congrArg List.length hA
    simp at this; omega
   refine ⟨?_, ?_⟩
   ·rw [hc, Nat.mul_one, ld_f h1, if_pos hlt]
    congr 1
    have := congrArg (fun l => l[0]?) hA
    simp at this
    simp [List.getD, this]
   ·rw [← List.tail_drop, hA]; rfl
  obtain ⟨a1, a2⟩ := one A v V hA
  obtain ⟨b1, b2⟩ := one B w W hB
  simp only [List.length_cons, List.range'_succ]
  unfold eqN
  rw [a1, b1, eqN_ints h1 hc hu d V W A B (i + 1) (by simpa using hl) a2 b2]
  simp only [eqI, hu, if_true, ↓reduceIte]
  simp only [List.cons.injEq, Bool.decide_and]
theorem zeros1 (v : PV) (hv : v.cells = [v]) (n : Nat) : zeros v n 1 = List.replicate n v := by
 unfold zeros
 rw [hv, Nat.mul_one]
 induction n with
 | zero => rfl
 | succ n ih => rw [List.range_succ, List.map_append, ih, List.replicate_succ']; simp [Nat.mod_one]
theorem kr_some (vs : List PV) (M : List Blk) (K : PV → List Blk → Prop) : kr (some vs) M K = K (retV vs) M := rfl
theorem retV_one (v : PV) : retV [v] = v := rfl
theorem retV_two (v u : PV) (l : List PV) : retV (v :: u :: l) = .tuple (v :: u :: l) := rfl
theorem sO_t (t : Tmp) : stripO (.tmp t) = some t := rfl
theorem sO_c (v : Value) : stripO (.const v) = none := rfl
theorem sO_g (v : Nat) : stripO (.global v) = none := rfl
theorem sO_f (v : FuncId) : stripO (.func v) = none := rfl
theorem sn_t {α : Type} (M N : α) : Ve.seen true M N = N := rfl
theorem sn_f {α : Type} (M N : α) : Ve.seen false M N = M := rfl
end Go.Ve
