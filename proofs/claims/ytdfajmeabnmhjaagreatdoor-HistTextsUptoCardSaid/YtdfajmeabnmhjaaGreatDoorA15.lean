/- weirlaw30.HistTexts: part of the proof (a value semantics for the model's code, and the functions told by it). -/
import Derived.Test.YtdfajmeabnmhjaaGreatDoorA14
set_option linter.unusedSimpArgs false
set_option linter.unusedVariables false
set_option linter.deprecated false
namespace Go.Ve
def lendP (F : List PV → Option (List Prop × PV)) : List PV → List Blk → PV → Prop := fun vs M r => (∃ ps, F (vs.map (brw M)) = some (ps, r) ∧ All ps) ∧ (vs.any PV.isRef = false ∨ (norefL (vs.map (brw M)) = true ∧ r.scalar = true))
abbrev lendC (F : List PV → Option (List Prop × PV)) : CB := .con (.read (lendP F))
theorem brw_occ {M : List Blk} {p : PV} {v : Value} (h : occ p v = []) : occ (brw M p) v = [] := by
 unfold brw
 split
 ·unfold brwS; split
  ·split
   ·exact occ_free _ _ rfl
   ·exact h
  ·exact h
 ·unfold brwP; split
  ·split
   ·exact occ_free _ _ rfl
   ·exact h
  ·exact h
 ·exact h
theorem brw_occL {M : List Blk} : ∀ {l : List PV} {vs : List Value}, occL l vs = [] → occL (l.map (brw M)) vs = []
 | [], _, _ => by simp [occL]
 | x :: xs, [], _ => by simp [occL]
 | x :: xs, v :: vs, h => by
  simp only [occL, List.append_eq_nil_iff] at h
  simp only [List.map_cons, occL, brw_occ h.1, brw_occL h.2, List.nil_append]
theorem Sound.lend {P : Program} {G : Nat → Option (List PV)} {g : FuncId} {F : List PV → Option (List Prop × PV)} (h : Sound P G g (conT (CB.fn F).toCon)) : Sound P G g (conT (.read (lendP F))) := by
 refine ⟨h.1, ?_⟩
 intro Pr Fz R blks w args vs K hR1 hm hr ho hown ⟨r, ⟨hq, hc⟩, hk⟩
 rcases hc with hc | ⟨hn, hsc⟩
 ·rw [brwL_of hc] at hq
  exact h.2 Pr Fz R blks w args vs K hR1 hm hr ho hown ⟨r, hq, hk⟩
 ·refine (call_lent (st := ⟨[], blks⟩) hm hown h hr hn (brw_occL ho) hq hsc).mono ?_
  rintro e w' ⟨u, rfl, h1, h2, h3, h4, h5⟩
  exact ⟨r, u, blks, Fz, R, rfl, hk, h1, h3, by rw [h2, h5, List.nil_append]; exact h4⟩
def lendK (o : Option (List Prop × PV)) (b : Bool) (vs : List PV) (K : PV → Prop) : Prop := match o with
 | some (ps, r) => conj ps (conj (lentB b vs r) (K r))
 | none => False
theorem conj_all : ∀ (ps : List Prop) (K : Prop), conj ps K = (All ps ∧ K)
 | [], K => by simp [conj, All]
 | p :: ps, K => by
  rw [cj1, conj_all ps K]
  apply propext
  constructor
  ·rintro ⟨h1, h2, h3⟩
   refine ⟨fun q hq => ?_, h3⟩
   rcases List.mem_cons.1 hq with hq | hq
   ·rw [hq]; exact h1
   ·exact h2 q hq
  ·rintro ⟨h1, h3⟩
   exact ⟨h1 p (by simp), fun q hq => h1 q (by simp [hq]), h3⟩
theorem lend_r (F : List PV → Option (List Prop × PV)) (args : List PV) (M : List Blk) (K : PV → List Blk → Prop) : conY none (.read (lendP F)) args M K = lendK (F (args.map (brw M))) (args.any PV.isRef) (args.map (brw M)) (fun r => K r M) := by
 show (∃ r, lendP F args M r ∧ K r M) = _
 apply propext
 unfold lendP lendK
 cases hF : F (args.map (brw M)) with
 | none => simp
 | some x =>
  obtain ⟨ps, r⟩ := x
  simp only [conj_all]
  constructor
  ·rintro ⟨r', ⟨⟨ps', h1, h2⟩, h3⟩, h4⟩
   injection h1 with h1; injection h1 with h1 h5; subst h1; subst h5
   refine ⟨h2, ?_, h4⟩
   intro q hq
   cases hb : args.any PV.isRef with
   | false => rw [hb] at hq; simp [lentB] at hq
   | true =>
    rw [hb] at hq h3
    simp only [lentB, List.mem_cons, List.not_mem_nil, or_false] at hq
    rcases h3 with h3 | h3
    ·cases h3
    ·rcases hq with hq | hq
     ·rw [hq]; exact h3.1
     ·rw [hq]; exact h3.2
  ·rintro ⟨h2, h3, h4⟩
   refine ⟨r, ⟨⟨ps, rfl, h2⟩, ?_⟩, h4⟩
   cases hb : args.any PV.isRef with
   | false => exact .inl rfl
   | true =>
    rw [hb] at h3
    exact .inr ⟨h3 _ (by simp [lentB]), h3 _ (by simp [lentB])⟩
theorem lk_s (ps : List Prop) (r : PV) (b : Bool) (vs : List PV) (K : PV → Prop) : lendK (some (ps, r)) b vs K = conj ps (conj (lentB b vs r) (K r)) := rfl
theorem lb_t (vs : List PV) (r : PV) : lentB true vs r = [norefL vs = true, r.scalar = true] := rfl
theorem lb_f (vs : List PV) (r : PV) : lentB false vs r = [] := rfl
theorem cb_r (Y : Option Yd) (W : List Blk) (R : List PV → List Blk → PV → Prop) (vs : List PV) : callB Y W (some (.con (.read R))) vs = .g [] (conY Y (.read R)) vs := rfl
theorem k_mf (T : List BV) (fn : Fn) (fs cs : Array Operand) : askB T (.makeFunc fn fs cs) = obsB T (fs.toList ++ cs.toList) := rfl
theorem brwP_cells {cs : List PV} (h : cs.all plainCell = true) (o : Nat) (p : PV) : brwP o p (some (.live cs)) = .vptr (stripL cs) o := by rw [bp_l, if_pos h]
theorem plain_sl {k : Nat} {xs : List PV} {o : Bool} (h : norefL xs = true) : plainCell (.sl k xs o) = true := by simp [plainCell, PV.noref, PV.one, PV.solid, h]
theorem frz_v (M : List Blk) (n : Nat) (v : Value) : frz M n (.val v) = .val v := by cases n <;> rfl
theorem brwS_m {α : Type} (e : α → PV) (he : ∀ x, plainCell (e x) = true ∧ (e x).strip = e x) (a : PV) (l : List α) (p : PV) : brwS 1 1 l.length p (some (.live (a :: l.map e))) = .sl 1 (l.map e) false := by
 rw [bs_l]
 have h1 : ((a :: l.map e).drop 1).take (l.length * 1) = l.map e := by
  simp only [List.drop_succ_cons, List.drop_zero, Nat.mul_one]
  exact List.take_of_length_le (by simp)
 rw [h1, if_pos]
 ·congr 1
  have h2 : stripL (l.map e) = l.map e := by
   rw [stripL_eq, List.map_map]
   exact List.map_congr_left fun x _ => (he x).2
  rw [h2]
  clear h1 h2
  induction l with
  | nil => rfl
  | cons x l ih => simp only [List.map_cons, List.length_cons, chunks, ↓reduceIte, List.drop_succ_cons, List.drop_zero, ih]; rfl
 ·refine ⟨by omega, by simp; omega, ?_⟩
  rw [List.all_eq_true]
  intro x hx
  obtain ⟨y, _, rfl⟩ := List.mem_map.1 hx
  exact (he y).1
end Go.Ve
namespace Go.Ve
def rc1 (v : Option PV) (rs : Option (List PV)) : Option (List PV) := match v, rs with
 | some v, some vs => some (v.strip :: vs.map PV.strip)
 | _, _ => none
theorem rb2 (P : Program) (T : List BV) (M : List Blk) (a : Tmp) (t : TypeId) (rs : List ResultVar) : retB P T M (.cell a t :: rs) = rc1 (loadP P M t (getB T a).v) (retB P T M rs) := rfl
theorem rc_s (v : PV) (vs : List PV) : rc1 (some v) (some vs) = some (v.strip :: vs.map PV.strip) := rfl
def ldQ (P : Program) (t : TypeId) (off : Nat) (g : Option Bool) (o : Option Blk) : Option PV := match o with
 | some (.live cs) => match g with
  | some true => if off + sz P t ≤ cs.length then some (.agg ((cs.drop off).take (sz P t))) else none
  | some false => if off < cs.length then some (cs.getD off .junk) else none
  | none => none
 | o => loadP P [o.getD (.frz [])] t (.ptr 0 off)
theorem lq_t (P : Program) (t : TypeId) (off : Nat) (cs : List PV) : ldQ P t off (some true) (some (.live cs)) = if off + sz P t ≤ cs.length then some (.agg ((cs.drop off).take (sz P t))) else none := rfl
theorem lq_f (P : Program) (t : TypeId) (off : Nat) (cs : List PV) : ldQ P t off (some false) (some (.live cs)) = if off < cs.length then some (cs.getD off .junk) else none := rfl
theorem ld_live {P : Program} {t : TypeId} {M : List Blk} {b off : Nat} {cs : List PV} (h : M[b]? = some (.live cs)) : loadP P M t (.ptr b off) = ldQ P t off (aggT P t) (some (.live cs)) := by
 unfold loadP ldQ
 simp only [cellsAt, h, Blk.cells]
 cases aggT P t with
 | none => rfl
 | some g =>
  cases g with
  | true =>
   simp only
   by_cases ho : off + sz P t ≤ cs.length
   ·simp only [ho, ↓reduceIte, Option.map_some]
   ·simp only [ho, ↓reduceIte, Option.map_none]
  | false =>
   simp only
   by_cases ho : off < cs.length
   ·simp only [show off + 1 ≤ cs.length from ho, ho, ↓reduceIte, take_one (z := PV.junk) ho]
   ·simp only [show ¬ off + 1 ≤ cs.length from ho, ho, ↓reduceIte]
end Go.Ve
