/- weirlaw30.HistTexts: part of the proof (a value semantics for the model's code, and the functions told by it). -/
import Derived.Test.YtdfajmeabnmhjaaGreatDoorA9
set_option linter.unusedSimpArgs false
set_option linter.unusedVariables false
set_option linter.deprecated false
namespace Go.Ve
abbrev KB := Exit → List BV → List Blk → Prop
def seqB (f : List BV → List Blk → KB → Prop) (K : KB) : KB
 | .normal, T, M => f T M K
 | e, T, M => K e T M
def blockB (id : Nat) (K : KB) : KB
 | .exit id', T, M => if id' = id then K .normal T M else K (.exit id') T M
 | e, T, M => K e T M
def vals (T : List PV) : List BV := T.map .pv
theorem vals_den (T : List PV) : (vals T).map BV.den = T := by
 induction T with
 | nil => rfl
 | cons x xs ih => simpa [vals, BV.den] using ih
def loopBK (lo : Nat) (I : Nat → List PV → List Blk → Prop) (m : Nat) (K : KB) : KB
 | .normal, T, M => ∃ m', m' < m ∧ ∃ T0 M0, Gc lo (T.map BV.den) M T0 M0 ∧ I m' T0 M0
 | e, T, M => K e T M
def loopBI (lo : Nat) (f : List BV → List Blk → KB → Prop) (T : List BV) (M : List Blk) (K : KB) : Prop :=
 ∃ (I : Nat → List PV → List Blk → Prop), (∃ m T0 M0, Gc lo (T.map BV.den) M T0 M0 ∧ I m T0 M0) ∧ ∀ m T M, I m T M → f (vals T) M (loopBK lo I m K)
def rfKB (n0 : Nat) (T : List BV) (K : KB) (M : List Blk) : Prop := match M[n0]? with
 | some (.loop s pend T0 ps as bd) => s ≠ .busy ∧ match pend with
  | none => K .normal T (M.set n0 (.loop .exhausted none T0 ps as bd))
  | some .ret => K .ret T (M.set n0 (.loop .exhausted (some .ret) T0 ps as bd))
  | some (.exit id) => K (.exit id) T (M.set n0 (.loop .exhausted (some (.exit id)) T0 ps as bd))
  | _ => False
 | _ => False
def yofA (E : Env) (D : FuncId → Option CB) (n0 : Nat) (as bd : Code) : PT := yof n0 as bd (fun lo => awp (E.inRo n0 lo) (conD D) as) (fun lo => awp (E.inRo n0 lo) (conD D) bd)
def rfB (E : Env) (D : FuncId → Option CB) (ps : Array Tmp) (as bd : Code) (v : PV) (T : List BV) (M : List Blk) (K : KB) : Prop := match v with
 | .func (.func f) first cap => match D f with
  | some (.con (.iter C)) => roBlk E M = true ∧ ∀ l R0, up (C ⟨l, R0, yofA E D M.length as bd⟩) (first.map PV.strip ++ [.func (.yield l) [] []] ++ cap.map PV.strip) (M ++ [.loop .ready none (stripL (T.map BV.den)) ps as bd]) (fun _ M' => rfKB M.length T K M')
  | _ => False
 | _ => False
def condB (c : PV) (x y : Prop) : Prop := match c with
 | .val (.bool b) => (b = true → x) ∧ (b = false → y)
 | _ => False
def awpB (E : Env) (D : FuncId → Option CB) (s : Bool) : Code → List BV → List Blk → KB → Prop
 | .skip, T, M, K => K .normal T M
 | .region _ ops false, T, M, K => opsB E D s (ri ops.toList) ops.toList T M (K .normal)
 | .region _ ops true, T, M, K => DrawOk E (conD D) ops.toList ∧ opsB E D s (riD ops.toList) ops.toList T M (K .normal)
 | .seq a b, T, M, K => awpB E D s a T M (seqB (awpB E D s b) K)
 | .cond c x y, T, M, K => conj (obB T c) (condB (evB E.G T c) (awpB E D s x T M K) (awpB E D s y T M K))
 | .block id c, T, M, K => awpB E D s c T M (blockB id K)
 | .loop c, T, M, K => loopBI E.lo (awpB E D s c) T M K
 | .exit id, T, M, K => K (.exit id) T M
 | .goto _, _, _, _ => False
 | .label _, T, M, K => K .normal T M
 | .scope _, _, _, _ => False
 | .ret, T, M, K => K .ret T M
 | .rangeFunc g ps as bd, T, M, K => conj (obB T g) (rfB E D ps as bd (evB E.G T g) T M K)
 | .refuse _, _, _, _ => False
section
variable {E : Env} {D : FuncId → Option CB} {s : Bool}
theorem awpB_sound : ∀ (c : Code) (T : List BV) (M : List Blk) (K : KB), awpB E D s c T M K → awp E (conD D) c ⟨T.map BV.den, M⟩ (KK K)
 | .skip, T, M, K, h => ⟨T, rfl, h⟩
 | .label _, T, M, K, h => ⟨T, rfl, h⟩
 | .ret, T, M, K, h => ⟨T, rfl, h⟩
 | .exit _, T, M, K, h => ⟨T, rfl, h⟩
 | .goto _, _, _, _, h => h.elim
 | .scope _, _, _, _, h => h.elim
 | .refuse _, _, _, _, h => h.elim
 | .rangeFunc g ps as bd, T, M, K, h => by
  obtain ⟨h1, h2⟩ := conj_iff.1 h
  unfold awp
  rw [evB_aev h1]
  unfold rfB at h2
  split at h2
  ·rename_i f first cap hf
   rw [hf]
   simp only
   split at h2
   ·rename_i C hD
    simp only [conD, hD, Option.map_some, CB.toCon]
    refine ⟨h2.1, fun l R0 => up_mono ?_ (h2.2 l R0)⟩
    intro _ M' hr
    unfold rfKB at hr
    unfold rfK
    split at hr
    ·rename_i s0 pend T0 ps0 as0 bd0 hb
     rw [hb]
     refine ⟨hr.1, ?_⟩
     have h3 := hr.2
     split at h3
     ·exact ⟨T, rfl, h3⟩
     ·exact ⟨T, rfl, h3⟩
     ·exact ⟨T, rfl, h3⟩
     ·exact h3.elim
    ·exact hr.elim
   ·exact h2.elim
  ·exact h2.elim
 | .region _ ops false, T, M, K, h => awpOps_mono E (conD D) _ _ _ _ _ (fun st hk => hk) (opsB_sound _ _ _ h)
 | .region _ ops true, T, M, K, h => ⟨h.1, awpOps_mono E (conD D) _ _ _ _ _ (fun st hk => hk) (opsB_sound _ _ _ h.2)⟩
 | .seq a b, T, M, K, h => by
  refine awp_mono E (conD D) a _ _ _ ?_ (awpB_sound a T M _ h)
  rintro e ⟨tm, bl⟩ ⟨T', h1, h2⟩
  simp only at h1 h2; subst h1
  cases e with
  | normal => exact awpB_sound b T' _ K h2
  | _ => exact ⟨T', rfl, h2⟩
 | .cond c x y, T, M, K, h => by
  obtain ⟨h1, h2⟩ := conj_iff.1 h
  unfold awp
  rw [evB_aev h1]
  unfold condB at h2
  split at h2
  ·rename_i b hb
   rw [hb]
   exact ⟨fun ht => awpB_sound x T M K (h2.1 ht), fun hf => awpB_sound y T M K (h2.2 hf)⟩
  ·exact h2.elim
 | .block id c, T, M, K, h => by
  refine awp_mono E (conD D) c _ _ _ ?_ (awpB_sound c T M _ h)
  rintro e ⟨tm, bl⟩ ⟨T', h1, h2⟩
  simp only at h1 h2; subst h1
  cases e with
  | exit id' =>
   simp only [blockB] at h2
   simp only [blockK]
   split
   ·rename_i he; rw [if_pos he] at h2; exact ⟨T', rfl, h2⟩
   ·rename_i he; rw [if_neg he] at h2; exact ⟨T', rfl, h2⟩
  | _ => exact ⟨T', rfl, h2⟩
 | .loop c, T, M, K, h => by
  obtain ⟨I, ⟨m, T0, M0, hg, hI⟩, hr⟩ := h
  refine ⟨fun m st => I m st.tmps st.blks, ⟨m, T0, M0, hg, hI⟩, ?_⟩
  rintro m ⟨tm, bl⟩ hI
  have := awpB_sound c (vals tm) bl _ (hr m tm bl hI)
  rw [vals_den] at this
  refine awp_mono E (conD D) c _ _ _ ?_ this
  rintro e ⟨tm', bl'⟩ ⟨T', h1, h2⟩
  simp only at h1 h2; subst h1
  cases e with
  | normal =>
   obtain ⟨m', k1, T1, M1, k2, k3⟩ := h2
   exact ⟨m', k1, T1, M1, k2, k3⟩
  | _ => exact ⟨T', rfl, h2⟩
end
def retOB (T : List BV) : List ResultVar → List Prop
 | [] => []
 | .tmp t :: rs => (getB T t).ob ++ retOB T rs
 | .cell a _ :: rs => (getB T a).ob ++ retOB T rs
def retB (P : Program) (T : List BV) (M : List Blk) : List ResultVar → Option (List PV)
 | [] => some []
 | .tmp t :: rs => match retB P T M rs with | some vs => some ((getB T t).v :: vs.map PV.strip) | none => none
 | .cell a t :: rs => match loadP P M t (getB T a).v, retB P T M rs with | some v, some vs => some (v.strip :: vs.map PV.strip) | _, _ => none
theorem retB_eq (P : Program) (T : List BV) (M : List Blk) : ∀ rs, All (retOB T rs) → retT P (T.map BV.den) M rs = retB P T M rs
 | [], _ => rfl
 | .tmp t :: rs, h => by
  obtain ⟨h1, h2⟩ := All.app.1 h
  simp only [retT, retB, retB_eq P T M rs h2]
  rw [show getT (T.map BV.den) t = (getB T t).v by rw [← BV.den_ob h1, getB_den]; rfl]
  cases retB P T M rs <;> rfl
 | .cell a t :: rs, h => by
  obtain ⟨h1, h2⟩ := All.app.1 h
  simp only [retT, retB, retB_eq P T M rs h2]
  rw [show getT (T.map BV.den) a = (getB T a).v by rw [← BV.den_ob h1, getB_den]; rfl]
  cases loadP P M t (getB T a).v <;> cases retB P T M rs <;> rfl
def rkB (P : Program) (fn : Func) (K : PV → List Blk → Prop) (T : List BV) (M : List Blk) : Prop := conj (retOB T fn.results.toList) (kr (retB P T M fn.results.toList) M K)
def retBK (P : Program) (fn : Func) (K : PV → List Blk → Prop) : KB
 | .normal, T, M => rkB P fn K T M
 | .ret, T, M => rkB P fn K T M
 | _, _, _ => False
def awpBFn (E : Env) (D : FuncId → Option CB) (s : Bool) (fn : Func) (c : Code) : PT := fun args blks K => awpB { E with lo := blks.length, ro := none } D s c (args.map .pv ++ List.replicate (fn.ntmps - args.length) (.pv .junk)) blks (retBK E.P fn K)
theorem awpBFn_sound {E : Env} {D : FuncId → Option CB} {s : Bool} {fn : Func} {c : Code} {args : List PV} {blks : List Blk} {K : PV → List Blk → Prop} (h : awpBFn E D s fn c args blks K) : awpFn E (conD D) fn c args blks K := by
 unfold awpBFn at h
 have := awpB_sound _ _ _ _ h
 have e : (args.map BV.pv ++ List.replicate (fn.ntmps - args.length) (BV.pv .junk)).map BV.den = args ++ List.replicate (fn.ntmps - args.length) .junk := by
  rw [List.map_append, List.map_replicate]
  congr 1
  exact vals_den args
 rw [e] at this
 refine awp_mono _ (conD D) c _ _ _ ?_ this
 rintro ex ⟨tm, bl⟩ ⟨T', h1, h2⟩
 simp only at h1 h2; subst h1
 have key : rkB E.P fn K T' bl → kr (retT E.P (T'.map BV.den) bl fn.results.toList) bl K := by
  intro hk
  obtain ⟨k1, k2⟩ := conj_iff.1 hk
  rwa [retB_eq _ _ _ _ k1]
 cases ex with
 | normal => rw [K_retn]; exact key h2
 | ret => rw [K_ret]; exact key h2
 | _ => exact h2.elim
def AllB (E : Env) (D : FuncId → Option CB) : Prop := ∀ g c, D g = some c → ConOk E g c.toCon
theorem AllB.con {E : Env} {D : FuncId → Option CB} (h : AllB E D) : AllSound E (conD D) := fun g c hc => by
 unfold conD at hc
 cases hD : D g with
 | none => simp [hD] at hc
 | some b => simp [hD] at hc; subst hc; exact h g b hD
theorem awpFn_mono {E : Env} {D : FuncId → Option Con} {fn : Func} {c : Code} (args : List PV) (B : List Blk) (K K' : PV → List Blk → Prop) (hk : ∀ r b, K r b → K' r b) (h : awpFn E D fn c args B K) : awpFn E D fn c args B K' :=
 awp_mono _ D c _ _ _ (fun e st ⟨h1, h2⟩ => ⟨h1, by
  split at h2
  ·exact hk _ _ h2
  ·exact h2.elim⟩) h
theorem fn_of {dk : Bool} {P : Program} {G : Nat → Option (List PV)} {D : FuncId → Option CB} (hD : AllB ⟨P, G, none, none, 0, [], dk⟩ D) (hmx : P.follows .mixedOrders = true) (s : Bool) {g : FuncId} {fn : Func} {c : Code} (hf : P.funcs[g]? = some fn) (hn : fn.name ≠ "runtime.NumGoroutine") (hb : fn.body = some c)
  (F : List PV → Option (List Prop × PV)) (h : ∀ args ps r, F args = some (ps, r) → All ps → norefL args = true ∧ awpBFn ⟨P, G, none, none, 0, [], dk⟩ D s fn c args [] (fun r' _ => r' = r ∧ r.noref = true)) : SoundD dk P G [] g (conT (CB.fn F).toCon) :=
 Sound.pure (dk := dk) (awpFn_mono) (sound_of_awp hD.con hmx hf hn hb) _ (by
  rintro args r ⟨ps, h1, h2⟩
  obtain ⟨h3, h4⟩ := h args ps r h1 h2
  exact ⟨h3, awpBFn_sound h4⟩)
def loopBQ {α : Type} (lo : Nat) (S : α → List PV) (N : α → List Blk) (P : α → Prop) (μ : α → Nat) (x : α) (K : KB) : KB
 | .normal, T, M => ∃ y, P y ∧ μ y < μ x ∧ Gc lo (T.map BV.den) M (S y) (N y)
 | e, T, M => K e T M
theorem loopBQ_eq {α : Type} (lo : Nat) (S : α → List PV) (N : α → List Blk) (P : α → Prop) (μ : α → Nat) (x : α) (K : KB) : loopBK lo (fun m T M => ∃ x, T = S x ∧ M = N x ∧ P x ∧ m = μ x) (μ x) K = loopBQ lo S N P μ x K := by
 funext e T M
 cases e with
 | normal =>
  apply propext
  simp only [loopBK, loopBQ]
  constructor
  ·rintro ⟨m', h1, T0, M0, h2, y, rfl, rfl, h4, rfl⟩; exact ⟨y, h4, h1, h2⟩
  ·rintro ⟨y, h1, h2, h3⟩; exact ⟨_, h2, _, _, h3, y, rfl, rfl, h1, rfl⟩
 | _ => rfl
theorem loopB_by {α : Type} (S : α → List PV) (N : α → List Blk) (P : α → Prop) (μ : α → Nat) (x0 : α) {lo : Nat} {f : List BV → List Blk → KB → Prop} {T : List BV} {M : List Blk} {K : KB}
  (hg : Gc lo (T.map BV.den) M (S x0) (N x0)) (h0 : P x0) (hr : ∀ x, P x → f (vals (S x)) (N x) (loopBQ lo S N P μ x K)) : loopBI lo f T M K := by
 refine ⟨fun m T M => ∃ x, T = S x ∧ M = N x ∧ P x ∧ m = μ x, ⟨_, _, _, hg, x0, rfl, rfl, h0, rfl⟩, ?_⟩
 rintro m T M ⟨x, rfl, rfl, hx, rfl⟩
 rw [loopBQ_eq]
 exact hr x hx
end Go.Ve
