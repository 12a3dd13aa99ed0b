/- weirlaw30.HistTexts: part of the proof (a value semantics for the model's code, and the functions told by it). -/
import Derived.Test.YtdfajmeabnmhjaaGreatDoorA4
import Derived.RangeFuncLeaves
import Derived.RangeFuncRecord
import Derived.RangeFuncNested
set_option linter.unusedSimpArgs false
set_option linter.unusedVariables false
set_option linter.deprecated false
namespace Go.Ve
def seqK (f : St → (Exit → St → Prop) → Prop) (K : Exit → St → Prop) : Exit → St → Prop
 | .normal, st => f st K
 | e, st => K e st
def blockK (id : Nat) (K : Exit → St → Prop) : Exit → St → Prop
 | .exit id', st => if id' = id then K .normal st else K (.exit id') st
 | e, st => K e st
def wk1 (x y : PV) : Prop := y = .junk ∨ y = x ∨ y = x.strip ∨ ∃ o k o', x = .sl 0 [] o ∧ y = .sl k [] o'
def Wk : List PV → List PV → Prop
 | [], [] => True
 | x :: xs, y :: ys => wk1 x y ∧ Wk xs ys
 | _, _ => False
def WkB : List Blk → List Blk → Prop
 | [], [] => True
 | .live c :: xs, .live c' :: ys => Wk c c' ∧ WkB xs ys
 | x :: xs, y :: ys => x = y ∧ WkB xs ys
 | _, _ => False
def Blk.lt (n : Nat) : Blk → Bool
 | .live c => ltL n c
 | .frz c => ltL n c
 | .loop _ _ T _ _ _ => ltL n T
 | .bld .. => true
def Gc (lo : Nat) (T : List PV) (M : List Blk) (T0 : List PV) (M0 : List Blk) : Prop :=
 Wk T T0 ∧ WkB (M.take M0.length) M0 ∧ (M0.length = M.length ∨ (lo ≤ M0.length ∧ ltL M0.length T0 = true ∧ M0.all (·.lt M0.length) = true))
def loopK (lo : Nat) (I : Nat → St → Prop) (m : Nat) (K : Exit → St → Prop) : Exit → St → Prop
 | .normal, st => ∃ m', m' < m ∧ ∃ T0 M0, Gc lo st.tmps st.blks T0 M0 ∧ I m' ⟨T0, M0⟩
 | e, st => K e st
def loopI (lo : Nat) (f : St → (Exit → St → Prop) → Prop) (st : St) (K : Exit → St → Prop) : Prop :=
 ∃ (I : Nat → St → Prop), (∃ m T0 M0, Gc lo st.tmps st.blks T0 M0 ∧ I m ⟨T0, M0⟩) ∧ ∀ m st, I m st → f st (loopK lo I m K)
def zipSet : List Tmp → List PV → List PV → List PV
 | p :: ps, v :: vs, T => zipSet ps vs (T.set p v)
 | _, _, T => T
def rndK (lo n0 : Nat) (Kr : PV → List Blk → Prop) (e : Exit) (st : St) : Prop :=
 match st.blks[n0]?, e with
 | some (.loop _ _ T ps as bd), .normal => ∃ M1, Gc lo [] (st.blks.set n0 (.loop .ready none T ps as bd)) [] M1 ∧ Kr (.val (.bool true)) M1
 | some (.loop _ _ T ps as bd), .ret => ∃ M1, Gc lo [] (st.blks.set n0 (.loop .done (some .ret) T ps as bd)) [] M1 ∧ Kr (.val (.bool false)) M1
 | some (.loop _ _ T ps as bd), .exit id => ∃ M1, Gc lo [] (st.blks.set n0 (.loop .done (some (.exit id)) T ps as bd)) [] M1 ∧ Kr (.val (.bool false)) M1
 | _, _ => False
def asgK (n0 : Nat) (f : St → (Exit → St → Prop) → Prop) (K : Exit → St → Prop) (e : Exit) (st : St) : Prop :=
 match st.blks[n0]?, e with
 | some (.loop .ready pend T ps as bd), .normal => f ⟨st.tmps, st.blks.set n0 (.loop .busy pend T ps as bd)⟩ K
 | _, _ => False
def yof (n0 : Nat) (as bd : Code) (fa fb : Nat → St → (Exit → St → Prop) → Prop) : PT := fun args M Kr =>
 match M[n0]? with
 | some (.loop s _ T ps as' bd') => s = .ready ∧ as' = as ∧ bd' = bd ∧ args.length = ps.size ∧ fa M.length ⟨zipSet ps.toList args T, M⟩ (asgK n0 (fb M.length) (rndK M.length n0 Kr))
 | _ => False
def rfK (n0 : Nat) (T : List PV) (K : Exit → St → Prop) (M : List Blk) : Prop :=
 match M[n0]? with
 | some (.loop s pend T0 ps as bd) => s ≠ .busy ∧ match pend with
  | none => K .normal ⟨T, M.set n0 (.loop .exhausted none T0 ps as bd)⟩
  | some .ret => K .ret ⟨T, M.set n0 (.loop .exhausted (some .ret) T0 ps as bd)⟩
  | some (.exit id) => K (.exit id) ⟨T, M.set n0 (.loop .exhausted (some (.exit id)) T0 ps as bd)⟩
  | _ => False
 | _ => False
def isLoop : Option Blk → Bool
 | some (.loop ..) => true
 | _ => false
def roBlk (E : Env) (M : List Blk) : Bool := match E.ro with
 | none => true
 | some i => isLoop M[i]?
def Env.inRo (E : Env) (n0 lo : Nat) : Env := { E with ro := some n0, lo := lo }
def awp (E : Env) (D : FuncId → Option Con) : Code → St → (Exit → St → Prop) → Prop
 | .skip, st, K => K .normal st
 | .region _ ops false, st, K => awpOps E D (ri ops.toList) ops.toList st (K .normal)
 | .region _ ops true, st, K => DrawOk E D ops.toList ∧ awpOps E D (riD ops.toList) ops.toList st (K .normal)
 | .seq a b, st, K => awp E D a st (seqK (awp E D b) K)
 | .cond c x y, st, K => match aev E st c with
  | .val (.bool b) => (b = true → awp E D x st K) ∧ (b = false → awp E D y st K)
  | _ => False
 | .block id c, st, K => awp E D c st (blockK id K)
 | .loop c, st, K => loopI E.lo (awp E D c) st K
 | .exit id, st, K => K (.exit id) st
 | .goto _, _, _ => False
 | .label _, st, K => K .normal st
 | .scope _, _, _ => False
 | .ret, st, K => K .ret st
 | .rangeFunc g ps as bd, st, K => match aev E st g with
  | .func (.func f) first cap => match D f with
   | some (.iter T) => roBlk E st.blks = true ∧ ∀ l R0, up (T ⟨l, R0, yof st.blks.length as bd (fun lo => awp (E.inRo st.blks.length lo) D as) (fun lo => awp (E.inRo st.blks.length lo) D bd)⟩)
     (first.map PV.strip ++ [.func (.yield l) [] []] ++ cap.map PV.strip) (st.blks ++ [.loop .ready none (stripL st.tmps) ps as bd]) (fun _ M' => rfK st.blks.length st.tmps K M')
   | _ => False
  | _ => False
 | .refuse _, _, _ => False
def Ext (B0 B : Base) : Prop := ∃ ms, B = { B0 with mrk := ms ++ B0.mrk }
theorem Ext.refl (B : Base) : Ext B B := ⟨[], rfl⟩
theorem Ext.trans {B0 B1 B2 : Base} (h : Ext B0 B1) (k : Ext B1 B2) : Ext B0 B2 := by
 obtain ⟨ms, rfl⟩ := h
 obtain ⟨ms', rfl⟩ := k
 exact ⟨ms' ++ ms, by simp⟩
theorem Ext.mem {E : Env} {B0 B : Base} (h : Ext B0 B) {F : Fz} {R : List Nat} {blks : List Blk} {w : World} (hm : Mem E B F R blks w) : Mem E B0 F R blks w := by
 obtain ⟨ms, rfl⟩ := h
 exact {
     os := hm.os, tape := hm.tape, output := hm.output, drn := hm.drn, size := hm.size, pr := hm.pr, fz := hm.fz, fnew := hm.fnew, fold := hm.fold, rnew := hm.rnew, rold := hm.rold, bound := hm.bound, glob := hm.glob, len := hm.len, nd := hm.nd, blk := hm.blk,
     mks := fun c hc => hm.mks c (List.mem_append_right _ hc), mnd := (List.nodup_append.1 hm.mnd).2.1 }
theorem Ext.pr {B0 B : Base} (h : Ext B0 B) : B.Pr = B0.Pr := by obtain ⟨ms, rfl⟩ := h; rfl
theorem Ext.r0 {B0 B : Base} (h : Ext B0 B) : B.R0 = B0.R0 := by obtain ⟨ms, rfl⟩ := h; rfl
def Post (E : Env) (B0 : Base) (K : Exit → St → Prop) : Exit → Act → World → Prop := fun e a w => ∃ B st F R, Ext B0 B ∧ K e st ∧ Sim E B F R st a w
section
variable {E : Env} {D : FuncId → Option Con} {B : Base} {F : Fz} {R : List Nat} {st : St} {a : Act} {w : World}
theorem awpOps_sound (hD : AllSound E D) (hY : YOk E B) (hlo : B.R0.length ≤ E.lo) {ops : Array Oper} {K : St → Prop} {ro : Option Nat} {n : Nat} {Q : Exit → Act → World → Prop}
  (hQ : ∀ st' F' R' a' w', K st' → Sim E B F' R' st' a' w' → Q .normal a' w') : ∀ (l : List Nat) (st : St) (F : Fz) (R : List Nat) (a : Act) (w : World), (∀ i ∈ l, i < ops.size) → Sim E B F R st a w →
  awpOps E D (ri ops.toList) (l.filterMap fun i => ops[i]?) st K → wpOpsIn (fen ro) n E.P ops Q l a w
 | [], st, F, R, a, w, _, h, hk => hQ _ _ _ _ _ hk h
 | i :: l, st, F, R, a, w, hl, h, hk => by
  have hi := hl i (by simp)
  have ho : ops[i]? = some ops[i] := Array.getElem?_eq_getElem hi
  have hl' : ∀ j ∈ l, j < ops.size := fun j hj => hl j (by simp [hj])
  rw [List.filterMap_cons_some ho] at hk
  simp only [wpOpsIn, ho]
  have go : ∀ st F R a w, Sim E B F R st a w → aop E D (ri ops.toList) ops[i] st (fun st' => awpOps E D (ri ops.toList) (l.filterMap fun i => ops[i]?) st' K) → ops[i].wpIn (fen ro) n E.P a w (wpOpsIn (fen ro) n E.P ops Q l) Q :=
   fun st F R a w h hk => aop_sound hD hY hlo h hk (fun st' F' R' a' w' hk' h' => awpOps_sound hD hY hlo hQ l st' F' R' a' w' hl' h' hk')
  have sk : ∀ st F R a w, Sim E B F R st a w → awpOps E D (ri ops.toList) (l.filterMap fun i => ops[i]?) (st.put ops[i].dst (.tuple [])) K → wpOpsIn (fen ro) n E.P ops Q l (a.put ops[i].dst undef) w :=
   fun st F R a w h hk => awpOps_sound hD hY hlo hQ l _ F R _ w hl' (h.skip _) hk
  unfold awpOps at hk
  cases hg : ops[i].guard with
  | none =>
   simp only [hg] at hk
   have hw : Region.wanted ops[i] (yielded ops a.tmps) = true := by simp [Region.wanted, hg]
   rw [if_pos hw]
   exact go st F R a w h hk
  | some jw =>
   obtain ⟨j, want⟩ := jw
   simp only [hg] at hk
   have hgr := guard_rep h (ops := ops) (j := j) rfl
   split at hk
   ·rename_i b hb
    have hy := hgr.1 b hb
    by_cases hbw : b = want
    ·have hw : Region.wanted ops[i] (yielded ops a.tmps) = true := by simp [Region.wanted, hg, hy, hbw]
     rw [if_pos hw]
     exact go st F R a w h (hk.1 hbw)
    ·have hw : Region.wanted ops[i] (yielded ops a.tmps) = false := by simp [Region.wanted, hg, hy, hbw]
     rw [hw]
     simp only [Bool.false_eq_true, if_false]
     exact ⟨fun _ _ => trivial, sk st F R a w h (hk.2 (by cases b <;> cases want <;> simp_all))⟩
   ·rename_i hb
    have hy := hgr.2 hb
    have hw : Region.wanted ops[i] (yielded ops a.tmps) = false := by simp [Region.wanted, hg, hy]
    rw [hw]
    simp only [Bool.false_eq_true, if_false]
    exact ⟨fun _ _ => trivial, sk st F R a w h hk⟩
   ·exact hk.elim
theorem filterMap_range (ops : Array Oper) : (List.range ops.size).filterMap (fun i => ops[i]?) = ops.toList := by
 apply List.ext_getElem?
 intro j
 have : (List.range ops.size).filterMap (fun i => ops[i]?) = (List.range ops.size).map (fun i => ops.getD i default) := by
  have key : ∀ l : List Nat, (∀ i ∈ l, i < ops.size) → l.filterMap (fun i => ops[i]?) = l.map (fun i => ops.getD i default) := by
   intro l
   induction l with
   | nil => simp
   | cons i l ih =>
    intro h
    have hi := h i (by simp)
    rw [List.filterMap_cons_some (Array.getElem?_eq_getElem hi), ih (fun j hj => h j (by simp [hj]))]
    simp [Array.getD_eq_getD_getElem?, hi]
  exact key _ (fun i hi => List.mem_range.1 hi)
 rw [this]
 by_cases hj : j < ops.size
 ·simp [hj, Array.getD_eq_getD_getElem?]
 ·simp [hj]
theorem wpIn_loopN {ro : Option Nat} {n : Nat} {P : Program} {c : Code} {Q : Exit → Act → World → Prop} (I : Nat → Act → World → Prop)
  (round : ∀ m a w, I m a w → c.wpIn (fen ro) n P (Exit.then (fun a' w' => ∃ m', m' < m ∧ I m' a' w') Q) a w) {m : Nat} {a : Act} {w : World} (h : I m a w) : (Code.loop c).wpIn (fen ro) n P Q a w := by
 intro b k cs hro hb hr
 have key : ∀ m a w, I m a w →
   ∃ e a' w', Q e a' w' ∧ ArrivesIn (Machine.fenced P (fen ro)) P (lone (b.atR a (.code c :: .inLoop c :: k)) cs w) b k cs e a' w' := by
  intro m
  induction m using Nat.strongRecOn with
  | _ m ih =>
   intro a w hI
   obtain ⟨e, a₁, w₁, hq, harr⟩ := round m a w hI b (.inLoop c :: k) cs hro hb hr
   cases e with
   | normal =>
    obtain ⟨m', hlt, hI'⟩ := hq
    obtain ⟨e₂, a₂, w₂, hq₂, harr₂⟩ := ih m' hlt a₁ w₁ hI'
    exact ⟨e₂, a₂, w₂, hq₂, .of_steps (StepsIn.trans harr (.one (fenced_calm hb hr rfl) stepR_inLoop)) harr₂⟩
   | exit id => exact ⟨_, a₁, w₁, hq, .pass (x := .inLoop c) rfl (fun _ _ => .inl (by simp)) harr⟩
   | goto l => exact ⟨_, a₁, w₁, hq, .pass (x := .inLoop c) rfl (fun _ _ => .inl (by simp)) harr⟩
   | ret => exact ⟨_, a₁, w₁, hq, .pass (x := .inLoop c) rfl (fun _ _ => .inl (by simp)) harr⟩
   | panic ch => exact ⟨_, a₁, w₁, hq, .pass (x := .inLoop c) rfl (fun _ _ => .inl (by simp)) harr⟩
   | outgrown => exact ⟨_, a₁, w₁, hq, .pass (x := .inLoop c) rfl (fun _ _ => .inl (by simp)) harr⟩
 obtain ⟨e, a', w', hq, harr⟩ := key _ a w h
 exact ⟨e, a', w', hq, .of_steps (.one (fenced_calm hb hr rfl) stepR_loop) harr⟩
theorem wk1_rep {x y : PV} (h : wk1 x y) {v : Value} (hr : Rep F R x v) : Rep F R y v ∧ Sub (occ y v) (occ x v) := by
 rcases h with rfl | rfl | rfl | ⟨o, k, o', rfl, rfl⟩
 ·exact ⟨.junk, by rw [occ_free _ _ rfl]; exact Sub.nil _⟩
 ·exact ⟨hr, Sub.refl _⟩
 ·exact ⟨hr.strip, by rw [occ_strip]; exact Sub.nil _⟩
 ·cases hr with
  | slnil => exact ⟨.slnil, by cases o' <;> simp [occ] <;> exact Sub.nil _⟩
  | sl us hk0 => exact absurd hk0 (Nat.lt_irrefl 0)
theorem Wk_rep : ∀ {xs ys : List PV} {vs : List Value}, Wk xs ys → RepL F R xs vs → RepL F R ys vs ∧ Sub (occL ys vs) (occL xs vs)
 | [], [], _, _, hr => ⟨hr, Sub.refl _⟩
 | x :: xs, y :: ys, _, h, .cons h1 t => by
  obtain ⟨a1, a2⟩ := wk1_rep h.1 h1
  obtain ⟨b1, b2⟩ := Wk_rep h.2 t
  exact ⟨.cons a1 b1, by simp only [occL]; exact Sub.append a2 b2⟩
 | [], _ :: _, _, h, _ => h.elim
 | _ :: _, [], _, h, _ => h.elim
theorem WkB_get : ∀ {xs ys : List Blk} (_ : WkB xs ys), ys.length = xs.length ∧ ∀ (i : Nat) y, ys[i]? = some y → ∃ x, xs[i]? = some x ∧ (x = y ∨ ∃ c c', x = .live c ∧ y = .live c' ∧ Wk c c')
 | [], [], _ => ⟨rfl, fun i y h => by simp at h⟩
 | .live c :: xs, .live c' :: ys, h => by
  obtain ⟨h1, h2⟩ := WkB_get h.2
  refine ⟨by simp [h1], fun i y hy => ?_⟩
  cases i with
  | zero => simp at hy; subst hy; exact ⟨_, rfl, .inr ⟨c, c', rfl, rfl, h.1⟩⟩
  | succ i => exact h2 i y (by simpa using hy)
 | .live c :: xs, .frz c' :: ys, h => by exact absurd h.1 (by simp)
 | .live c :: xs, .loop .. :: ys, h => by exact absurd h.1 (by simp)
 | .loop s pe T ps as_ bd :: xs, y0 :: ys, h => by
  obtain ⟨h1, h2⟩ := WkB_get h.2
  have he : Blk.loop s pe T ps as_ bd = y0 := h.1
  refine ⟨by simp [h1], fun i y hy => ?_⟩
  cases i with
  | zero => simp at hy; subst hy; exact ⟨_, rfl, .inl he⟩
  | succ i => exact h2 i y (by simpa using hy)
 | .bld T e pre s :: xs, y0 :: ys, h => by
  obtain ⟨h1, h2⟩ := WkB_get h.2
  have he : Blk.bld T e pre s = y0 := h.1
  refine ⟨by simp [h1], fun i y hy => ?_⟩
  cases i with
  | zero => simp at hy; subst hy; exact ⟨_, rfl, .inl he⟩
  | succ i => exact h2 i y (by simpa using hy)
 | .live c :: xs, .bld .. :: ys, h => by exact absurd h.1 (by simp)
 | .bld .. :: _, [], h => h.elim
 | .frz c :: xs, y0 :: ys, h => by
  obtain ⟨h1, h2⟩ := WkB_get h.2
  have he : Blk.frz c = y0 := h.1
  refine ⟨by simp [h1], fun i y hy => ?_⟩
  cases i with
  | zero => simp at hy; subst hy; exact ⟨_, rfl, .inl he⟩
  | succ i => exact h2 i y (by simpa using hy)
 | [], _ :: _, h => h.elim
 | .live _ :: _, [], h => h.elim
 | .frz _ :: _, [], h => h.elim
 | .loop .. :: _, [], h => h.elim
theorem occL_pre : ∀ (ps : List PV) (vs : List Value), occL ps (vs.take ps.length) = occL ps vs := by
 intro ps
 induction ps with
 | nil => intro vs; simp [occL]
 | cons p ps ih =>
  intro vs
  cases vs with
  | nil => simp [occL]
  | cons v vs => simp [occL, ih vs]
theorem WkB_occ {F : Fz} {R' : List Nat} {w : World} : ∀ {xs ys : List Blk} (_ : WkB xs ys) (R : List Nat), (∀ (i : Nat) c cs, R[i]? = some c → xs[i]? = some (.live cs) → RepL F R' cs ((cellsW w c).take cs.length)) → Sub (occB w R ys) (occB w R xs)
 | [], [], _, R, _ => Sub.refl _
 | .live c :: xs, .live c' :: ys, h, [], _ => by simp only [occB]; exact Sub.refl _
 | .live c :: xs, .live c' :: ys, h, r :: R, hr => by
  simp only [occB]
  refine Sub.append (by
   have h0 := hr 0 r c rfl rfl
   obtain ⟨w1, w2⟩ := Wk_rep h.1 h0
   have hl : c'.length = c.length := w1.length.symm.trans h0.length
   rw [← occL_pre c', ← occL_pre c, hl]; exact w2) (WkB_occ h.2 R (fun i c cs h1 h2 => hr (i + 1) c cs (by simpa using h1) (by simpa using h2)))
 | .live c :: xs, .frz c' :: ys, h, _, _ => by exact absurd h.1 (by simp)
 | .live c :: xs, .loop .. :: ys, h, _, _ => by exact absurd h.1 (by simp)
 | .loop s pe T ps as_ bd :: xs, y0 :: ys, h, R, hr => by
  have he : Blk.loop s pe T ps as_ bd = y0 := h.1
  subst he
  cases R with
  | nil => simp only [occB]; exact Sub.refl _
  | cons r R => simp only [occB]; exact WkB_occ h.2 R (fun i c cs h1 h2 => hr (i + 1) c cs (by simpa using h1) (by simpa using h2))
 | .bld T e pre s :: xs, y0 :: ys, h, R, hr => by
  have he : Blk.bld T e pre s = y0 := h.1
  subst he
  cases R with
  | nil => simp only [occB]; exact Sub.refl _
  | cons r R => simp only [occB]; exact Sub.append (Sub.refl _) <| WkB_occ h.2 R (fun i c cs h1 h2 => hr (i + 1) c cs (by simpa using h1) (by simpa using h2))
 | .live c :: xs, .bld .. :: ys, h, _, _ => by exact absurd h.1 (by simp)
 | .bld .. :: _, [], h, _, _ => h.elim
 | .frz c :: xs, y0 :: ys, h, R, hr => by
  have he : Blk.frz c = y0 := h.1
  subst he
  cases R with
  | nil => simp only [occB]; exact Sub.refl _
  | cons r R => simp only [occB]; exact WkB_occ h.2 R (fun i c cs h1 h2 => hr (i + 1) c cs (by simpa using h1) (by simpa using h2))
 | [], _ :: _, h, _, _ => h.elim
 | .live _ :: _, [], h, _, _ => h.elim
 | .frz _ :: _, [], h, _, _ => h.elim
 | .loop .. :: _, [], h, _, _ => h.elim
theorem Sim.weaken (h : Sim E B F R st a w) {T0 : List PV} {M0 : List Blk} (hT : Wk st.tmps T0) (hM : WkB st.blks M0) : Sim E B F R ⟨T0, M0⟩ a w := by
 obtain ⟨t1, t2⟩ := Wk_rep hT h.tmps
 obtain ⟨m1, m2⟩ := WkB_get hM
 have hm := h.mem
 refine ⟨{ os := hm.os, tape := hm.tape, output := hm.output, drn := hm.drn, size := hm.size, pr := hm.pr, fz := hm.fz, fnew := hm.fnew, fold := hm.fold, rnew := hm.rnew, rold := hm.rold, bound := hm.bound, glob := hm.glob, len := by rw [m1]; exact hm.len, nd := hm.nd, blk := fun i c y hc hy => ?_, mks := hm.mks, mnd := hm.mnd }, t1, h.defers, ?_⟩
 ·obtain ⟨x, hx, h'⟩ := m2 i y hy
  have hok := hm.blk i c x hc hx
  rcases h' with rfl | ⟨cs, cs', rfl, rfl, hw⟩
  ·exact hok
  ·obtain ⟨k1, k2, vs, T, k3, k4, k5⟩ := hok
   have k6 := (Wk_rep hw k4).1
   have hl : cs'.length = cs.length := k6.length.symm.trans k4.length
   exact ⟨k1, k2, vs, T, k3, by rw [hl]; exact k6, by rw [hl]; exact k5⟩
 ·refine h.own.sub (Sub.append t2 (WkB_occ (F := F) (R' := R) hM R (fun i c cs hc hx => ?_)))
  obtain ⟨_, _, vs, T, k3, k4, _⟩ := hm.blk i c _ hc hx
  simpa [cellsW, k3] using k4
theorem Mem.putObj (hm : Mem E B F R st.blks w) {c : Nat} {o o' : Obj} (hc : w.heap[c]? = some o) (ho : ∀ vs T p, o ≠ .cells vs T p) (hp : ¬ B.Pr c) (hR : c ∉ R) (hmk : c ∉ B.mrk) : Mem E B F R st.blks (w.putObj c o') := by
 have hoth : ∀ b, b ≠ c → (w.putObj c o').heap[b]? = w.heap[b]? := fun b hb => World.putObj_heap_other hb
 have hF : ∀ b x v, F b x = some v → b ≠ c := fun b x v hv e => by
  subst e
  have := (hm.fz b x v hv).1
  unfold World.cell? at this
  rw [hc] at this
  cases o with
  | cells vs T p => exact ho vs T p rfl
  | _ => simp at this
 exact {
     os := hm.os, tape := hm.tape, output := hm.output, drn := hm.drn, size := by simpa using hm.size
     pr := fun b hb => ⟨(hm.pr b hb).1, (hoth b (fun e => hp (e ▸ hb))).trans (hm.pr b hb).2⟩
     fz := fun b x v hv => ⟨by rw [← (hm.fz b x v hv).1]; unfold World.cell?; rw [hoth b (hF b x v hv)], (hm.fz b x v hv).2⟩
     fnew := hm.fnew, fold := hm.fold, rnew := hm.rnew, rold := hm.rold
     bound := fun c' h' => by simpa using hm.bound c' h'
     glob := hm.glob, len := hm.len, nd := hm.nd
     blk := fun i c' b h1 h2 => (hm.blk i c' b h1 h2).mono (Fz.le_refl F) (Rle.refl R) (fun _ h => h) (hoth c' (fun e => hR (e ▸ List.mem_of_getElem? h1)))
     mks := fun c' hc' => by
      obtain ⟨k1, k2, k3⟩ := hm.mks c' hc'
      exact ⟨by rw [hoth c' (by rintro rfl; exact hmk hc')]; exact k1, k2, k3⟩
     mnd := hm.mnd }
theorem Owned.putObj {Pr : Nat → Prop} {l : List Occ} (ho : Owned Pr F R w l) {c : Nat} {o o' : Obj} (hc : w.heap[c]? = some o) (hno : ∀ vs T p, o ≠ .cells vs T p) : Owned Pr F R (w.putObj c o') l :=
 ⟨ho.1, fun q hq => by
  have hok := ho.2 q hq
  refine hok.mono (fun h => h) (fun _ h => h) (World.putObj_heap_other ?_)
  intro e
  obtain ⟨_, _, _, _, vs, T, h5, _⟩ := hok
  rw [e, hc] at h5
  exact hno _ _ _ (Option.some.inj h5)⟩
theorem Sim.putObj (h : Sim E B F R st a w) {c : Nat} {o o' : Obj} (hc : w.heap[c]? = some o) (ho : ∀ vs T p, o ≠ .cells vs T p) (hp : ¬ B.Pr c) (hR : c ∉ R) (hmk : c ∉ B.mrk) : Sim E B F R st a (w.putObj c o') := by
 refine ⟨h.mem.putObj hc ho hp hR hmk, h.tmps, h.defers, ?_⟩
 have e : occB (w.putObj c o') R st.blks = occB w R st.blks := occB_congr R st.blks (fun c' h' => World.putObj_heap_other (fun e => hR (by rw [← e]; exact h')))
 rw [e]
 exact h.own.putObj hc ho
theorem YOk.ext {B0 : Base} (h : YOk E B0) (hx : Ext B0 B) : YOk E B := fun y hy => ⟨(h y hy).1, by rw [hx.r0]; exact (h y hy).2⟩
theorem Wk_refl' : ∀ l : List PV, Wk l l
 | [] => trivial
 | _ :: l => ⟨.inr (.inl rfl), Wk_refl' l⟩
theorem WkB_refl' : ∀ l : List Blk, WkB l l
 | [] => trivial
 | .live c :: l => ⟨Wk_refl' c, WkB_refl' l⟩
 | .frz _ :: l => ⟨rfl, WkB_refl' l⟩
 | .loop .. :: l => ⟨rfl, WkB_refl' l⟩
 | .bld .. :: l => ⟨rfl, WkB_refl' l⟩
theorem WkB_app : ∀ {xs ys : List Blk} (zs : List Blk), WkB xs ys → WkB (xs ++ zs) (ys ++ zs)
 | [], [], zs, _ => WkB_refl' zs
 | .live c :: xs, .live c' :: ys, zs, h => ⟨h.1, WkB_app zs h.2⟩
 | .loop .. :: xs, y0 :: ys, zs, h => ⟨h.1, WkB_app zs h.2⟩
 | .bld .. :: xs, y0 :: ys, zs, h => ⟨h.1, WkB_app zs h.2⟩
 | .live c :: xs, .bld .. :: ys, _, h => by exact absurd h.1 (by simp)
 | .bld .. :: _, [], _, h => h.elim
 | .frz c :: xs, y0 :: ys, zs, h => ⟨h.1, WkB_app zs h.2⟩
 | .live c :: xs, .frz c' :: ys, _, h => by exact absurd h.1 (by simp)
 | .live c :: xs, .loop .. :: ys, _, h => by exact absurd h.1 (by simp)
 | [], _ :: _, _, h => h.elim
 | .live _ :: _, [], _, h => h.elim
 | .frz _ :: _, [], _, h => h.elim
 | .loop .. :: _, [], _, h => h.elim
theorem occB_take {w : World} : ∀ (R : List Nat) (M : List Blk) (n : Nat), Sub (occB w (R.take n) (M.take n)) (occB w R M)
 | [], M, n => by cases M <;> cases n <;> simp [occB] <;> exact Sub.refl _
 | c :: R, [], n => by cases n <;> simp [occB] <;> exact Sub.refl _
 | c :: R, b :: M, 0 => by simp [occB]; exact Sub.nil _
 | c :: R, b :: M, n + 1 => by
  have ih := occB_take (w := w) R M n
  cases b <;> simp only [List.take_succ_cons, occB] <;> first | exact Sub.append (Sub.refl _) ih | exact ih
theorem BlkOk.take {Pr : Nat → Prop} {c n : Nat} {b : Blk} (h : BlkOk Pr F R w c b) (hl : b.lt n = true) : BlkOk Pr F (R.take n) w c b := by
 cases b with
 | live cs =>
  obtain ⟨h1, h2, vs, T, h3, h4, h5⟩ := h
  exact ⟨h1, h2, vs, T, h3, h4.take_R hl, h5⟩
 | frz cs =>
  obtain ⟨us, h1, h2⟩ := h
  exact ⟨us, h1.take_R hl, h2⟩
 | loop =>
  obtain ⟨h1, fn, tm, d, h2, h3⟩ := h
  exact ⟨h1, fn, tm, d, h2, h3.1.take_R hl, h3.2⟩
 | bld => exact h
theorem Sim.drop {T : List PV} {M Z : List Blk} (h : Sim E B F R ⟨T, M ++ Z⟩ a w) (hlo : B.R0.length ≤ M.length) (hT : ltL M.length T = true) (hM : M.all (·.lt M.length) = true) : Sim E B F (R.take M.length) ⟨T, M⟩ a w := by
 have hm := h.mem
 have hlen : R.length = M.length + Z.length := by simpa using hm.len
 have hsub : ∀ c ∈ R.take M.length, c ∈ R := fun c hc => List.mem_of_mem_take hc
 refine ⟨{
      os := hm.os, tape := hm.tape, output := hm.output, drn := hm.drn, size := hm.size, pr := hm.pr, fz := hm.fz, fnew := hm.fnew, fold := hm.fold, rnew := fun c hc => hm.rnew c (hsub c hc), rold := fun i c hi => ?_, bound := fun c hc => hm.bound c (hsub c hc), glob := hm.glob,
      len := by simp; omega, nd := hm.nd.sublist (List.take_sublist _ _), blk := fun i c b hc hb => ?_, mks := fun c hc => ⟨(hm.mks c hc).1, fun hin => (hm.mks c hc).2.1 (hsub c hin), (hm.mks c hc).2.2⟩, mnd := hm.mnd }, h.tmps.take_R hT, h.defers, ?_⟩
 ·have h1 := hm.rold i c hi
  have h2 := (List.getElem?_eq_some_iff.1 hi).1
  rw [List.getElem?_take, if_pos (by omega)]; exact h1
 ·rw [List.getElem?_take] at hc
  split at hc
  ·rename_i hi
   exact (hm.blk i c b hc (by rw [List.getElem?_append_left (by simpa using hi)]; exact hb)).take (List.all_eq_true.1 hM b (List.mem_of_getElem? hb))
  ·simp at hc
 ·have hs : Sub (occB w (R.take M.length) M) (occB w R (M ++ Z)) := by
   have := occB_take (w := w) R (M ++ Z) M.length
   simpa using this
  have ho := h.own.sub (Sub.append (Sub.refl _) hs)
  exact ⟨ho.1, fun q hq => by
   obtain ⟨h1, h2, h3⟩ := ho.2 q hq
   exact ⟨h1, fun hin => h2 (hsub _ hin), h3⟩⟩
theorem Sim.gc (h : Sim E B F R st a w) {lo : Nat} (hlo : B.R0.length ≤ lo) {T0 : List PV} {M0 : List Blk} (hg : Gc lo st.tmps st.blks T0 M0) : ∃ R', Sim E B F R' ⟨T0, M0⟩ a w := by
 obtain ⟨hT, hM, hd⟩ := hg
 obtain ⟨m1, _⟩ := WkB_get hM
 simp only [List.length_take] at m1
 have hw := h.weaken (T0 := T0) (M0 := M0 ++ st.blks.drop M0.length) hT (by
  have := WkB_app (st.blks.drop M0.length) hM
  rwa [List.take_append_drop] at this)
 rcases hd with hd | ⟨h1, h2, h3⟩
 ·rw [hd, List.drop_length, List.append_nil] at hw
  exact ⟨R, hw⟩
 ·exact ⟨_, hw.drop (by omega) h2 h3⟩
def recOf (s : LoopState) (pend : Option Code) (fn : FuncId) (tm : Array Value) (ps : Array Tmp) (as bd : Code) (d : Nat) : Loop := { state := s, pending := pend, fn := fn, tmps := tm, params := ps, assign := as, body := bd, defers := d }
theorem occB_setLoop {w w' : World} : ∀ (R : List Nat) (M : List Blk) (i : Nat) (b b' : Blk), (∀ x ∈ R, R[i]? ≠ some x → w'.heap[x]? = w.heap[x]?) → R.Nodup → M[i]? = some b → isLoop (some b) = true → isLoop (some b') = true → occB w' R (M.set i b') = occB w R M
 | [], M, i, b, b', _, _, _, _, _ => by cases M <;> cases i <;> simp [occB]
 | c :: R, [], i, b, b', _, _, h, _, _ => by simp at h
 | c :: R, x :: M, 0, b, b', h0, hn, h, h1, h2 => by
  simp at h; subst h
  have hn' := List.nodup_cons.1 hn
  have e := occB_congr (w := w) (w' := w') R M (fun y hy => h0 y (by simp [hy]) (by simp; rintro rfl; exact hn'.1 hy))
  cases x <;> cases b' <;> simp [isLoop] at h1 h2
  simp [occB, e]
 | c :: R, x :: M, i + 1, b, b', h0, hn, h, h1, h2 => by
  have hn' := List.nodup_cons.1 hn
  have ih := occB_setLoop (w := w) (w' := w') R M i b b' (fun y hy hne => h0 y (by simp [hy]) (by simpa using hne)) hn'.2 (by simpa using h) h1 h2
  have hc : (c :: R)[i + 1]? ≠ some c := by
   simp; intro e
   exact hn'.1 (List.mem_of_getElem? e)
  have hcell : cellsW w' c = cellsW w c := by simp [cellsW, h0 c (by simp) hc]
  cases x <;> simp [occB, ih, hcell]
theorem Mem.putLoop {blks : List Blk} (hm : Mem E B F R blks w) {n0 l : Nat} {s s' : LoopState} {pend pend' : Option Code} {T : List PV} {ps : Array Tmp} {as bd : Code} {fn : FuncId} {tm : Array Value} {d : Nat} (hl : R[n0]? = some l) (hb : blks[n0]? = some (.loop s pend T ps as bd))
  (hh : w.heap[l]? = some (.loop (recOf s pend fn tm ps as bd d))) : Mem E B F R (blks.set n0 (.loop s' pend' T ps as bd)) (w.putObj l (.loop (recOf s' pend' fn tm ps as bd d))) := by
 obtain ⟨hnp, fn', tm', d', hh', hrep⟩ := hm.blk n0 l _ hl hb
 have hoth : ∀ b, b ≠ l → (w.putObj l (.loop (recOf s' pend' fn tm ps as bd d))).heap[b]? = w.heap[b]? := fun b hb => World.putObj_heap_other hb
 have hlt := (Array.getElem?_eq_some_iff.1 hh).1
 have heq : tm = tm' := by rw [hh] at hh'; simp [recOf] at hh'; exact hh'.2.1
 subst heq
 exact {
     os := hm.os, tape := hm.tape, output := hm.output, drn := hm.drn, size := by simpa using hm.size
     pr := fun b hb => ⟨(hm.pr b hb).1, (hoth b (fun e => hnp (e ▸ hb))).trans (hm.pr b hb).2⟩
     fz := fun b x v hv => by
      have hne : b ≠ l := fun e => by
       subst e
       have := (hm.fz b x v hv).1
       unfold World.cell? at this
       rw [hh] at this; simp at this
      exact ⟨by rw [← (hm.fz b x v hv).1]; unfold World.cell?; rw [hoth b hne], (hm.fz b x v hv).2⟩
     fnew := hm.fnew, fold := hm.fold, rnew := hm.rnew, rold := hm.rold
     bound := fun c' h' => by simpa using hm.bound c' h'
     glob := hm.glob, len := by simp [hm.len], nd := hm.nd
     blk := fun i c b h1 h2 => by
      by_cases hi : i = n0
      ·subst hi
       obtain rfl : l = c := by rw [hl] at h1; exact Option.some.inj h1
       rw [List.getElem?_set_self (List.getElem?_eq_some_iff.1 hb).1] at h2
       simp at h2; subst h2
       exact ⟨hnp, fn, tm, d, World.putObj_heap_same hlt, hrep⟩
      ·rw [List.getElem?_set_ne (Ne.symm hi)] at h2
       have hne : c ≠ l := by
        rintro rfl
        exact hi ((List.getElem?_inj (List.getElem?_eq_some_iff.1 h1).1 hm.nd).1 (h1.trans hl.symm))
       exact (hm.blk i c b h1 h2).mono (Fz.le_refl F) (Rle.refl R) (fun _ h => h) (hoth c hne)
     mks := fun c hc => by
      obtain ⟨h1, h2, h3⟩ := hm.mks c hc
      exact ⟨by rw [hoth c (by rintro rfl; exact h2 (List.mem_of_getElem? hl))]; exact h1, h2, h3⟩
     mnd := hm.mnd }
theorem Owned.putLoop {blks : List Blk} (hm : Mem E B F R blks w) {n0 l : Nat} {s s' : LoopState} {pend pend' : Option Code} {T : List PV} {ps : Array Tmp} {as bd : Code} {r : Loop} {o' : Obj} {lo : List Occ} (hl : R[n0]? = some l) (hb : blks[n0]? = some (.loop s pend T ps as bd)) (hh : w.heap[l]? = some (.loop r))
  (ho : Owned B.Pr F R w (lo ++ occB w R blks)) : Owned B.Pr F R (w.putObj l o') (lo ++ occB (w.putObj l o') R (blks.set n0 (.loop s' pend' T ps as bd))) := by
 rw [occB_setLoop (w := w) R blks n0 _ _ (fun x hx hne => World.putObj_heap_other (by rintro rfl; exact hne hl)) hm.nd hb rfl rfl]
 exact ho.putObj hh (by simp)
theorem Mem.mark {blks : List Blk} (hm : Mem E B F R blks w) : Mem E { B with mrk := w.heap.size :: B.mrk } F R blks (w.alloc (.deferred (some []))) := by
 have hold : ∀ b, b < w.heap.size → (w.alloc (.deferred (some []))).heap[b]? = w.heap[b]? := fun b hb => RowKit.Below.heap_alloc _ _ _ hb
 have hsz : (w.alloc (.deferred (some []))).heap.size = w.heap.size + 1 := World.size_alloc ..
 exact {
     os := hm.os, tape := hm.tape, output := hm.output, drn := hm.drn, size := by rw [hsz]; exact Nat.le_succ_of_le hm.size
     pr := fun b hb => by
      obtain ⟨h2, h3⟩ := hm.pr b hb
      exact ⟨h2, by rw [hold b (Nat.lt_of_lt_of_le h2 hm.size)]; exact h3⟩
     fz := fun b o v h => by rw [cell_congr (hold b (hm.F_lt h))]; exact hm.fz b o v h
     fnew := hm.fnew, fold := hm.fold, rnew := hm.rnew, rold := hm.rold
     bound := fun c hc => by rw [hsz]; exact Nat.lt_succ_of_lt (hm.bound c hc)
     glob := hm.glob, len := hm.len, nd := hm.nd
     blk := fun i c b h1 h2 => (hm.blk i c b h1 h2).mono (Fz.le_refl F) (Rle.refl R) (fun _ h => h) (hold c (hm.bound c (List.mem_of_getElem? h1)))
     mks := fun c hc => by
      rcases List.mem_cons.1 hc with rfl | hc
      ·exact ⟨World.alloc_heap_new _ _, fun hin => by have := hm.bound _ hin; omega, fun hp => by have := (hm.pr _ hp).1; have := hm.size; omega⟩
      ·obtain ⟨h1, h2, h3⟩ := hm.mks c hc
       exact ⟨by rw [hold c (Array.getElem?_eq_some_iff.1 h1).1]; exact h1, h2, h3⟩
     mnd := List.nodup_cons.2 ⟨fun hin => by have := (Array.getElem?_eq_some_iff.1 (hm.mks _ hin).1).1; omega, hm.mnd⟩ }
theorem Mem.record {blks : List Blk} (hm : Mem E B F R blks w) {s : LoopState} {pend : Option Code} {T : List PV} {ps : Array Tmp} {as bd : Code} {fn : FuncId} {tm : Array Value} {d : Nat} (hr : RepL F R T tm.toList) (hoc : occL T tm.toList = []) :
  Mem E B F (R ++ [w.heap.size]) (blks ++ [.loop s pend T ps as bd]) (w.alloc (.loop (recOf s pend fn tm ps as bd d))) := by
 have hold : ∀ b, b < w.heap.size → (w.alloc (.loop (recOf s pend fn tm ps as bd d))).heap[b]? = w.heap[b]? := fun b hb => RowKit.Below.heap_alloc _ _ _ hb
 have hsz : (w.alloc (.loop (recOf s pend fn tm ps as bd d))).heap.size = w.heap.size + 1 := World.size_alloc ..
 exact {
     os := hm.os, tape := hm.tape, output := hm.output, drn := hm.drn, size := by rw [hsz]; exact Nat.le_succ_of_le hm.size
     pr := fun b hb => by
      obtain ⟨h2, h3⟩ := hm.pr b hb
      exact ⟨h2, by rw [hold b (Nat.lt_of_lt_of_le h2 hm.size)]; exact h3⟩
     fz := fun b o v h => by rw [cell_congr (hold b (hm.F_lt h))]; exact hm.fz b o v h
     fnew := hm.fnew, fold := hm.fold
     rnew := fun c hc => by
      rcases List.mem_append.1 hc with hc | hc
      ·exact hm.rnew c hc
      ·simp at hc; subst hc; exact .inr hm.size
     rold := hm.rold.trans (Rle.append _ _)
     bound := fun c hc => by
      rw [hsz]
      rcases List.mem_append.1 hc with hc | hc
      ·exact Nat.lt_succ_of_lt (hm.bound c hc)
      ·simp at hc; omega
     glob := hm.glob, len := by simp [hm.len]
     nd := by
      rw [List.nodup_append]
      refine ⟨hm.nd, by simp, fun a ha b hb => ?_⟩
      simp at hb; subst hb
      have := hm.bound a ha; omega
     blk := fun i c b hc hb => by
      by_cases hi : i < R.length
      ·rw [List.getElem?_append_left hi] at hc
       rw [List.getElem?_append_left (by rw [← hm.len]; exact hi)] at hb
       exact (hm.blk i c b hc hb).mono (Fz.le_refl F) (Rle.append _ _) (fun _ h => h) (hold c (hm.bound c (List.mem_of_getElem? hc)))
      ·have hi' : i = R.length := by
        obtain ⟨hlt, _⟩ := List.getElem?_eq_some_iff.1 hc
        simp at hlt; omega
       subst hi'
       have hl := hm.len
       simp at hc; subst hc
       rw [hl] at hb
       simp at hb; subst hb
       exact ⟨fun hp => by have := (hm.pr _ hp).1; have := hm.size; omega, fn, tm, d, World.alloc_heap_new _ _, hr.mono (Fz.le_refl F) (Rle.append _ _), hoc⟩
     mks := fun c hc => by
      obtain ⟨h1, h2, h3⟩ := hm.mks c hc
      have hlt := (Array.getElem?_eq_some_iff.1 h1).1
      exact ⟨by rw [hold c hlt]; exact h1, fun hin => by
       rcases List.mem_append.1 hin with hin | hin
       ·exact h2 hin
       ·simp at hin; omega, h3⟩
     mnd := hm.mnd }
theorem Owned.allocObj {Pr : Nat → Prop} {l : List Occ} {o : Obj} {R' : List Nat} (hR : ∀ c ∈ R', c ∈ R ∨ w.heap.size ≤ c) (ho : Owned Pr F R w l) : Owned Pr F R' (w.alloc o) l :=
 ⟨ho.1, fun q hq => by
  have hok := ho.2 q hq
  have hlt := hok.lt
  exact hok.mono (fun hin => by
   rcases hR _ hin with h | h
   ·exact h
   ·omega) (fun _ h => h) (RowKit.Below.heap_alloc _ _ _ hlt)⟩
theorem zip_rep : ∀ (ps : List Tmp) (vs : List PV) (us : List Value) (T : List PV) (tm : Array Value), RepL F R vs us → occL vs us = [] → RepL F R T tm.toList → occL T tm.toList = [] →
  RepL F R (zipSet ps vs T) ((ps.zip us).foldl (fun t (p, v) => t.setIfInBounds p v) tm).toList ∧ occL (zipSet ps vs T) ((ps.zip us).foldl (fun t (p, v) => t.setIfInBounds p v) tm).toList = []
 | [], vs, us, T, tm, _, _, h2, h3 => by cases vs <;> exact ⟨h2, h3⟩
 | p :: ps, _, _, T, tm, .nil, _, h2, h3 => ⟨h2, h3⟩
 | p :: ps, v :: vs, u :: us, T, tm, .cons h1 t, ho, h2, h3 => by
  simp only [zipSet, List.zip_cons_cons, List.foldl_cons]
  simp only [occL, List.append_eq_nil_iff] at ho
  refine zip_rep ps vs us _ _ t ho.2 ?_ ?_
  ·rw [Array.toList_setIfInBounds]; exact RepL.set h1 h2 p
  ·rw [Array.toList_setIfInBounds]
   have := occL_set_none T tm.toList p v u h2.length ho.1
   rw [h3] at this
   exact List.eq_nil_iff_forall_not_mem.2 fun q hq => by have := this.2 q hq; simp at this
def CodeOk (D : FuncId → Option Con) (c : Code) : Prop :=
 ∀ (E : Env), AllSound E D → E.P.follows .mixedOrders = true → ∀ (B0 : Base), YOk E B0 → B0.R0.length ≤ E.lo → ∀ (ro : Option Nat), (match E.ro with | none => ro = none | some i => ∃ l, ro = some l ∧ B0.R0[i]? = some l) →
  ∀ (n : Nat) (K : Exit → St → Prop) (B : Base) (st : St) (F : Fz) (R : List Nat) (a : Act) (w : World), Ext B0 B → Sim E B F R st a w → awp E D c st K → c.wpIn (fen ro) n E.P (Post E B0 K) a w
theorem YieldSound.env {E E' : Env} {y : Yd} (h : YieldSound E y) (hP : E'.P = E.P) (hG : E'.G = E.G) (hd : E'.dk = E.dk := by rfl) : YieldSound E' y := by
 intro ro n Pr F R blks w args vs K hR hm hr ho hown hk
 have := h ro n Pr F R blks w args vs K hR (hm.env hG.symm hd.symm) hr ho hown hk
 rw [hP]
 obtain ⟨fn, tm, as, bd, h1, h2⟩ := this
 exact ⟨fn, tm, as, bd, h1, h2.mono fun e w' ⟨r, u, blks', F', R', k1, k2, k3, k4, k5⟩ => ⟨r, u, blks', F', R', k1, k2, k3, k4.env hG hd, k5⟩⟩
theorem ConOk.env {E E' : Env} {g : FuncId} {c : Con} (h : ConOk E g c) (hP : E'.P = E.P) (hG : E'.G = E.G) (hd : E'.dk = E.dk := by rfl) : ConOk E' g c := by
 cases c with
 | iter T =>
  obtain ⟨h1, h2⟩ := h
  refine ⟨by rw [hP]; exact h1, fun y hy => ?_⟩
  rw [hP, hG, hd]
  exact h2 y (hy.env hP.symm hG.symm hd.symm)
 | pure R => show SoundD E'.dk E'.P E'.G _ _ _; rw [hP, hG, hd]; exact h
 | read R => show SoundD E'.dk E'.P E'.G _ _ _; rw [hP, hG, hd]; exact h
 | gen T m => show SoundD E'.dk E'.P E'.G _ _ _; rw [hP, hG, hd]; exact h
theorem AllSound.env {E E' : Env} {D : FuncId → Option Con} (h : AllSound E D) (hP : E'.P = E.P) (hG : E'.G = E.G) (hd : E'.dk = E.dk := by rfl) : AllSound E' D := fun g c hc => (h g c hc).env hP hG hd
theorem Sim.env {E' : Env} (h : Sim E B F R st a w) (hG : E'.G = E.G) (hd : E'.dk = E.dk := by rfl) : Sim E' B F R st a w := ⟨h.mem.env hG hd, h.tmps, h.defers, h.own⟩
theorem yof_sound {D : FuncId → Option Con} {as bd : Code} (ha : CodeOk D as) (hb : CodeOk D bd) {E : Env} (hD : AllSound E D) (hm : E.P.follows .mixedOrders = true) {n0 l : Nat} {R0 : List Nat} (hl : R0[n0]? = some l)
  (hY : ∀ y, E.Y = some y → YieldSound E y ∧ Rle y.R0 R0) : YieldSound E ⟨l, R0, yof n0 as bd (fun lo => awp (E.inRo n0 lo) D as) (fun lo => awp (E.inRo n0 lo) D bd)⟩ := by
 intro ro n Pr F R blks w args vs K hR hmem hr ho hown hk
 simp only [yof] at hk
 split at hk
 ·rename_i s pend T ps as' bd' hb0
  obtain ⟨rfl, rfl, rfl, hlen, hk⟩ := hk
  have hl' : R[n0]? = some l := hR n0 l hl
  obtain ⟨hnp, fn, tm, d, hh, hrep, hocc⟩ := hmem.blk n0 l _ hl' hb0
  have hsz : vs.size = ps.size := by have := hr.length; simp at this; omega
  refine ⟨fn, _, _, _, run_yield hh hsz, ?_⟩
  obtain ⟨z1, z2⟩ := zip_rep ps.toList args vs.toList T tm hr ho hrep hocc
  have hfold : ((ps.zip vs).foldl (fun t (p, v) => t.setIfInBounds p v) tm) = ((ps.toList.zip vs.toList).foldl (fun t (p, v) => t.setIfInBounds p v) tm) := by
   rw [← Array.foldl_toList, Array.toList_zip]
  rw [← hfold] at z1 z2
  have hE : AllSound (E.inRo n0 blks.length) D := hD.env rfl rfl
  have hYE : YOk (E.inRo n0 blks.length) ⟨Pr, w, F, R, [], R⟩ := fun y hy => ⟨(hY y hy).1.env rfl rfl, (hY y hy).2.trans hR⟩
  have hRl : R.length = blks.length := hmem.len
  refine roundIn_of_wpIn trivial ?_
  show as'.wpIn (fen (some l)) n E.P _ _ w
  have h1 := ha (E.inRo n0 blks.length) hE hm ⟨Pr, w, F, R, [], R⟩ hYE (Nat.le_of_eq hRl) (some l) ⟨l, rfl, hl'⟩ n _ ⟨Pr, w, F, R, [], R⟩ ⟨zipSet ps.toList args T, blks⟩ F R { tmps := (ps.zip vs).foldl (fun t (p, v) => t.setIfInBounds p v) tm, defers := [] } w
   (Ext.refl _) ⟨hmem.env rfl, z1, rfl, by rw [z2]; exact hown⟩ hk
  refine wpIn_mono h1 ?_
  rintro e a1 w1 ⟨B1, st1, F1, R1, hx1, hk1, hs1⟩
  unfold asgK at hk1
  split at hk1
  ·rename_i pend1 T1 ps1 as1 bd1 hb1
   have hl1 : R1[n0]? = some l := hs1.mem.rold n0 l (by rw [hx1.r0]; exact hl')
   obtain ⟨hnp1, fn1, tm1, d1, hh1, hrep1, _⟩ := hs1.mem.blk n0 l _ hl1 hb1
   refine ⟨_, run_beginRound hh1 rfl, ?_⟩
   have hs2 : Sim (E.inRo n0 blks.length) B1 F1 R1 ⟨st1.tmps, st1.blks.set n0 (.loop .busy pend1 T1 ps1 as1 bd1)⟩ a1 (w1.putObj l (.loop (recOf .busy pend1 fn1 tm1 ps1 as1 bd1 d1))) :=
    ⟨hs1.mem.putLoop hl1 hb1 hh1, hs1.tmps, hs1.defers, Owned.putLoop hs1.mem hl1 hb1 hh1 hs1.own⟩
   have h2 := hb (E.inRo n0 blks.length) hE hm ⟨Pr, w, F, R, [], R⟩ hYE (Nat.le_of_eq hRl) (some l) ⟨l, rfl, hl'⟩ n _ B1 _ F1 R1 a1 _ hx1 hs2 hk1
   refine wpIn_mono h2 ?_
   rintro e2 a2 w2 ⟨B2, st2, F2, R2, hx2, hk2, hs3⟩
   have fin : ∀ (jump : Option Code) {s2 : LoopState} {pend2 : Option Code} {T2 : List PV} {ps2 : Array Tmp} {as2 bd2 : Code} (hb2 : st2.blks[n0]? = some (.loop s2 pend2 T2 ps2 as2 bd2)) (M1 : List Blk)
     (hg : Gc blks.length [] (st2.blks.set n0 (.loop (if jump.isNone then .ready else .done) jump T2 ps2 as2 bd2)) [] M1) (hK : K (.val (.bool jump.isNone)) M1),
     ∃ v w', (Instr.endRound l jump).run E.P w2 = .ok v w' ∧ (∃ r u blks' F' R', Ending.returned v = .returned u ∧ K r blks' ∧ Rep F' R' r u ∧ Mem E ⟨Pr, w, F, R, [], R⟩ F' R' blks' w' ∧ Owned Pr F' R' w' (occ r u ++ occB w' R' blks')) := by
    intro jump s2 pend2 T2 ps2 as2 bd2 hb2 M1 hg hK
    have hl2 : R2[n0]? = some l := hs3.mem.rold n0 l (by rw [hx2.r0]; exact hl')
    obtain ⟨hnp2, fn2, tm2, d2, hh2, hrep2, _⟩ := hs3.mem.blk n0 l _ hl2 hb2
    refine ⟨_, _, run_endRound jump hh2, ?_⟩
    have hs4 : Sim E B2 F2 R2 ⟨[], st2.blks.set n0 (.loop (if jump.isNone then .ready else .done) jump T2 ps2 as2 bd2)⟩ { tmps := #[], defers := a2.defers } (w2.putObj l (.loop (recOf (if jump.isNone then .ready else .done) jump fn2 tm2 ps2 as2 bd2 d2))) :=
     ⟨(hs3.mem.env (E' := E) rfl).putLoop hl2 hb2 hh2, .nil, hs3.defers, by
      have := Owned.putLoop (hs3.mem.env (E' := E) rfl) (s' := (if jump.isNone then .ready else .done)) (pend' := jump) (o' := .loop (recOf (if jump.isNone then .ready else .done) jump fn2 tm2 ps2 as2 bd2 d2)) (lo := []) hl2 hb2 hh2 (hs3.own.sub ⟨fun c => by simp, fun q hq => by simp at hq ⊢; exact .inr hq⟩)
      simp only [occL, List.nil_append] at this ⊢
      exact this⟩
    obtain ⟨R3, hs5⟩ := hs4.gc (lo := blks.length) (by rw [hx2.r0]; exact Nat.le_of_eq hRl) hg
    refine ⟨.val (.bool jump.isNone), .bool jump.isNone, M1, F2, R3, rfl, hK, .val rfl, hx2.mem hs5.mem, ?_⟩
    have := hs5.own
    rw [hx2.pr] at this
    simp only [occL, List.nil_append, occ] at this ⊢
    exact this
   unfold rndK at hk2
   split at hk2
   ·rename_i hb2
    obtain ⟨M1, hg, hK⟩ := hk2
    exact fin none hb2 M1 hg hK
   ·rename_i hb2
    obtain ⟨M1, hg, hK⟩ := hk2
    exact fin (some .ret) hb2 M1 hg hK
   ·rename_i id hb2
    obtain ⟨M1, hg, hK⟩ := hk2
    exact fin (some (.exit id)) hb2 M1 hg hK
   ·exact hk2.elim
  ·exact hk1.elim
 ·exact hk.elim
theorem awp_sound {D : FuncId → Option Con} : ∀ c : Code, CodeOk D c
 | .skip, _, _, _, _, _, _, _, _, _, K, B, st, F, R, a, w, hx, h, hk => wpIn_skip ⟨B, st, F, R, hx, hk, h⟩
 | .label l, _, _, _, _, _, _, _, _, _, K, B, st, F, R, a, w, hx, h, hk => wpIn_label ⟨B, st, F, R, hx, hk, h⟩
 | .ret, _, _, _, _, _, _, _, _, _, K, B, st, F, R, a, w, hx, h, hk => wpIn_ret ⟨B, st, F, R, hx, hk, h⟩
 | .exit id, _, _, _, _, _, _, _, _, _, K, B, st, F, R, a, w, hx, h, hk => wpIn_exit ⟨B, st, F, R, hx, hk, h⟩
 | .goto _, _, _, _, _, _, _, _, _, _, _, _, _, _, _, _, _, _, _, hk => hk.elim
 | .scope _, _, _, _, _, _, _, _, _, _, _, _, _, _, _, _, _, _, _, hk => hk.elim
 | .refuse _, _, _, _, _, _, _, _, _, _, _, _, _, _, _, _, _, _, _, hk => hk.elim
 | .region _ ops true, E, hD, hm, B0, hY, hlo, ro, hro, n, K, B, st, F, R, a, w, hx, h, hk => draw_sound hD (hY.ext hx) (Nat.le_trans (Nat.le_of_eq (by rw [hx.r0])) hlo) hm (K := K .normal) (fun st' F' R' a' w' hk' h' => ⟨B, st', F', R', hx, hk', h'⟩) h hk.1 hk.2
 | .region _ ops false, E, hD, hm, B0, hY, hlo, ro, hro, n, K, B, st, F, R, a, w, hx, h, hk => by
  refine wpIn_region ?_
  refine awpOps_sound hD (hY.ext hx) (Nat.le_trans (Nat.le_of_eq (by rw [hx.r0])) hlo) (K := K .normal) (fun st' F' R' a' w' hk' h' => ⟨B, st', F', R', hx, hk', h'⟩) _ st F R a w (fun i hi => List.mem_range.1 hi) h ?_
  rw [filterMap_range]
  exact hk
 | .seq x y, E, hD, hm, B0, hY, hlo, ro, hro, n, K, B, st, F, R, a, w, hx, h, hk => by
  refine wpIn_seq (wpIn_mono (awp_sound x E hD hm B0 hY hlo ro hro n _ B st F R a w hx h hk) ?_)
  rintro e a' w' ⟨B', st', F', R', hx', hk', h'⟩
  cases e with
  | normal => exact awp_sound y E hD hm B0 hY hlo ro hro n K B' st' F' R' a' w' hx' h' hk'
  | _ => exact ⟨B', st', F', R', hx', hk', h'⟩
 | .cond c x y, E, hD, hm, B0, hY, hlo, ro, hro, n, K, B, st, F, R, a, w, hx, h, hk => by
  have hc := h.eval c
  unfold awp at hk
  split at hk
  ·rename_i b hb
   rw [hb] at hc
   obtain ⟨e, _⟩ := hc.val_inv
   exact wpIn_cond_split e (fun ht => awp_sound x E hD hm B0 hY hlo ro hro n K B st F R a w hx h (hk.1 ht)) (fun hf => awp_sound y E hD hm B0 hY hlo ro hro n K B st F R a w hx h (hk.2 hf))
  ·exact hk.elim
 | .block id c, E, hD, hm, B0, hY, hlo, ro, hro, n, K, B, st, F, R, a, w, hx, h, hk => by
  refine wpIn_block (wpIn_mono (awp_sound c E hD hm B0 hY hlo ro hro n _ B st F R a w hx h hk) ?_)
  rintro e a' w' ⟨B', st', F', R', hx', hk', h'⟩
  cases e with
  | exit id' =>
   simp only [blockK] at hk'
   simp only [Exit.inBlock]
   split
   ·rename_i he; rw [if_pos he] at hk'; exact ⟨B', st', F', R', hx', hk', h'⟩
   ·rename_i he; rw [if_neg he] at hk'; exact ⟨B', st', F', R', hx', hk', h'⟩
  | _ => exact ⟨B', st', F', R', hx', hk', h'⟩
 | .loop c, E, hD, hm, B0, hY, hlo, ro, hro, n, K, B, st, F, R, a, w, hx, h, hk => by
  obtain ⟨I, ⟨m, T0, M0, hg, hI⟩, hround⟩ := hk
  obtain ⟨R', hsg⟩ := h.gc (by rw [hx.r0]; exact hlo) hg
  refine wpIn_loopN (fun m a w => ∃ B st F R, Ext B0 B ∧ I m st ∧ Sim E B F R st a w) ?_ (m := m) ⟨B, _, F, R', hx, hI, hsg⟩
  rintro m a w ⟨B, st, F, R, hx, hl, h'⟩
  refine wpIn_mono (awp_sound c E hD hm B0 hY hlo ro hro n _ B st F R a w hx h' (hround m st hl)) ?_
  rintro e a' w' ⟨B', st', F', R', hx', hk', h''⟩
  cases e with
  | normal =>
   obtain ⟨m', h1, T0, M0, hg, h2⟩ := hk'
   obtain ⟨R'', hs2⟩ := h''.gc (by rw [hx'.r0]; exact hlo) hg
   exact ⟨m', h1, B', _, F', R'', hx', h2, hs2⟩
  | _ => exact ⟨B', st', F', R', hx', hk', h''⟩
 | .rangeFunc g ps as bd, E, hD, hm, B0, hY, hlo, ro, hro, n, K, B, st, F, R, a, w, hx, h, hk => by
  have ih1 := awp_sound (D := D) as
  have ih2 := awp_sound (D := D) bd
  have hg := h.eval g
  unfold awp at hk
  split at hk
  ·rename_i f first cap hf
   rw [hf] at hg
   generalize hv : a.eval g = v at *
   split at hk
   ·rename_i T hDf
    obtain ⟨hroB, hk⟩ := hk
    have hlen : R.length = st.blks.length := h.mem.len
    obtain ⟨⟨fnc, k1, k2, k3⟩, hcon⟩ := hD f _ hDf
    cases hg with
    | func h1 h2 =>
     rename_i A C
     refine wpIn_rangeFunc fun fn _ => ?_
     have tail : ∀ (B' : Base) (mark : List Deferred) (w1 : World), Ext B0 B' → Mem E B' F R st.blks w1 → Owned B'.Pr F R w1 (occL st.tmps a.tmps.toList ++ occB w1 R st.blks) → mark ++ a.defers = B'.mrk.map markOf →
       ∀ d, ∃ (dd : Deferred) (w₁' : World) (f' : FuncId) (args : Array Value) (w₂ : World),
       (resolve a.eval (rangeCall g w1.heap.size) 0).run E.P (w1.alloc (.loop (recOf .ready none fn a.tmps ps as bd d))) = .ok dd w₁' ∧
       (∀ f', Target.leads E.P w₁' dd.target dd.args = some f' → (fen ro).fn f') ∧
       (invoke dd.target dd.args).run E.P w₁' = .ok (.enter f' args) w₂ ∧
       ((fen ro).depth.isSome = true → 1 ≤ n) ∧
       CallsIn (fen ro) (n - 1) E.P f' args w₂ (rangePost (fen ro) n E.P w1.heap.size (Post E B0 K) { a with defers := mark ++ a.defers }) := by
      intro B' mark w1 hxB hm1 ho1 hmk d
      have hl : (R ++ [w1.heap.size])[st.blks.length]? = some w1.heap.size := by rw [← hlen]; simp
      have hY' : ∀ y, E.Y = some y → YieldSound E y ∧ Rle y.R0 (R ++ [w1.heap.size]) := fun y hy => ⟨(hY y hy).1, ((hY y hy).2.trans (by have := hm1.rold; rw [hxB.r0] at this; exact this)).trans (Rle.append _ _)⟩
      have hys := yof_sound ih1 ih2 hD hm hl hY'
      have hs := (hcon _ hys).up
      obtain ⟨o1, o2⟩ := (⟨h.tmps.strip, occL_strip _ _⟩ : RepL F R (stripL st.tmps) a.tmps.toList ∧ occL (stripL st.tmps) a.tmps.toList = [])
      have hm2 := hm1.record (s := .ready) (pend := none) (T := stripL st.tmps) (ps := ps) (as := as) (bd := bd) (fn := fn) (tm := a.tmps) (d := d) o1 o2
      have ho2 : Owned B'.Pr F (R ++ [w1.heap.size]) (w1.alloc (.loop (recOf .ready none fn a.tmps ps as bd d))) (occL st.tmps a.tmps.toList ++ occB (w1.alloc (.loop (recOf .ready none fn a.tmps ps as bd d))) (R ++ [w1.heap.size]) (st.blks ++ [.loop .ready none (stripL st.tmps) ps as bd])) := by
       rw [occB_append _ _ _ _ hm1.len, occB_congr (w := w1) R st.blks (fun c hc => RowKit.Below.heap_alloc _ _ _ (hm1.bound c hc))]
       simp only [occB, List.append_nil]
       exact ho1.allocObj (fun c hc => by
        rcases List.mem_append.1 hc with hc | hc
        ·exact .inl hc
        ·simp at hc; exact .inr (Nat.le_of_eq hc.symm))
      have hst2 : ({ tmps := st.tmps, blks := st.blks ++ [.loop .ready none (stripL st.tmps) ps as bd] } : St).blks = st.blks ++ [.loop .ready none (stripL st.tmps) ps as bd] := rfl
      have hargs : RepL F (R ++ [w1.heap.size]) (first.map PV.strip ++ [PV.func (.yield w1.heap.size) [] []] ++ cap.map PV.strip) (A ++ #[Value.func (.yield w1.heap.size) #[] #[]] ++ C).toList := by
       simp only [Array.toList_append]
       rw [← stripL_eq, ← stripL_eq]
       exact RepL.append (h2.strip.mono (Fz.le_refl F) (Rle.append _ _)) (RepL.append (.cons (.func .nil .nil) .nil) (h1.strip.mono (Fz.le_refl F) (Rle.append _ _)))
      have hocc : occL (first.map PV.strip ++ [PV.func (.yield w1.heap.size) [] []] ++ cap.map PV.strip) (A ++ #[Value.func (.yield w1.heap.size) #[] #[]] ++ C).toList = [] := by
       rw [show first.map PV.strip ++ [PV.func (.yield w1.heap.size) [] []] ++ cap.map PV.strip = stripL (first ++ [PV.func (.yield w1.heap.size) [] []] ++ cap) by simp [stripL_eq, PV.strip, stripL]]
       exact occL_strip _ _
      have hcall := hs.2 _ F (R ++ [w1.heap.size]) _ _ _ _ _ (Rle.refl _) ((Mem.enter (st := ⟨st.tmps, _⟩) hm2 ho2).env rfl) hargs hocc (Owned.enter (Pr := B'.Pr) hm2 ho2) (hk w1.heap.size (R ++ [w1.heap.size]))
      refine ⟨⟨.fn (.func f) C, A ++ #[Value.func (.yield w1.heap.size) #[] #[]]⟩, w1.alloc (.loop (recOf .ready none fn a.tmps ps as bd d)), f, A ++ #[Value.func (.yield w1.heap.size) #[] #[]] ++ C, w1.alloc (.loop (recOf .ready none fn a.tmps ps as bd d)), ?_, fun _ _ => trivial, ?_, fun hd => by simp [fen, Fence.wide] at hd, ?_⟩
      ·have hyl : a.eval (.const (.func (.yield w1.heap.size) #[] #[])) = .func (.yield w1.heap.size) #[] #[] := rfl
       simp [resolve, rangeCall, Deferred.ofValue, hv, hyl]
      ·have kb : ¬ fnc.body = none := by intro hb; simp [hb] at k3
       simp [invoke, callFunc, k1, k2]
       exact fun hb => absurd hb kb
      ·refine (show CallsIn (fen ro) (n - 1) E.P f _ _ _ from (callsIn_wide (n := n - 1)).2 (hcall.mono ?_))
       rintro e w3 ⟨r, u, blks', F', R', rfl, hK, hr, hm', ho'⟩
       have hm3 := Mem.leave (st := ⟨st.tmps, _⟩) hm2 (hm'.env (E' := E) rfl)
       have ho3 := Owned.leave (st := ⟨st.tmps, _⟩) hm2 (hm'.env (E' := E) rfl) ho2 ho'
       have hl3 : R'[st.blks.length]? = some w1.heap.size := hm'.rold _ _ hl
       have hT3 : RepL F' R' st.tmps a.tmps.toList := h.tmps.mono hm'.fold ((Rle.append _ _).trans hm'.rold)
       unfold rfK at hK
       split at hK
       ·rename_i s3 pend3 T3 ps3 as3 bd3 hb3
        obtain ⟨hnb, hK⟩ := hK
        obtain ⟨hnp3, fn3, tm3, d3, hh3, hrep3, _⟩ := hm3.blk _ _ _ hl3 hb3
        refine ⟨pend3, _, run_endLoop hh3 hnb, ?_⟩
        have fin : Sim E B' F' R' ⟨st.tmps, blks'.set st.blks.length (.loop .exhausted pend3 T3 ps3 as3 bd3)⟩ { a with defers := mark ++ a.defers } (w3.putObj w1.heap.size (.loop (recOf .exhausted pend3 fn3 tm3 ps3 as3 bd3 d3))) :=
         ⟨hm3.putLoop hl3 hb3 hh3, hT3, hmk, Owned.putLoop hm3 hl3 hb3 hh3 (ho3.sub ⟨fun c => by simp, fun q hq => by simp at hq ⊢; rcases hq with hq | hq <;> simp [hq]⟩)⟩
        cases pend3 with
        | none => exact ⟨B', _, F', R', hxB, hK, fin⟩
        | some cj =>
         cases cj with
         | ret => exact wpIn_ret ⟨B', _, F', R', hxB, hK, fin⟩
         | exit id => exact wpIn_exit ⟨B', _, F', R', hxB, hK, fin⟩
         | _ => exact hK.elim
       ·exact hK.elim
     cases hro' : E.ro with
     | none =>
      rw [hro'] at hro
      simp only at hro
      subst hro
      have hm0 := h.mem.mark
      have hsz : (w.alloc (.deferred (some []))).heap.size = w.heap.size + 1 := World.size_alloc ..
      have ho0 : Owned B.Pr F R (w.alloc (.deferred (some []))) (occL st.tmps a.tmps.toList ++ occB (w.alloc (.deferred (some []))) R st.blks) := by
       rw [occB_congr (w := w) R st.blks (fun c hc => RowKit.Below.heap_alloc _ _ _ (h.mem.bound c hc))]
       exact h.own.allocObj (fun c hc => .inl hc)
      obtain ⟨dd, w1', f', args, w2, t1, t2, t3, t4, t5⟩ := tail { B with mrk := w.heap.size :: B.mrk } [{ target := .collected w.heap.size, args := #[] }] _ (by
       obtain ⟨ms, rfl⟩ := hx
       exact ⟨w.heap.size :: ms, rfl⟩) hm0 ho0 (by rw [h.defers]; rfl) w.heap.size
      rw [hsz] at t1 t5
      exact ⟨w.heap.size + 1, [{ target := .collected w.heap.size, args := #[] }], _, dd, w1', f', args, w2, run_enterLoop_outer fn a.tmps ps as bd, t1, t2, t3, t4, t5⟩
     | some i0 =>
      rw [hro'] at hro
      obtain ⟨l0, rfl, hl0⟩ := hro
      have hl0' : R[i0]? = some l0 := h.mem.rold _ _ (by rw [hx.r0]; exact hl0)
      unfold roBlk at hroB
      simp only [hro'] at hroB
      cases hb0 : st.blks[i0]? with
      | none => simp [hb0, isLoop] at hroB
      | some b0 =>
       cases b0 with
       | loop s0 p0 T0 ps0 as0 bd0 =>
        obtain ⟨_, fn0, tm0, d0, hh0, _, _⟩ := h.mem.blk _ _ _ hl0' hb0
        obtain ⟨dd, w1', f', args, w2, t1, t2, t3, t4, t5⟩ := tail B [] w hx h.mem h.own (by simpa using h.defers) d0
        exact ⟨w.heap.size, [], _, dd, w1', f', args, w2, run_enterLoop_inner hh0 fn a.tmps ps as bd, t1, t2, t3, t4, t5⟩
       | _ => simp [hb0, isLoop] at hroB
   ·exact hk.elim
  ·exact hk.elim
def retOne (E : Env) (st : St) : ResultVar → Option PV
 | .tmp t => some (st.tmps.getD t undefP)
 | .cell a t => (loadP E.P st.blks t (st.tmps.getD a undefP)).map PV.strip
def retVals (E : Env) (st : St) : List ResultVar → Option (List PV)
 | [] => some []
 | r :: rs => match retOne E st r, retVals E st rs with
  | some v, some vs => some (v :: vs.map PV.strip)
  | _, _ => none
theorem retVals_env {E E' : Env} (hP : E'.P = E.P) (st : St) : ∀ rs : List ResultVar, retVals E st rs = retVals E' st rs
 | [] => rfl
 | r :: rs => by
  have : retOne E st r = retOne E' st r := by cases r <;> simp [retOne, hP]
  simp only [retVals, this, retVals_env hP st rs]
def retV : List PV → PV
 | [v] => v
 | vs => .tuple vs
def retK (E : Env) (fn : Func) (K : PV → List Blk → Prop) : Exit → St → Prop := fun e st =>
 (match e with | .normal => True | .ret => True | _ => False) ∧ match retVals E st fn.results.toList with | some vs => K (retV vs) st.blks | none => False
def awpFn (E : Env) (D : FuncId → Option Con) (fn : Func) (c : Code) : PT := fun args blks K => awp { E with lo := blks.length, ro := none } D c ⟨args ++ List.replicate (fn.ntmps - args.length) .junk, blks⟩ (retK { E with lo := blks.length, ro := none } fn K)
def resSem (tmps : Array Value) : ResultVar → Sem Value
 | .tmp t => pure (tmps.getD t undef)
 | .cell x t => do loadVar t (← asAddr (tmps.getD x undef))
theorem results_eq (fn : Func) (tmps : Array Value) : results fn tmps = (do let vs ← fn.results.mapM (resSem tmps); pure (if h : vs.size = 1 then vs[0] else .tuple vs)) := by
 unfold results
 congr 2
theorem retOne_sound (h : Sim E B F R st a w) {r : ResultVar} {v : PV} (hr : retOne E st r = some v) :
  ∃ u, (resSem a.tmps r).run E.P w = .ok u w ∧ Rep F R v u ∧ (Sub (occ v u) (occL st.tmps a.tmps.toList)) := by
 cases r with
 | tmp t =>
  simp [retOne] at hr
  have he := h.eval (.tmp t)
  simp only [aev, Act.eval] at he
  have hr' : st.tmps.getD t undefP = v := by simpa using hr
  rw [hr'] at he
  refine ⟨a.tmps.getD t undef, rfl, he, ?_⟩
  have := stripAt_moved h (.tmp t)
  simp only [aev, Act.eval] at this
  rw [hr'] at this
  exact Sub.trans ⟨fun c => by simp, fun q hq => List.mem_append_right _ hq⟩ this
 | cell x t =>
  simp only [retOne, Option.map_eq_some_iff] at hr
  obtain ⟨v', hv', rfl⟩ := hr
  have he := h.eval (.tmp x)
  simp only [aev, Act.eval] at he
  obtain ⟨u, h1, h2⟩ := load_sound h.mem he hv'
  refine ⟨u, ?_, h2.strip, by rw [occ_strip]; exact Sub.nil _⟩
  generalize hxv : a.tmps.getD x undef = v at *
  cases v with
  | pointer p =>
   cases p with
   | none => simp [Instr.loadAt, Instr.sureAddr] at h1
   | some p =>
    simp [Instr.loadAt, Instr.sureAddr] at h1
    simp only [resSem, Sem.run_bind]
    rw [hxv]
    simp [asAddr, h1]
  | _ => simp [Instr.loadAt, Instr.sureAddr] at h1
theorem retVals_sound (h : Sim E B F R st a w) : ∀ (rs : List ResultVar) (vs : List PV), retVals E st rs = some vs →
  ∃ us, (rs.mapM (resSem a.tmps)).run E.P w = .ok us w ∧ RepL F R vs us ∧ Sub (occL vs us) (occL st.tmps a.tmps.toList)
 | [], vs, hv => by simp [retVals] at hv; subst hv; exact ⟨[], by simp, .nil, by simp [occL]; exact Sub.nil _⟩
 | r :: rs, vs, hv => by
  unfold retVals at hv
  split at hv
  ·rename_i v vs' h1 h2
   simp at hv; subst hv
   obtain ⟨u, k1, k2, k3⟩ := retOne_sound h h1
   obtain ⟨us, l1, l2, l3⟩ := retVals_sound h rs vs' h2
   refine ⟨u :: us, ?_, .cons k2 (by rw [← stripL_eq]; exact l2.strip), ?_⟩
   ·simp only [List.mapM_cons, Sem.run_bind, k1, Result.andThen_ok, l1, Sem.run_pure]
   ·simp only [occL]
    rw [← stripL_eq, occL_strip, List.append_nil]
    exact k3
  ·simp at hv
theorem leaves_marks {fn : Func} {K : PV → List Blk → Prop} {us : List PV} {bl : List Blk} (hbl : st.blks = bl) (hus : retVals E st fn.results.toList = some us) (hk' : K (retV us) bl) : ∀ (ms : List Nat) (B : Base) (a : Act) (w' : World), B.mrk = ms → Sim E B F R st a w' →
    LeavesInM Fence.wide 0 E.P fn a.tmps (fun e w' => ∃ r u blks' F' R', e = .returned u ∧ K r blks' ∧ Rep F' R' r u ∧ Mem E { B with mrk := [] } F' R' blks' w' ∧ Owned B.Pr F' R' w' (occ r u ++ occB w' R' blks')) (ms.map markOf) .returning w'
  | [], B, a, w', hB, h' => by
    have hBe : ({ B with mrk := [] } : Base) = B := by cases B; simp at hB; subst hB; rfl
    rw [hBe]
    obtain ⟨vs', h1, h2, h3⟩ := retVals_sound h' _ _ hus
    have hres : (results fn a.tmps).run E.P w' = .ok (if h : vs'.toArray.size = 1 then vs'.toArray[0] else .tuple vs'.toArray) w' := by
      rw [results_eq, Array.mapM_eq_mapM_toList]
      have h1' : (List.mapM (resSem a.tmps) fn.results.toList).run E.P w' = .ok vs' w' := h1
      simp [h1']
    have hretv : Rep F R (retV us) (if h : vs'.toArray.size = 1 then vs'.toArray[0] else .tuple vs'.toArray) ∧ occ (retV us) (if h : vs'.toArray.size = 1 then vs'.toArray[0] else .tuple vs'.toArray) = occL us vs' := by
      cases h2 with
      | nil => exact ⟨.tuple .nil, by simp [retV, occ]⟩
      | cons h4 t =>
        cases t with
        | nil => exact ⟨h4, by simp [retV, occL]⟩
        | cons h5 t => exact ⟨.tuple (.cons h4 (.cons h5 t)), by simp [retV, occ]⟩
    have hR : ∃ r u blks' F'' R'', (Ending.returned (if h : vs'.toArray.size = 1 then vs'.toArray[0] else .tuple vs'.toArray)) = .returned u ∧ K r blks' ∧ Rep F'' R'' r u ∧ Mem E B F'' R'' blks' w' ∧ Owned B.Pr F'' R'' w' (occ r u ++ occB w' R'' blks') :=
      ⟨retV us, _, bl, F, R, rfl, hk', hretv.1, hbl ▸ h'.mem, by rw [hretv.2, ← hbl]; exact h'.own.sub (Sub.append h3 (Sub.refl _))⟩
    exact ⟨_, hres, hR⟩
  | c :: ms, B, a, w', hB, h' => by
    obtain ⟨hc, hR, hp⟩ := h'.mem.mks c (by rw [hB]; simp)
    have hn := h'.mem.mnd
    rw [hB] at hn
    have hn' := List.nodup_cons.1 hn
    refine ⟨by simp, .inl ⟨c, _, rfl, run_takeDeferred hc, ?_⟩⟩
    have hm := h'.mem
    have h1 : Sim E { B with mrk := ms } F R st { a with defers := ms.map markOf } w' :=
      ⟨{ os := hm.os, tape := hm.tape, output := hm.output, drn := hm.drn, size := hm.size, pr := hm.pr, fz := hm.fz, fnew := hm.fnew, fold := hm.fold, rnew := hm.rnew, rold := hm.rold, bound := hm.bound, glob := hm.glob, len := hm.len, nd := hm.nd, blk := hm.blk,
         mks := fun x hx => hm.mks x (by rw [hB]; exact List.mem_cons_of_mem _ hx), mnd := hn'.2 }, h'.tmps, rfl, h'.own⟩
    have h2 := h1.putObj (o' := .deferred none) hc (by simp) hp hR hn'.1
    exact leaves_marks hbl hus hk' ms { B with mrk := ms } { a with defers := ms.map markOf } _ rfl h2
theorem soundR_of_awp {E : Env} {D : FuncId → Option Con} (hD : AllSound E D) (hmx : E.P.follows .mixedOrders = true) {R1 : List Nat} (hY : ∀ y, E.Y = some y → YieldSound E y ∧ Rle y.R0 R1) {g : FuncId} {fn : Func} {c : Code} (hf : E.P.funcs[g]? = some fn) (hn : fn.name ≠ "runtime.NumGoroutine") (hb : fn.body = some c) :
  SoundD E.dk E.P E.G R1 g (awpFn E D fn c) := by
 refine ⟨⟨fn, hf, hn, by simp [hb]⟩, ?_⟩
 intro Pr F R blks w args vs K hRle hm hr ho hown hk
 suffices hcl : Calls E.P g vs w (fun e w' => ∃ r u blks' F' R', e = .returned u ∧ K r blks' ∧ Rep F' R' r u ∧ Mem E ⟨Pr, w, F, R, [], R⟩ F' R' blks' w' ∧ Owned Pr F' R' w' (occ r u ++ occB w' R' blks')) from
  hcl.mono fun e w' ⟨r, u, blks', F', R', h1, h2, h3, h4, h5⟩ => ⟨r, u, blks', F', R', h1, h2, h3, h4.env rfl, h5⟩
 rw [← callsIn_wide (n := 0)]
 refine callsIn_of_wp_marks hf hb trivial ?_ rfl
 have hlen : vs.size = args.length := by simpa using hr.length
 have hjunk : ∀ n, RepL F R (List.replicate n .junk) (List.replicate n undef) ∧ occL (List.replicate n .junk) (List.replicate n undef) = [] := by
  intro n
  induction n with
  | zero => exact ⟨.nil, rfl⟩
  | succ n ih => simp only [List.replicate_succ]; exact ⟨.cons .junk ih.1, by simp [occL, ih.2, occ]⟩
 have hsim : Sim E ⟨Pr, w, F, R, [], R⟩ F R ⟨args ++ List.replicate (fn.ntmps - args.length) .junk, blks⟩ { tmps := vs ++ Array.replicate (fn.ntmps - vs.size) undef, defers := [] } w := by
  refine ⟨hm.env rfl, ?_, rfl, ?_⟩
  ·simp only [Array.toList_append, Array.toList_replicate, hlen]
   exact RepL.append (hjunk _).1 hr
  ·simp only [Array.toList_append, Array.toList_replicate, hlen]
   rw [occL_append _ _ _ _ (by simpa using hlen), ho, (hjunk _).2]
   simpa using hown
 have hRl : R.length = blks.length := hm.len
 have := awp_sound c { E with lo := blks.length, ro := none } (hD.env rfl rfl) hmx ⟨Pr, w, F, R, [], R⟩ (fun y hy => ⟨(hY y hy).1.env rfl rfl, (hY y hy).2.trans hRle⟩) (Nat.le_of_eq hRl) none rfl 0 (retK { E with lo := blks.length, ro := none } fn K) _ _ F R _ w (Ext.refl _) (hsim.env rfl) hk
 refine wpIn_mono (show c.wpIn Fence.wide 0 E.P _ _ w from this) ?_
 rintro e a' w' ⟨B', st', F', R', ⟨ms, rfl⟩, ⟨he, hk'⟩, h'⟩
 split at hk'
 ·rename_i us hus
  have := leaves_marks (E := E) (fn := fn) (K := K) rfl ((retVals_env (E := E) (E' := { E with lo := blks.length, ro := none }) rfl _ _).trans hus) hk' (ms ++ []) _ a' w' rfl (h'.env rfl)
  have hd := h'.defers
  simp only at hd
  rw [← hd] at this
  have key := this
  cases e with
  | normal => exact key
  | ret => exact key
  | _ => exact he.elim
 ·exact hk'.elim
theorem sound_of_awp {dk : Bool} {P : Program} {G : Nat → Option (List PV)} {D : FuncId → Option Con} (hD : AllSound ⟨P, G, none, none, 0, [], dk⟩ D) (hmx : P.follows .mixedOrders = true) {g : FuncId} {fn : Func} {c : Code} (hf : P.funcs[g]? = some fn) (hn : fn.name ≠ "runtime.NumGoroutine") (hb : fn.body = some c) :
  SoundD dk P G [] g (awpFn ⟨P, G, none, none, 0, [], dk⟩ D fn c) := soundR_of_awp (E := ⟨P, G, none, none, 0, [], dk⟩) hD hmx (R1 := []) (fun y hy => by cases hy) hf hn hb
theorem Sound.weaken {P : Program} {G : Nat → Option (List PV)} {g : FuncId} {T T' : PT} (h : Sound P G g T) (hT : ∀ args blks K, T' args blks K → T args blks K) : Sound P G g T' :=
 ⟨h.1, fun Pr F R blks w args vs K hR1 hm hr ho hown hk => h.2 Pr F R blks w args vs K hR1 hm hr ho hown (hT _ _ _ hk)⟩
def frzS (k off len : Nat) (p : PV) (f : PV → PV) (B : Option Blk) : PV := match B with
 | some (.live cs) => if 0 < k ∧ off + len * k ≤ cs.length ∧ ((stripL (((cs.drop off).take (len * k)).map f)).all plainCell) = true then .sl k (chunks k (stripL (((cs.drop off).take (len * k)).map f)) len) false else p
 | _ => p
def frzC (M : List Blk) (f : PV → PV) (p : PV) : PV := match p with
 | .rs k b off len _ => frzS k off len p f M[b]?
 | .agg cs => .agg (cs.map f)
 | .tuple cs => .tuple (cs.map f)
 | .iface t v => .iface t (f v)
 | p => p
def frz (M : List Blk) : Nat → PV → PV
 | 0, p => p
 | d + 1, p => if p.noref then p else frzC M (frz M d) p
def Fz.with (F : Fz) (R : List Nat) (w : World) : Fz := fun b o => if b ∈ R then Fz.all w b o else F b o
theorem all_some {w : World} {b o : Nat} {v : Value} : Fz.all w b o = some v ↔ w.cell? ⟨b, o, none⟩ = some v ∧ v.oneCell' = true := by
 unfold Fz.all
 split
 ·rename_i x hx
  split
  ·rename_i h1; constructor
   ·intro h; injection h with h; subst h; exact ⟨hx, h1⟩
   ·rintro ⟨h2, _⟩; rw [hx] at h2; exact h2
  ·rename_i h1; constructor
   ·intro h; cases h
   ·rintro ⟨h2, h3⟩; rw [hx] at h2; injection h2 with h2; subst h2; exact absurd h3 h1
 ·rename_i hx; constructor
  ·intro h; cases h
  ·rintro ⟨h2, _⟩; rw [hx] at h2; cases h2
theorem with_le {blks : List Blk} (hm : Mem E B F R blks w) : F.le (Fz.with F R w) := fun b o v h => by
 unfold Fz.with
 split
 ·exact all_some.2 (hm.fz b o v h)
 ·exact h
theorem frz_rep {blks : List Blk} (hm : Mem E B F R blks w) : ∀ (d : Nat) {p : PV} {v : Value}, Rep F R p v → (frz blks d p).noref = true → Rep (Fz.with F R w) [] (frz blks d p) v ∧ Sub (occ (frz blks d p) v) (occ p v)
 | 0, p, v, hr, hn => ⟨(hr.mono (with_le hm) (Rle.refl R)).of_noref hn, Sub.refl _⟩
 | d + 1, p, v, hr, hn => by
  have listy : ∀ {ps : List PV} {vs : List Value}, RepL F R ps vs → norefL (ps.map (frz blks d)) = true → RepL (Fz.with F R w) [] (ps.map (frz blks d)) vs ∧ Sub (occL (ps.map (frz blks d)) vs) (occL ps vs) := by
   intro ps
   induction ps with
   | nil => intro vs h _; cases h; exact ⟨.nil, Sub.refl _⟩
   | cons x xs ih =>
    intro vs h hn
    cases h with
    | cons h t =>
     simp [norefL] at hn
     obtain ⟨a1, a2⟩ := frz_rep hm d h hn.1
     obtain ⟨b1, b2⟩ := ih t (by simpa using hn.2)
     exact ⟨.cons a1 b1, by simp only [List.map_cons, occL]; exact Sub.append a2 b2⟩
  unfold frz at hn ⊢
  split
  ·rename_i h0
   exact ⟨(hr.mono (with_le hm) (Rle.refl R)).of_noref h0, Sub.refl _⟩
  ·rename_i h0
   rw [if_neg h0] at hn
   cases hr with
   | rs hR hcap =>
    rename_i k i off len cap c
    simp only [frzC] at hn ⊢
    unfold frzS at hn ⊢
    split at hn
    ·rename_i cs hb
     split at hn
     ·rename_i hc
      simp only [hc, and_self, if_true, true_and, ↓reduceIte]
      obtain ⟨c0, c1, c2⟩ := hc
      obtain ⟨c', vs, T, k1, k2, k3, k4, k5, k6, k7, k8⟩ := rs_cells (st := ⟨[], blks⟩) hm (kk := k) (cap := cap) (.rs hR hcap) hb c1
      injection k2 with k2
      injection k2 with k2
      injection k2 with k2
      subst k2
      have hpl := List.all_eq_true.1 c2
      have hnr : norefL (((cs.drop off).take (len * k)).map (frz blks d)) = true := by
       rw [← norefL_strip, norefL_eq]
       refine List.all_eq_true.2 fun x hx => ?_
       have h1 := hpl x hx
       simp only [plainCell, Bool.and_eq_true] at h1
       exact h1.1.1
      obtain ⟨l1, l2⟩ := listy k6 hnr
      have hone' : ∀ x ∈ stripL (((cs.drop off).take (len * k)).map (frz blks d)), x.cells = [x] := by
       intro x hx
       have h1 := hpl x hx
       simp only [plainCell, Bool.and_eq_true] at h1
       have h2 := h1.1.2
       revert h2
       cases x <;> simp [PV.one] <;> rfl
      have hlen : (stripL (((cs.drop off).take (len * k)).map (frz blks d))).length = len * k := by rw [stripL_eq]; simp; omega
      obtain ⟨d1, d2⟩ := chunks_flat (Nat.ne_of_gt c0) len (stripL (((cs.drop off).take (len * k)).map (frz blks d))) (by rw [hlen]; exact Nat.le_refl _) hone'
      have e0 : (stripL (((cs.drop off).take (len * k)).map (frz blks d))).take (len * k) = stripL (((cs.drop off).take (len * k)).map (frz blks d)) := List.take_of_length_le (by rw [hlen]; exact Nat.le_refl _)
      rw [e0] at d1
      refine ⟨.sl ((vs.toList.drop off).take (len * k)) c0 (chunks_length len _).symm k3 d2 (fun j u hj => ?_) (by rw [d1]; exact l1.strip), by rw [occ_free _ _ rfl]; exact Sub.nil _⟩
      unfold Fz.with
      rw [if_pos (List.mem_of_getElem? k1)]
      exact all_some.2 ⟨k8 j u hj, k7 u (List.mem_of_mem_drop (List.mem_of_mem_take (List.mem_of_getElem? hj)))⟩
     ·simp [PV.noref] at hn
    ·simp [PV.noref] at hn
   | agg h1 h =>
    obtain ⟨a1, a2⟩ := listy h hn
    exact ⟨.agg h1 a1, a2⟩
   | tuple h =>
    obtain ⟨a1, a2⟩ := listy h hn
    exact ⟨.tuple a1, a2⟩
   | iface h =>
    obtain ⟨a1, a2⟩ := frz_rep hm d h hn
    exact ⟨.iface a1, a2⟩
   | val h => exact absurd rfl h0
   | sl us hk0 hl hc hk hF hR => exact absurd rfl h0
   | slnil => exact absurd rfl h0
   | slt us hk0 hl hc hk hF hR => exact absurd rfl h0
   | sltnil => exact absurd rfl h0
   | sltz hk => exact absurd rfl h0
   | vptr us hF hR => exact absurd rfl h0
   | junk => exact absurd rfl h0
   | ptr h => simp [frzC, PV.noref] at hn
   | func h1 h2 => exact absurd hn h0
theorem Sound.pureF {dk : Bool} {P : Program} {G : Nat → Option (List PV)} {g : FuncId} {T : PT} (h : SoundD dk P G [] g T) (Q : List PV → PV → Prop) (hQ : ∀ args r, Q args r → norefL args = true ∧ T args [] (fun r' B => frz B 4 r' = r ∧ r.noref = true)) : SoundD dk P G [] g (conT (.pure Q)) := by
 refine ⟨h.1, ?_⟩
 intro Pr F R blks w args vs K hR1 hm hr ho hown ⟨r, hq, hk⟩
 obtain ⟨hf, ht⟩ := hQ args r hq
 have hm2 : Mem ⟨P, G, none, none, 0, [], dk⟩ ⟨fun b => b < w.heap.size, w, F, [], [], []⟩ F [] [] w :=
  {
   os := rfl, tape := rfl, output := rfl, drn := fun _ => Nat.le_refl _, size := Nat.le_refl _, pr := fun b hb => ⟨hb, rfl⟩, mks := fun c hc => by simp at hc, mnd := List.nodup_nil, fz := hm.fz, fnew := fun _ _ _ h => .inl h, fold := Fz.le_refl F, rnew := fun c hc => by simp at hc, rold := Rle.refl _,
   bound := fun c hc => by simp at hc, glob := hm.globLt, len := rfl, nd := List.nodup_nil, blk := fun i c b hc => by simp at hc }
 have hcall := h.2 (fun b => b < w.heap.size) F [] [] w args vs _ (Rle.refl _) hm2 (hr.of_noref hf) ho ⟨fun c => by simp [occB], fun q hq => by simp [occB] at hq⟩ ht
 refine hcall.mono ?_
 rintro e w' ⟨r', u, blks', F0, R', rfl, ⟨hfr, hnr⟩, hru, hm0, ho'⟩
 obtain ⟨hrep, hsub⟩ := frz_rep hm0 4 hru (by rw [hfr]; exact hnr)
 rw [hfr] at hrep hsub
 have hRn : ∀ c ∈ R', w.heap.size ≤ c := fun c hc => by
  rcases hm0.rnew c hc with h1 | h1
  ·simp at h1
  ·exact h1
 have hF : F.le (Fz.with F0 R' w') := Fz.le_trans hm0.fold (with_le hm0)
 have hnone : ∀ {b}, b < w.heap.size → ∀ o, F b o = none → Fz.with F0 R' w' b o = none := fun {b} hb o hn => by
  unfold Fz.with
  rw [if_neg (fun hin => by have := hRn _ hin; omega)]
  cases hv : F0 b o with
  | none => rfl
  | some v =>
   rcases hm0.fnew _ _ _ hv with h1 | h1
   ·simp at h1; rw [hn] at h1; simp at h1
   ·exact absurd hb h1
 have hsame : ∀ {b}, b < w.heap.size → w'.heap[b]? = w.heap[b]? := fun hb => (hm0.pr _ hb).2
 have hwf : ∀ b o v, Fz.with F0 R' w' b o = some v → w'.cell? ⟨b, o, none⟩ = some v ∧ v.oneCell' = true := fun b o v hv => by
  unfold Fz.with at hv
  split at hv
  ·exact all_some.1 hv
  ·exact hm0.fz b o v hv
 have hmem : Mem ⟨P, G, none, none, 0, [], dk⟩ ⟨Pr, w, F, R, [], R⟩ (Fz.with F0 R' w') R blks w' :=
  {
   os := hm0.os, tape := hm0.tape, output := hm0.output, drn := hm0.drn, size := hm0.size
   pr := fun b hb => ⟨(hm.pr b hb).1, hsame (hm.pr b hb).1⟩
   fz := hwf
   fnew := fun b o v hv => by
    by_cases hb : b < w.heap.size
    ·cases hFb : F b o with
     | none => rw [hnone hb o hFb] at hv; cases hv
     | some x => have := hF b o x hFb; rw [hv] at this; exact .inl (hFb.trans this.symm)
    ·exact .inr fun hp => hb (hm.pr b hp).1
   fold := hF
   rnew := fun c hc => .inl hc
   rold := Rle.refl R
   bound := fun c hc => Nat.lt_of_lt_of_le (hm.bound c hc) hm0.size
   glob := hm.glob.mono hF
   len := hm.len
   nd := hm.nd
   mks := fun c hc => by simp at hc
   mnd := List.nodup_nil
   blk := fun i c b hc hb => (hm.blk i c b hc hb).mono hF (Rle.refl R) (hnone (hm.bound c (List.mem_of_getElem? hc))) (hsame (hm.bound c (List.mem_of_getElem? hc))) }
 refine ⟨r, u, blks, Fz.with F0 R' w', R, rfl, hk, hrep.of_noref hnr, hmem, ?_⟩
 rw [occB_congr R blks (fun c hc => hsame (hm.bound c hc))]
 have ho2 := ho'.sub (Sub.append hsub (Sub.refl _))
 have hnew : ∀ q ∈ occ r u, w.heap.size ≤ q.b := fun q hq => Nat.le_of_not_lt (ho2.2 q (List.mem_append_left _ hq)).1
 refine ⟨fun c => ?_, fun q hq => ?_⟩
 ·have a1 := ho2.1 c
  have a2 := hown.1 c
  simp only [cnt_append] at a1 ⊢
  by_cases hc : c < w.heap.size
  ·have := cnt_zero (c := c) (l := occ r u) (fun q hq e => by have := hnew q hq; omega)
   omega
  ·have := cnt_zero (c := c) (l := occB w R blks) (fun q hq e => by have := (hown.2 q hq).lt; omega)
   omega
 ·rcases List.mem_append.1 hq with hq | hq
  ·obtain ⟨h1, h2, h3, h4, vs, T, h5, h6, h7, h8⟩ := ho2.2 q (List.mem_append_left _ hq)
   have := hnew q hq
   refine ⟨fun hp => by have := (hm.pr _ hp).1; simp at this; omega, fun hin => by have := hm.bound _ hin; omega, h3, fun o ho => ?_, vs, T, h5, h6, h7, fun t ht => ⟨(h8 t ht).1, (h8 t ht).2.1, (h8 t ht).2.2.1, (h8 t ht).2.2.2.1, fun o => ?_⟩⟩
   ·unfold Fz.with
    rw [if_neg h2]
    exact h4 o ho
   ·unfold Fz.with
    rw [if_neg h2]
    exact (h8 t ht).2.2.2.2 o
  ·have hok := hown.2 q hq
   exact hok.mono (fun h => h) (hnone hok.lt) (hsame hok.lt)
theorem frz_nr {M : List Blk} {p : PV} (d : Nat) (h : p.noref = true) : frz M (d + 1) p = p := by unfold frz; rw [if_pos h]
theorem Sound.pure {dk : Bool} {P : Program} {G : Nat → Option (List PV)} {g : FuncId} {T : PT} (hm : ∀ args B K K', (∀ r b, K r b → K' r b) → T args B K → T args B K') (h : SoundD dk P G [] g T) (Q : List PV → PV → Prop) (hQ : ∀ args r, Q args r → norefL args = true ∧ T args [] (fun r' _ => r' = r ∧ r.noref = true)) : SoundD dk P G [] g (conT (.pure Q)) :=
 Sound.pureF h Q fun args r hq => ⟨(hQ args r hq).1, hm _ _ _ _ (fun r' B ⟨h1, h2⟩ => ⟨by rw [h1]; exact frz_nr 3 h2, h2⟩) (hQ args r hq).2⟩
end
end Go.Ve
