/- weirlaw30.HistTexts: part of the proof (a value semantics for the model's code, and the functions told by it). -/
import Derived.Test.YtdfajmeabnmhjaaGreatDoorA18
set_option linter.unusedSimpArgs false
set_option linter.unusedVariables false
set_option linter.deprecated false
set_option linter.unusedSectionVars false
set_option linter.defProp false
namespace Go.Ve
theorem occB_split {w : World} : ∀ (R : List Nat) (M : List Blk) (i c : Nat) (b : Blk), R[i]? = some c → M[i]? = some b → (occB w R M).Perm (occB w [c] [b] ++ occB w R (M.set i (.frz [])))
 | [], _, _, _, _, h, _ => by simp at h
 | _ :: _, [], _, _, _, _, h => by simp at h
 | c0 :: R, b0 :: M, 0, c, b, h1, h2 => by
  simp at h1 h2; subst h1; subst h2
  cases b0 <;> simp [occB]
 | c0 :: R, b0 :: M, i + 1, c, b, h1, h2 => by
  have ih := occB_split (w := w) R M i c b (by simpa using h1) (by simpa using h2)
  cases b0 <;> simp only [List.set_cons_succ, occB]
  ·exact (ih.append_left _).trans (by rw [← List.append_assoc, ← List.append_assoc]; exact List.perm_append_comm.append_right _)
  ·exact ih
  ·exact ih
  ·exact (ih.append_left _).trans (by rw [← List.append_assoc, ← List.append_assoc]; exact List.perm_append_comm.append_right _)
theorem occB_congr1 {w w' : World} : ∀ (R : List Nat) (M : List Blk) (i c : Nat), R.Nodup → R[i]? = some c → (∀ x ∈ R, x ≠ c → w'.heap[x]? = w.heap[x]?) → occB w' R (M.set i (.frz [])) = occB w R (M.set i (.frz []))
 | [], _, _, _, _, h, _ => by simp at h
 | c0 :: R, [], i, c, _, _, _ => by simp [occB]
 | c0 :: R, b0 :: M, 0, c, hn, h1, h => by
  simp at h1; subst h1
  simp only [List.set_cons_zero, occB]
  exact occB_congr R M (fun x hx => h x (by simp [hx]) (by rintro rfl; exact (List.nodup_cons.1 hn).1 hx))
 | c0 :: R, b0 :: M, i + 1, c, hn, h1, h => by
  have hn' := List.nodup_cons.1 hn
  have ih := occB_congr1 (w := w) (w' := w') R M i c hn'.2 (by simpa using h1) (fun x hx => h x (by simp [hx]))
  have h0 : w'.heap[c0]? = w.heap[c0]? := h c0 (by simp) (by rintro rfl; exact hn'.1 (List.mem_of_getElem? (by simpa using h1)))
  cases b0 <;> simp only [List.set_cons_succ, occB, ih, cellsW, h0]
theorem Sub.perm {l l' : List Occ} (h : l.Perm l') : Sub l l' := ⟨fun c => Nat.le_of_eq (h.countP_eq _), fun _ hq => h.mem_iff.1 hq⟩
def RowOne (w : World) (v : Value) : Prop := ∀ g, v.ownBlock = some g → ∃ cs T, w.heap[g]? = some (.cells cs T (0, 0)) ∧ ∀ u ∈ cs.toList, u.oneCell' = true
def BldAt (e T : TypeId) (c : Nat) (vs : List Value) (p v : Value) (s : ByteArray) (w : World) : Prop :=
 w.heap[c]? = some (.cells (vs ++ [p, v]).toArray T (0, 0)) ∧ (p = .pointer none ∨ p = .pointer (some ⟨c, vs.length, none⟩)) ∧ w.ownsRow 0 e 1 v s.size (Lib.strCells s) ∧ v.ownBlock ≠ some c ∧ RowOne w v
structure BldKept (w w' : World) (c : Nat) (v : Value) : Prop where
 os : w'.os = w.os
 tape : w'.tape = w.tape
 output : w'.output = w.output
 size : w.heap.size ≤ w'.heap.size
 block : ∀ k, k < w.heap.size → k ≠ c → some k ≠ v.ownBlock → w'.heap[k]? = w.heap[k]?
section
variable {E : Env} {B : Base} {F : Fz} {R : List Nat} {blks : List Blk} {w w' : World} {i c : Nat} {T e : TypeId} {pre : List PV} {s : ByteArray}
theorem bld_row (h : BlkOk B.Pr F R w c (.bld T e pre s)) : ∃ vs p v, w.heap[c]? = some (.cells (vs ++ [p, v]).toArray T (0, 0)) ∧ RepL F [] pre vs ∧ (∀ u ∈ vs, u.oneCell' = true) ∧ (p = .pointer none ∨ p = .pointer (some ⟨c, vs.length, none⟩)) ∧
  ((v = .slice none 0 0 ∧ s.size = 0) ∨ ∃ g cap, v = .slice (some ⟨g, 0, none⟩) s.size cap) ∧ occB w [c] [.bld T e pre s] = bldRow e s v := by
 obtain ⟨_, _, vs, p, v, h1, h2, h3, h4, h5⟩ := h
 have hl : vs.length = pre.length := h2.length
 refine ⟨vs, p, v, h1, h2, h3, by rw [hl]; exact h4, h5, ?_⟩
 simp [occB, cellsW, h1, ← hl]
theorem bld_at (hm : Mem E B F R blks w) (ho : Owned B.Pr F R w (occB w R blks)) (hc : R[i]? = some c) (hb : blks[i]? = some (.bld T e pre s)) :
  ∃ vs p v, BldAt e T c vs p v s w ∧ RepL F [] pre vs ∧ (∀ u ∈ vs, u.oneCell' = true) ∧ occB w [c] [.bld T e pre s] = bldRow e s v := by
 obtain ⟨vs, p, v, h1, h2, h3, h4, h5, h6⟩ := bld_row (hm.blk i c _ hc hb)
 refine ⟨vs, p, v, ⟨h1, h4, ?_, ?_, ?_⟩, h2, h3, h6⟩
 ·refine ⟨by rw [Lib.strCells_length, Nat.mul_one], ?_⟩
  rcases h5 with h5 | ⟨g, cap, h5⟩
  ·exact .inl h5
  ·have hq : (⟨1, g, 0, s.size, cap, some (e, Lib.strCells s)⟩ : Occ) ∈ occB w R blks := by
    refine (occB_split R blks i c _ hc hb).mem_iff.2 (List.mem_append_left _ ?_)
    rw [h6, h5]; simp [bldRow]
   obtain ⟨_, _, _, _, cur, T', k1, k2, k3, k4⟩ := ho.2 _ hq
   obtain ⟨rfl, k5, k6, k7, _⟩ := k4 _ rfl
   simp only at k1 k2 k5 k6 k7
   refine .inr ⟨g, cap, cur, h5, Nat.zero_le _, k1, ?_, k6, by omega, by simpa using k7⟩
   have := congrArg List.length k7
   rw [Lib.strCells_length, List.length_take] at this
   simp at this; omega
 ·intro hg
  rcases h5 with ⟨rfl, _⟩ | ⟨g, cap, rfl⟩
  ·cases hg
  ·injection hg with hg
   simp only at hg
   subst hg
   have hq : (⟨1, g, 0, s.size, cap, some (e, Lib.strCells s)⟩ : Occ) ∈ occB w R blks := by
    refine (occB_split R blks i g _ hc hb).mem_iff.2 (List.mem_append_left _ ?_)
    rw [h6]; simp [bldRow]
   exact (ho.2 _ hq).2.1 (List.mem_of_getElem? hc)
 ·intro g hg
  rcases h5 with ⟨rfl, _⟩ | ⟨g', cap, rfl⟩
  ·cases hg
  ·injection hg with hg
   simp only at hg
   subst hg
   have hq : (⟨1, g', 0, s.size, cap, some (e, Lib.strCells s)⟩ : Occ) ∈ occB w R blks := by
    refine (occB_split R blks i c _ hc hb).mem_iff.2 (List.mem_append_left _ ?_)
    rw [h6]; simp [bldRow]
   obtain ⟨_, _, _, _, cur, T', k1, _, k3, _⟩ := ho.2 _ hq
   exact ⟨cur, T', k1, k3⟩
theorem bld_step (hm : Mem E B F R blks w) (ho : Owned B.Pr F R w (occB w R blks)) (hc : R[i]? = some c) (hb : blks[i]? = some (.bld T e pre s)) {v : Value} (hrow : occB w [c] [.bld T e pre s] = bldRow e s v)
  (hk : BldKept w w' c v) (hd : E.dk = true → w.drawn ≤ w'.drawn) {b' : Blk} (hok : BlkOk B.Pr F R w' c b') (h1 : ∀ q ∈ occB w' [c] [b'], OccOk B.Pr F R w' q) (h2 : ∀ x, cnt x (occB w' [c] [b']) ≤ 1)
  (h3 : ∀ q ∈ occB w' [c] [b'], some q.b = v.ownBlock ∨ w.heap.size ≤ q.b) : Mem E B F R (blks.set i b') w' ∧ Owned B.Pr F R w' (occB w' R (blks.set i b')) := by
 have hcR : c ∈ R := List.mem_of_getElem? hc
 have hP := occB_split (w := w) R blks i c _ hc hb
 rw [hrow] at hP
 have hg : ∀ g, v.ownBlock = some g → g ∉ R ∧ ¬ B.Pr g ∧ (∀ o, F g o = none) ∧ ((∃ q ∈ bldRow e s v, q.b = g) ∧ ∃ cs T', w.heap[g]? = some (.cells cs T' (0, 0))) := by
  intro g hg
  cases v with
  | slice a n cp =>
   cases a with
   | none => cases hg
   | some a =>
    injection hg with hg
    subst hg
    have hq : (⟨1, a.block, a.off, n, cp, some (e, Lib.strCells s)⟩ : Occ) ∈ bldRow e s (.slice (some a) n cp) := by simp [bldRow]
    obtain ⟨q1, q2, _, _, cs, T', q3, _, _, q4⟩ := ho.2 _ (hP.mem_iff.2 (List.mem_append_left _ hq))
    exact ⟨q2, q1, (q4 _ rfl).2.2.2.2, ⟨_, hq, rfl⟩, cs, T', q3⟩
  | _ => cases hg
 have hsame : ∀ k, k < w.heap.size → k ≠ c → (∀ g, v.ownBlock = some g → k ≠ g) → w'.heap[k]? = w.heap[k]? := fun k h1 h2 h3 => hk.block k h1 h2 (fun e => h3 k e.symm rfl)
 have hR : ∀ x ∈ R, x ≠ c → w'.heap[x]? = w.heap[x]? := fun x hx hxc => hsame x (hm.bound x hx) hxc (fun g hg' e => (hg g hg').1 (e ▸ hx))
 have hcF : ∀ o, F c o = none := (hm.blk i c _ hc hb).2.1
 have hcP : ¬ B.Pr c := (hm.blk i c _ hc hb).1
 obtain ⟨cvs, cp, cv, hch, _⟩ := bld_row (hm.blk i c _ hc hb)
 constructor
 ·exact {
   os := hk.os.trans hm.os, tape := hk.tape.trans hm.tape, output := hk.output.trans hm.output, drn := fun q => Nat.le_trans (hm.drn q) (hd q), size := Nat.le_trans hm.size hk.size
   pr := fun b hb => ⟨(hm.pr b hb).1, (hsame b (Nat.lt_of_lt_of_le (hm.pr b hb).1 hm.size) (fun e => hcP (e ▸ hb)) (fun g hg' e => (hg g hg').2.1 (e ▸ hb))).trans (hm.pr b hb).2⟩
   fz := fun b o u hv => ⟨by
    rw [cell_congr (hsame b (hm.F_lt hv) (fun e => by rw [e, hcF] at hv; cases hv) (fun g hg' e => by rw [e, (hg g hg').2.2.1] at hv; cases hv))]
    exact (hm.fz b o u hv).1, (hm.fz b o u hv).2⟩
   fnew := hm.fnew, fold := hm.fold, rnew := hm.rnew, rold := hm.rold
   bound := fun x hx => Nat.lt_of_lt_of_le (hm.bound x hx) hk.size
   glob := hm.glob, len := by simp [hm.len], nd := hm.nd
   blk := fun j d b hj hb' => by
    by_cases hij : i = j
    ·subst hij
     rw [hc] at hj
     obtain rfl := Option.some.inj hj
     rw [List.getElem?_set] at hb'
     simp at hb'
     rw [← hb'.2]; exact hok
    ·rw [List.getElem?_set_ne hij] at hb'
     have hdc : d ≠ c := fun he => hij ((List.getElem?_inj (List.getElem?_eq_some_iff.1 hc).1 hm.nd).1 (hc.trans (he ▸ hj).symm))
     exact (hm.blk j d b hj hb').mono (Fz.le_refl F) (Rle.refl R) (fun _ h => h) (hR d (List.mem_of_getElem? hj) hdc)
   mks := fun x hx => by
    obtain ⟨m1, m2, m3⟩ := hm.mks x hx
    refine ⟨?_, m2, m3⟩
    rw [hsame x (Array.getElem?_eq_some_iff.1 m1).1 (fun e => m2 (e ▸ hcR)) (fun g hg' e => ?_)]
    ·exact m1
    ·obtain ⟨_, cs, T', q3⟩ := (hg g hg').2.2.2
     rw [e] at m1
     rw [m1] at q3
     cases q3
   mnd := hm.mnd }
 ·have hlt : i < blks.length := (List.getElem?_eq_some_iff.1 hb).1
  have hP' := occB_split (w := w') R (blks.set i b') i c b' hc (by simp [hlt])
  rw [List.set_set, occB_congr1 R blks i c hm.nd hc hR] at hP'
  have hold : ∀ q ∈ occB w R (blks.set i (.frz [])), OccOk B.Pr F R w' q ∧ q.b < w.heap.size ∧ some q.b ≠ v.ownBlock := fun q hq => by
   have hok := ho.2 q (hP.mem_iff.2 (List.mem_append_right _ hq))
   have hne : ∀ g, v.ownBlock = some g → q.b ≠ g := fun g hg' eq => by
    obtain ⟨⟨q', hq', he⟩, _⟩ := (hg g hg').2.2.2
    have a1 := ho.1 g
    rw [show cnt g (occB w R blks) = _ from hP.countP_eq _] at a1
    rw [show (List.countP (fun x => x.b == g) (bldRow e s v ++ occB w R (blks.set i (.frz [])))) = cnt g (bldRow e s v) + cnt g (occB w R (blks.set i (.frz []))) from cnt_append ..] at a1
    have b1 := cnt_pos hq' he
    have b2 := cnt_pos hq eq
    omega
   refine ⟨hok.mono (fun h => h) (fun _ h => h) (hsame q.b hok.lt (fun e => hok.2.1 (e ▸ hcR)) hne), hok.lt, fun e => hne q.b e.symm rfl⟩
  refine Owned.sub ⟨fun x => ?_, fun q hq => ?_⟩ (Sub.perm hP')
  ·simp only [cnt_append]
   by_cases hx : ∃ q ∈ occB w' [c] [b'], q.b = x
   ·obtain ⟨q, hq, rfl⟩ := hx
    have a0 : cnt q.b (occB w R (blks.set i (.frz []))) = 0 := cnt_zero fun q2 hq2 e => by
     obtain ⟨_, k2, k3⟩ := hold q2 hq2
     rcases h3 q hq with h | h
     ·exact k3 (by rw [e]; exact h)
     ·omega
    have := h2 q.b; omega
   ·have a0 := cnt_zero (c := x) (l := occB w' [c] [b']) (fun q hq e => hx ⟨q, hq, e⟩)
    have a1 := ho.1 x
    have a2 : cnt x (occB w R (blks.set i (.frz []))) ≤ cnt x (occB w R blks) := by
     rw [show cnt x (occB w R blks) = _ from hP.countP_eq _]
     rw [show (List.countP (fun y => y.b == x) (bldRow e s v ++ occB w R (blks.set i (.frz [])))) = cnt x (bldRow e s v) + cnt x (occB w R (blks.set i (.frz []))) from cnt_append ..]
     omega
    omega
  ·rcases List.mem_append.1 hq with hq | hq
   ·exact h1 q hq
   ·exact (hold q hq).1
theorem strCells_app (s x : ByteArray) : Lib.strCells (s ++ x) = Lib.strCells s ++ Lib.strCells x := by
 unfold Lib.strCells
 rw [ByteArray.data_append, Array.toList_append, List.map_append]
theorem bld_wrote (hm : Mem E B F R blks w) (ho : Owned B.Pr F R w (occB w R blks)) (hc : R[i]? = some c) (hb : blks[i]? = some (.bld T e pre s)) {vs : List Value} {v v' p' : Value} {s' : ByteArray} (hpre : RepL F [] pre vs) (hone : ∀ u ∈ vs, u.oneCell' = true) (hrow : occB w [c] [.bld T e pre s] = bldRow e s v)
  (hk : BldKept w w' c v) (hd : E.dk = true → w.drawn ≤ w'.drawn) (hat : BldAt e T c vs p' v' s' w') (hnew : v'.ownBlock = v.ownBlock ∨ ∀ g, v'.ownBlock = some g → w.heap.size ≤ g) :
  Mem E B F R (blks.set i (.bld T e pre s')) w' ∧ Owned B.Pr F R w' (occB w' R (blks.set i (.bld T e pre s'))) := by
 obtain ⟨a1, a2, a3, a4, a5⟩ := hat
 have hl : vs.length = pre.length := hpre.length
 have hok : BlkOk B.Pr F R w' c (.bld T e pre s') := by
  refine ⟨(hm.blk i c _ hc hb).1, (hm.blk i c _ hc hb).2.1, vs, p', v', a1, hpre, hone, by rw [← hl]; exact a2, ?_⟩
  rcases a3.2 with ⟨h1, h2⟩ | ⟨g, cap, cur, h1, _⟩
  ·exact .inl ⟨h1, h2⟩
  ·exact .inr ⟨g, cap, h1⟩
 have hocc : occB w' [c] [.bld T e pre s'] = bldRow e s' v' := by
  simp [occB, cellsW, a1, ← hl]
 refine bld_step hm ho hc hb hrow hk hd hok ?_ ?_ ?_
 ·intro q hq
  rw [hocc] at hq
  rcases a3.2 with ⟨rfl, _⟩ | ⟨g, cap, cur, rfl, _, h2, h3, h4, h5, h6⟩
  ·simp [bldRow] at hq
  ·simp only [bldRow, List.mem_singleton] at hq
   subst hq
   obtain ⟨cs, T', k1, k2⟩ := a5 g rfl
   rw [h2] at k1
   have hcs : cs = cur := by cases k1; rfl
   subst hcs
   have hgo : ¬ B.Pr g ∧ g ∉ R ∧ ∀ o, F g o = none := by
    rcases hnew with hn | hn
    ·have hP := occB_split (w := w) R blks i c _ hc hb
     rw [hrow] at hP
     cases v with
     | slice a n cp =>
      cases a with
      | none => cases hn
      | some a =>
       injection hn with hn
       simp only at hn
       subst hn
       have hq : (⟨1, a.block, a.off, n, cp, some (e, Lib.strCells s)⟩ : Occ) ∈ bldRow e s (.slice (some a) n cp) := by simp [bldRow]
       obtain ⟨q1, q2, _, _, _, _, _, _, _, q4⟩ := ho.2 _ (hP.mem_iff.2 (List.mem_append_left _ hq))
       exact ⟨q1, q2, (q4 _ rfl).2.2.2.2⟩
     | _ => cases hn
    ·have := hn g rfl
     exact ⟨fun hp => by have := (hm.pr _ hp).1; have := hm.size; omega, fun hin => by have := hm.bound _ hin; omega, fun o => hm.F_new this⟩
   have hsz : cs.size = cap := by simpa using h5
   exact ⟨hgo.1, hgo.2.1, ⟨Nat.one_pos, rfl⟩, fun o _ => hgo.2.2 o, cs, e, h2, by simp; omega, k2, fun t ht => by
    injection ht with ht
    subst ht
    exact ⟨rfl, hsz, h4, by simpa using h6, hgo.2.2⟩⟩
 ·intro x
  rw [hocc]
  unfold bldRow
  split
  ·unfold cnt; exact Nat.le_trans List.countP_le_length (by simp)
  ·simp [cnt]
 ·intro q hq
  rw [hocc] at hq
  rcases a3.2 with ⟨rfl, _⟩ | ⟨g, cap, cur, rfl, _⟩
  ·simp [bldRow] at hq
  ·simp only [bldRow, List.mem_singleton] at hq
   subst hq
   rcases hnew with hn | hn
   ·exact .inl hn
   ·exact .inr (hn g rfl)
end
theorem bld_append {P : Program} (w : World) (t u ty e : TypeId) (i : TypeInfo) (ht : P.underlying t = some (.slice e)) (hu : P.underlying u = some .string) (hi : P.info? e = some i) (hz : i.zero = some (.int .u8 0))
    (hsize : i.size = 1) (hby : i.bytes = 1) (v : Value) (n : Nat) (xs : List Value) (hown : w.ownsRow 0 e 1 v n xs) (hro : RowOne w v) (s : ByteArray) (hb : n + s.size ≤ 140737488355328) :
    ∃ v' w', (Builtin.append_ #[t, u] ty #[v, .string s]).run P w = .ok v' w' ∧ w'.ownsRow 0 e 1 v' (n + s.size) (xs ++ Lib.strCells s) ∧ RowOne w' v' ∧ w.grownBy w' v.ownBlock ∧ (v'.ownBlock = v.ownBlock ∨ ∀ g, v'.ownBlock = some g → w.heap.size ≤ g) := by
  obtain ⟨v', w', hr, h2, h3, h4⟩ := Lib.run_append_own_string (P := P) w 0 t u ty e i ht hu hi hz hsize hby v n xs hown s (by unfold maxLen; omega) hb (Nat.zero_le _)
  refine ⟨v', w', hr, h2, ?_, h3, ?_⟩ <;> clear h3
  all_goals
    have hx := Lib.strCells_oneCell s
    have hz1 : ∀ k, ∀ u ∈ (Builtin.zeroCells (Value.int .u8 0).cells k).toList, u.oneCell' = true := fun k => zeroCells_one (by intro u hu; simp [Value.cells] at hu; subst hu; rfl) (by decide)
    have hxl : xs.length = n := by simpa using hown.1
    rcases hown.2 with ⟨rfl, rfl⟩ | ⟨g, cap, cur, rfl, hbg, hg, hnc, hcm, hcs, htake⟩
  · by_cases h0 : s.size = 0
    · obtain rfl := h4.2 ⟨rfl, h0⟩
      intro g hg; cases hg
    · have := run_append_nil_string (P := P) w t u ty e i (.int .u8 0) ht hu hi hz s (by omega) (by omega) (by rw [hby]; omega)
      rw [hr] at this
      injection this with e1 e2
      subst e1; subst e2
      intro g hg
      injection hg with hg
      simp only at hg
      subst hg
      refine ⟨_, e, heap_alloc_new w.drew _, ?_⟩
      intro u hu
      simp only [Array.toList_append, List.mem_append, Array.toList_map, List.mem_map] at hu
      rcases hu with ⟨b, _, rfl⟩ | hu
      · rfl
      · exact hz1 _ u hu
  · obtain ⟨cs, T, k1, k2⟩ := hro g rfl
    rw [hg] at k1
    have hcs' : cs = cur := by cases k1; rfl
    subst hcs'
    by_cases hroom : n + s.size ≤ cap
    · have := Lib.run_append_room_string (P := P) w t u ty e i ht hu hi hsize g n cap cs hg s hroom (by have : cs.size = cap := by simpa using hcs
                                                                                                        omega)
      rw [hr] at this
      injection this with e1 e2
      subst e1; subst e2
      intro g' hg'
      injection hg' with hg'
      simp only at hg'
      subst hg'
      refine ⟨_, e, setRow_heap w g cs _ e _ hg, ?_⟩
      intro u hu
      simp only [List.mem_append] at hu
      rcases hu with (hu | hu) | hu
      · exact k2 u (List.mem_of_mem_take hu)
      · exact hx u hu
      · exact k2 u (List.mem_of_mem_drop hu)
    · have holds : ∀ j u, xs[j]? = some u → w.cell? ((⟨g, 0, none⟩ : Addr).add j) = some u := hown.cells (g := g) rfl
      have := Lib.run_append_grow_string (P := P) w t u ty e i (.int .u8 0) ht hu hi hz ⟨g, 0, none⟩ n cap xs (by rw [hsize]; simpa using hxl) holds s (by omega) (by omega) (by rw [hby]; exact growslice_fits (by omega) (by omega))
      rw [hr] at this
      injection this with e1 e2
      subst e1; subst e2
      intro g' hg'
      injection hg' with hg'
      simp only at hg'
      subst hg'
      refine ⟨_, e, heap_alloc_new w.drew _, ?_⟩
      intro u hu
      simp only [Array.toList_append, List.mem_append] at hu
      rcases hu with (hu | hu) | hu
      · obtain ⟨j, hj, rfl⟩ := List.getElem_of_mem hu
        have hj' : xs[j]? = some xs[j] := List.getElem?_eq_getElem hj
        have := htake
        rw [Nat.mul_one] at this
        exact k2 _ (List.mem_of_mem_take (by rw [this]; exact List.getElem_mem hj))
      · exact hx u hu
      · exact hz1 _ u hu
  · by_cases h0 : s.size = 0
    · obtain rfl := h4.2 ⟨rfl, h0⟩
      exact .inl rfl
    · have := run_append_nil_string (P := P) w t u ty e i (.int .u8 0) ht hu hi hz s (by omega) (by omega) (by rw [hby]; omega)
      rw [hr] at this
      injection this with e1 e2
      subst e1
      exact .inr fun g hg => by injection hg with hg; simp only at hg; omega
  · by_cases hroom : n + s.size ≤ cap
    · have := Lib.run_append_room_string (P := P) w t u ty e i ht hu hi hsize g n cap cur hg s hroom (by have : cur.size = cap := by simpa using hcs
                                                                                                         omega)
      rw [hr] at this
      injection this with e1 e2
      subst e1
      exact .inl rfl
    · have holds : ∀ j u, xs[j]? = some u → w.cell? ((⟨g, 0, none⟩ : Addr).add j) = some u := hown.cells (g := g) rfl
      have := Lib.run_append_grow_string (P := P) w t u ty e i (.int .u8 0) ht hu hi hz ⟨g, 0, none⟩ n cap xs (by rw [hsize]; simpa using hxl) holds s (by omega) (by omega) (by rw [hby]; exact growslice_fits (by omega) (by omega))
      rw [hr] at this
      injection this with e1 e2
      subst e1
      exact .inr fun g hg => by injection hg with hg; simp only at hg; omega
theorem wpList_bld {P : Program} {w : World} {ops : Array Oper} {rest : List Oper} {o : Oper} {a : Act} {Q : Exit → Act → World → Prop} (hgd : o.guard = none) (sl x : Operand) (t u : TypeId)
  (ho : o.op = .call { callee := .builtin .append, args := #[sl, x], argTypes := #[t, u] }) (e : TypeId) (i : TypeInfo) (ht : P.underlying t = some (.slice e)) (hu : P.underlying u = some .string) (hi : P.info? e = some i) (hz : i.zero = some (.int .u8 0))
  (hsize : i.size = 1) (hby : i.bytes = 1) (v : Value) (n : Nat) (xs : List Value) (hs : a.eval sl = v) (hown : w.ownsRow 0 e 1 v n xs) (hro : RowOne w v) (s : ByteArray) (hx : a.eval x = .string s) (hb : n + s.size ≤ 140737488355328)
  (h : ∀ v' w', w'.ownsRow 0 e 1 v' (n + s.size) (xs ++ Lib.strCells s) → RowOne w' v' → w.grownBy w' v.ownBlock → (v'.ownBlock = v.ownBlock ∨ ∀ g, v'.ownBlock = some g → w.heap.size ≤ g) → wpList P ops Q rest (a.put o.dst v') w') : wpList P ops Q (o :: rest) a w := by
 refine wpList_plain hgd fun K hK => ?_
 obtain ⟨v', w', hr, h2, h3, h4, h5⟩ := bld_append (P := P) w t u o.type e i ht hu hi hz hsize hby v n xs hown hro s hb
 unfold Oper.wp execOp
 simp only [ho, resolve, invoke, builtin, Sem.run_bind, Sem.run_pure, Result.andThen_ok, List.map_toArray, List.map_cons, List.map_nil, hs, hx, hr]
 exact hK _ _ (h v' w' h2 h3 h4 h5)
def bldWQ (e : TypeId) (ok : TypeId → Nat → Bool) (b off : Nat) (x : ByteArray) (M : List Blk) (K : PV → List Blk → Prop) : Option Blk → Prop
 | some (.bld T e' pre s) => e' = e ∧ off = pre.length ∧ ok T off = true ∧ s.size + x.size ≤ 140737488355328 ∧ K (.tuple [.val (.int .i64 x.size), .val .nilIface]) (M.set b (.bld T e' pre (s ++ x)))
 | _ => False
def bldWT (e : TypeId) (ok : TypeId → Nat → Bool) : PT := fun args M K => match args with
 | [.ptr b off, .val (.string x)] => bldWQ e ok b off x M K M[b]?
 | _ => False
theorem bldWT_mono (e : TypeId) (ok : TypeId → Nat → Bool) : ∀ args M K K', (∀ r b, K r b → K' r b) → bldWT e ok args M K → bldWT e ok args M K' := by
 intro args M K K' hk h
 unfold bldWT at h ⊢
 split at h
 ·unfold bldWQ at h ⊢
  split at h
  ·exact ⟨h.1, h.2.1, h.2.2.1, h.2.2.2.1, hk _ _ h.2.2.2.2⟩
  ·exact h
 ·exact h
theorem bdw_q (e : TypeId) (ok : TypeId → Nat → Bool) (b off : Nat) (x : ByteArray) (M : List Blk) (K : PV → List Blk → Prop) (T e' : TypeId) (pre : List PV) (s : ByteArray) : bldWQ e ok b off x M K (some (.bld T e' pre s)) = (e' = e ∧ off = pre.length ∧ ok T off = true ∧ s.size + x.size ≤ 140737488355328 ∧ K (.tuple [.val (.int .i64 x.size), .val .nilIface]) (M.set b (.bld T e' pre (s ++ x)))) := rfl
theorem Sound.bldW {P : Program} {G : Nat → Option (List PV)} {g : FuncId} (hfn : ∃ fn, P.funcs[g]? = some fn ∧ fn.name ≠ "runtime.NumGoroutine" ∧ fn.body.isSome = true) (e : TypeId) (ok : TypeId → Nat → Bool)
  (h : ∀ T off, ok T off = true → ∀ (w : World) (c : Nat) (vs : List Value) (p v : Value) (s x : ByteArray), vs.length = off → BldAt e T c vs p v s w → s.size + x.size ≤ 140737488355328 →
   Calls P g #[.pointer (some ⟨c, off, none⟩), .string x] w (fun r w' => r = .returned (.tuple #[.int .i64 x.size, .nilIface]) ∧ ∃ p' v', BldAt e T c vs p' v' (s ++ x) w' ∧ BldKept w w' c v ∧ (v'.ownBlock = v.ownBlock ∨ ∀ g, v'.ownBlock = some g → w.heap.size ≤ g))) :
  Sound P G g (bldWT e ok) := by
 refine ⟨hfn, ?_⟩
 intro Pr F R blks w args vs K hR1 hm hr ho hown hk
 unfold bldWT at hk
 split at hk
 case h_2 => exact hk.elim
 rename_i b off x
 unfold bldWQ at hk
 split at hk
 case h_2 => exact hk.elim
 rename_i T e' pre s hb
 obtain ⟨rfl, rfl, hok, hsz, hK⟩ := hk
 obtain ⟨vl, rfl⟩ : ∃ l : List Value, vs = l.toArray := ⟨vs.toList, by simp⟩
 simp only at hr
 cases hr with
 | cons h1 t =>
  cases t with
  | cons h2 t2 =>
   cases t2
   cases h1 with
   | ptr hc =>
    rename_i c
    cases h2 with
    | val _ =>
     obtain ⟨us, p, v, hat, hpre, hone, hrow⟩ := bld_at hm hown hc hb
     refine (h T _ hok w c us p v s x hpre.length hat hsz).mono ?_
     rintro r w' ⟨rfl, p', v', hat', hkept, hnew⟩
     obtain ⟨m1, m2⟩ := bld_wrote hm hown hc hb hpre hone hrow hkept (fun q => (nomatch (show false = true from q))) hat' hnew
     exact ⟨_, _, _, F, R, rfl, hK, .tuple (.cons (.val rfl) (.cons (.val rfl) .nil)), m1, by simpa [occ, occL] using m2⟩
def bldSQ (e : TypeId) (ok : TypeId → Nat → Bool) (b off : Nat) (M : List Blk) (K : PV → List Blk → Prop) : Option Blk → Prop
 | some (.bld T e' pre s) => e' = e ∧ off = pre.length ∧ ok T off = true ∧ K (.val (.string s)) (M.set b (.frz []))
 | _ => False
def bldST (e : TypeId) (ok : TypeId → Nat → Bool) : PT := fun args M K => match args with
 | [.ptr b off] => bldSQ e ok b off M K M[b]?
 | _ => False
theorem bldST_mono (e : TypeId) (ok : TypeId → Nat → Bool) : ∀ args M K K', (∀ r b, K r b → K' r b) → bldST e ok args M K → bldST e ok args M K' := by
 intro args M K K' hk h
 unfold bldST at h ⊢
 split at h
 ·unfold bldSQ at h ⊢
  split at h
  ·exact ⟨h.1, h.2.1, h.2.2.1, hk _ _ h.2.2.2⟩
  ·exact h
 ·exact h
theorem bds_q (e : TypeId) (ok : TypeId → Nat → Bool) (b off : Nat) (M : List Blk) (K : PV → List Blk → Prop) (T e' : TypeId) (pre : List PV) (s : ByteArray) : bldSQ e ok b off M K (some (.bld T e' pre s)) = (e' = e ∧ off = pre.length ∧ ok T off = true ∧ K (.val (.string s)) (M.set b (.frz []))) := rfl
theorem Sound.bldS {P : Program} {G : Nat → Option (List PV)} {g : FuncId} (hfn : ∃ fn, P.funcs[g]? = some fn ∧ fn.name ≠ "runtime.NumGoroutine" ∧ fn.body.isSome = true) (e : TypeId) (ok : TypeId → Nat → Bool)
  (h : ∀ T off, ok T off = true → ∀ (w : World) (c : Nat) (vs : List Value) (p v : Value) (s : ByteArray), vs.length = off → BldAt e T c vs p v s w →
   Calls P g #[.pointer (some ⟨c, off, none⟩)] w (fun r w' => r = .returned (.string s) ∧ BldKept w w' c v)) :
  Sound P G g (bldST e ok) := by
 refine ⟨hfn, ?_⟩
 intro Pr F R blks w args vs K hR1 hm hr ho hown hk
 unfold bldST at hk
 split at hk
 case h_2 => exact hk.elim
 rename_i b off
 unfold bldSQ at hk
 split at hk
 case h_2 => exact hk.elim
 rename_i T e' pre s hb
 obtain ⟨rfl, rfl, hok, hK⟩ := hk
 obtain ⟨vl, rfl⟩ : ∃ l : List Value, vs = l.toArray := ⟨vs.toList, by simp⟩
 simp only at hr
 cases hr with
 | cons h1 t =>
  cases t
  cases h1 with
  | ptr hc =>
   rename_i c
   obtain ⟨us, p, v, hat, hpre, hone, hrow⟩ := bld_at hm hown hc hb
   refine (h T _ hok w c us p v s hpre.length hat).mono ?_
   rintro r w' ⟨rfl, hkept⟩
   obtain ⟨m1, m2⟩ := bld_step hm hown hc hb hrow hkept (fun q => (nomatch (show false = true from q))) (b' := .frz []) ⟨[], .nil, fun j u hu => by simp at hu⟩ (by simp [occB]) (by simp [occB, cnt]) (by simp [occB])
   exact ⟨_, _, _, F, R, rfl, hK, .val rfl, m1, by simpa [occ] using m2⟩
end Go.Ve
