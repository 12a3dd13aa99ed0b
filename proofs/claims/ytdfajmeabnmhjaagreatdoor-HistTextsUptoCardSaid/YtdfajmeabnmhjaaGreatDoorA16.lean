/- weirlaw30.HistTexts: part of the proof (a value semantics for the model's code, and the functions told by it). -/
import Derived.Test.YtdfajmeabnmhjaaGreatDoorA15
import Derived.Shelf.SlSortCmp.NoneTotal
set_option linter.unusedSimpArgs false
set_option linter.unusedVariables false
set_option linter.deprecated false
set_option linter.unusedSectionVars false
set_option linter.defProp false
namespace Go.Ve
open Go Go.Proofs Go.Sort Go.Shelf
section
variable {E : Env} {B : Base} {F : Fz} {R : List Nat} {blks : List Blk} {w : World}
theorem grow_old {w : World} {os : Array Obj} {b : Nat} (h : b < w.heap.size) : (grow w os).heap[b]? = w.heap[b]? := by
 simp [grow, Array.getElem?_append, h]
theorem Mem.grow (hm : Mem E B F R blks w) (os : Array Obj) : Mem E B F R blks (Sort.grow w os) :=
 {
  os := hm.os, tape := hm.tape, output := hm.output, drn := hm.drn
  size := by simpa using Nat.le_trans hm.size (Nat.le_add_right _ _)
  pr := fun b hb => by
   obtain ⟨h1, h2⟩ := hm.pr b hb
   exact ⟨h1, by rw [grow_old (Nat.lt_of_lt_of_le h1 hm.size)]; exact h2⟩
  fz := fun b o v h => by
   rw [cell_congr (grow_old (hm.F_lt h))]; exact hm.fz b o v h
  fnew := hm.fnew, fold := hm.fold, rnew := hm.rnew, rold := hm.rold
  bound := fun c hc => by
   have := hm.bound c hc
   simpa using Nat.lt_of_lt_of_le this (Nat.le_add_right _ _)
  glob := hm.glob, len := hm.len, nd := hm.nd
  blk := fun i c b h h' => (hm.blk i c b h h').mono (Fz.le_refl F) (Rle.refl R) (fun _ h => h) (grow_old (hm.bound c (List.mem_of_getElem? h)))
  mks := fun c hc => by
   obtain ⟨h2, h3, h4⟩ := hm.mks c hc
   exact ⟨by rw [grow_old (Array.getElem?_eq_some_iff.1 h2).1]; exact h2, h3, h4⟩
  mnd := hm.mnd }
theorem Owned.grow (hm : Mem E B F R blks w) {l : List Occ} (h : Owned B.Pr F R w (l ++ occB w R blks)) (os : Array Obj) : Owned B.Pr F R (Sort.grow w os) (l ++ occB (Sort.grow w os) R blks) := by
 rw [occB_congr (w := w) (w' := Sort.grow w os) R blks (fun c hc => grow_old (hm.bound c hc))]
 exact ⟨h.1, fun q hq => (h.2 q hq).mono (fun h => h) (fun _ h => h) (grow_old (h.2 q hq).lt)⟩
theorem Mem.ahead (hm : Mem E B F R blks w) (n : Nat) : Mem E B F R blks (Sort.ahead w n) :=
 {
  os := hm.os, tape := hm.tape, output := hm.output, drn := fun q => Nat.le_add_right_of_le (hm.drn q), size := hm.size, pr := hm.pr, fz := hm.fz, fnew := hm.fnew, fold := hm.fold, rnew := hm.rnew, rold := hm.rold, mks := hm.mks, mnd := hm.mnd, bound := hm.bound, glob := hm.glob, len := hm.len, nd := hm.nd,
  blk := fun i c b h h' => (hm.blk i c b h h').mono (Fz.le_refl F) (Rle.refl R) (fun _ h => h) rfl }
theorem Owned.ahead {Pr : Nat → Prop} {l : List Occ} (h : Owned Pr F R w (l ++ occB w R blks)) (n : Nat) : Owned Pr F R (Sort.ahead w n) (l ++ occB (Sort.ahead w n) R blks) := by
 rw [occB_congr (w := w) (w' := Sort.ahead w n) R blks (fun _ _ => rfl)]
 exact ⟨h.1, fun q hq => (h.2 q hq).mono (fun h => h) (fun _ h => h) rfl⟩
end
theorem repL_split {F : Fz} {R : List Nat} : ∀ {us : List Value} {cs : List PV} {vs : List Value}, RepL F R (us.map PV.val ++ cs) vs → ∃ V, vs = us ++ V ∧ RepL F R cs V
 | [], cs, vs, h => ⟨vs, rfl, h⟩
 | u :: us, cs, vs, h => by
  cases h with
  | cons h t =>
   obtain ⟨rfl, _⟩ := h.val_inv
   obtain ⟨V, rfl, hV⟩ := repL_split t
   exact ⟨V, rfl, hV⟩
theorem repL_ofV {F : Fz} {R : List Nat} : ∀ {us : List Value}, (∀ u ∈ us, u.oneCell' = true) → RepL F R (us.map PV.val) us ∧ occL (us.map PV.val) us = []
 | [], _ => ⟨.nil, rfl⟩
 | u :: us, h => by
  obtain ⟨h1, h2⟩ := repL_ofV (F := F) (R := R) (us := us) fun x hx => h x (by simp [hx])
  exact ⟨.cons (.val (h u (by simp))) h1, by simp only [List.map_cons, occL, h2, List.append_nil]; exact occ_free _ _ rfl⟩
theorem occL_left : ∀ (a : List PV) (us vs : List Value) (b : List PV), occL ((us.map PV.val) ++ b) (us ++ vs) = occL b vs
 | _, [], vs, b => rfl
 | a, u :: us, vs, b => by
  simp only [List.map_cons, List.cons_append, occL]
  rw [occL_left a us vs b, occ_free _ _ rfl, List.nil_append]
theorem grown_of {W w' : World} (h1 : w'.os = W.os) (h2 : w'.tape = W.tape) (h3 : w'.output = W.output) (h4 : W.drawn ≤ w'.drawn) (h5 : W.heap.size ≤ w'.heap.size) (h6 : ∀ b, b < W.heap.size → w'.heap[b]? = W.heap[b]?) :
  ∃ q os, w' = grow (W.drewN q) os := by
 refine ⟨w'.drawn - W.drawn, w'.heap.extract W.heap.size w'.heap.size, ?_⟩
 obtain ⟨hp, tp, dr, os, out⟩ := w'
 obtain ⟨hp', tp', dr', os', out'⟩ := W
 simp only [World.drewN, grow] at *
 subst h1 h2 h3
 congr 1
 ·apply Array.ext_getElem?
  intro k
  rw [Array.getElem?_append]
  split
  ·rename_i hk; exact h6 k hk
  ·rename_i hk
   rw [Array.getElem?_extract]
   split
   ·rw [show hp'.size + (k - hp'.size) = k by omega]
   ·rw [Array.getElem?_eq_none (by omega)]
 ·omega
variable {α : Type} [Inhabited α]
theorem flat_get {enc : α → List Value} {k : Nat} (hk : ∀ x, (enc x).length = k) : ∀ (l : List α) (t : Nat), t < l.length * k → (l.flatMap enc)[t]? = (enc (l[t / k]?.getD default))[t % k]?
 | [], t, h => by simp at h
 | x :: l, t, h => by
  have hk0 : 0 < k := by
   rcases Nat.eq_zero_or_pos k with h0 | h0
   ·subst h0; simp at h
   ·exact h0
  rw [List.flatMap_cons]
  by_cases ht : t < k
  ·rw [List.getElem?_append_left (by rw [hk]; exact ht), Nat.div_eq_of_lt ht, Nat.mod_eq_of_lt ht]; rfl
  ·have hle : k ≤ t := Nat.le_of_not_lt ht
   rw [List.getElem?_append_right (by rw [hk]; exact hle), hk, flat_get hk l (t - k) (by rw [List.length_cons, Nat.add_mul, Nat.one_mul] at h; omega)]
   obtain ⟨u, rfl⟩ : ∃ u, t = u + k := ⟨t - k, by omega⟩
   rw [Nat.add_sub_cancel, Nat.add_div_right u hk0, Nat.add_mod_right]
   rfl
theorem sumC (k : Nat) : ∀ z : List α, (z.map fun _ => k).sum = z.length * k
 | [] => by simp
 | x :: z => by rw [List.map_cons, List.sum_cons, sumC k z, List.length_cons, Nat.add_mul, Nat.one_mul, Nat.add_comm]
theorem flatK_eq {enc : α → List Value} {k : Nat} (hk : ∀ x, (enc x).length = k) (d : Array α) : flatK enc k d = (d.toList.flatMap enc).toArray := by
 have hl : (d.toList.flatMap enc).length = d.size * k := by
  rw [List.length_flatMap]
  have : (d.toList.map fun a => (enc a).length) = d.toList.map fun _ => k := List.map_congr_left fun x _ => hk x
  rw [this, sumC]; rfl
 refine ext_get! (by rw [size_flatK]; simpa using hl.symm) fun t ht => ?_
 rw [size_flatK] at ht
 rw [get_flatK enc k d t ht]
 have hk0 : 0 < k := by
  rcases Nat.eq_zero_or_pos k with h0 | h0
  ·subst h0; simp at ht
  ·exact h0
 have h1 := flat_get hk d.toList t (by simpa using ht)
 have h2 : (d.toList.flatMap enc).toArray[t]! = (d.toList.flatMap enc)[t]?.getD default := by
  rw [Array.getElem!_eq_getD, Array.getD_eq_getD_getElem?, List.getElem?_toArray]
 have h3 : d[t / k]! = d.toList[t / k]?.getD default := by
  rw [Array.getElem!_eq_getD, Array.getD_eq_getD_getElem?, Array.getElem?_toList]
 rw [h2, h1, h3, List.getElem!_eq_getElem?_getD]
theorem setRow_map (w : World) (c : Nat) (cs : Array Value) : w.setRow c cs = mapBlock w c (fun _ => cs) := by
 unfold World.setRow mapBlock
 have : (fun o : Obj => match o with | .cells _ elem frozen => Obj.cells cs elem frozen | o => o) = onCells (fun _ => cs) := by
  funext o
  cases o <;> rfl
 rw [← this]
 rfl
theorem putRow_row {w : World} {c : Nat} {vs : Array Value} {T : TypeId} (h : w.heap[c]? = some (.cells vs T (0, 0))) {us V : List Value} (hv : vs.toList.length = us.length + V.length) (hV : vs.toList.drop us.length = V) : putRow id w c 0 us.toArray = w.setRow c (us ++ V).toArray := by
 rw [setRow_map]
 unfold putRow
 refine mapBlock_congr w c _ _ fun cs e fr hc => ?_
 rw [h] at hc
 simp only [Option.some.injEq, Obj.cells.injEq] at hc
 obtain ⟨rfl, _, _⟩ := hc
 apply Array.ext_getElem?
 intro j
 unfold putCells
 rw [Array.getElem?_mapIdx]
 have hlen : vs.size = us.length + V.length := by simpa using hv
 by_cases hj : j < us.length
 ·have : (us ++ V)[j]? = us[j]? := List.getElem?_append_left hj
  simp only [List.getElem?_toArray, this]
  rw [Array.getElem?_eq_getElem (show j < vs.size by omega)]
  simp [hj]
 ·have : (us ++ V)[j]? = V[j - us.length]? := List.getElem?_append_right (by omega)
  simp only [List.getElem?_toArray, this]
  rw [← hV, List.getElem?_drop, show us.length + (j - us.length) = j by omega]
  cases hq : vs[j]? with
  | none => simp [hq]
  | some v => simp [hq, hj]
def sortT (k : Nat) (enc : α → List Value) (le : α → α → Bool) (fb : FuncId) : PT := fun args M K =>
 (∃ (j : Nat) (own : Bool), args = [.sl j [] own, .func (.func fb) [] []] ∧ K (.tuple []) M) ∨
 ∃ (b cap : Nat) (l : List α) (rest : List PV), args = [.rs k b 0 l.length cap, .func (.func fb) [] []] ∧ M[b]? = some (.live ((l.flatMap enc).map PV.val ++ rest)) ∧ l.length < 4611686018427387904 ∧ K (.tuple []) (M.set b (.live (((l.mergeSort le).flatMap enc).map PV.val ++ rest)))
theorem Sound.sort {P : Program} {G : Nat → Option (List PV)} {ρ : Ren} (L : SlLaysF0.n6 P ρ) (hfn : ∃ fn, P.funcs[ρ.f 6]? = some fn ∧ fn.name ≠ "runtime.NumGoroutine" ∧ fn.body.isSome = true) (k : Nat)
  (aE : ∀ w, (isAgg (ρ.t 24)).run P w = .ok true w) (zE : ∀ w, (Go.sizeOf (ρ.t 24)).run P w = .ok k w) (enc : α → List Value) (hk : ∀ x, (enc x).length = k) (h1 : ∀ x, ∀ v ∈ enc x, v.oneCell' = true) (cf : α → α → Int) (hO : SWO (ltOf cf))
  (hT : ∀ x y, (ltOf cf) x y = false → (ltOf cf) y x = false → x = y) (fb : FuncId) (eg : ∀ args w, (callFunc fb args).run P w = .ok (.enter fb args) w) (Q : List PV → PV → Prop) (hs : SoundD true P G [] fb (conT (.pure Q))) (hQ : ∀ x y, Q [.agg ((enc x).map PV.val), .agg ((enc y).map PV.val)] (.val (.int .i64 (cf x y)))) :
  Sound P G (ρ.f 6) (sortT k enc (fun x y => !(ltOf cf) y x) fb) := by
 refine ⟨hfn, ?_⟩
 intro Pr F0 R blks w args vs K hR1 hm hr ho hown hT1
 have pair : ∀ (p q : PV) (vs : Array Value), RepL F0 R [p, q] vs.toList → ∃ v1 v2, vs = #[v1, v2] ∧ Rep F0 R p v1 ∧ Rep F0 R q v2 := by
  intro p q vs hr
  obtain ⟨l⟩ := vs
  cases hr with
  | cons a t => cases t with
   | cons b t => cases t with
    | nil => exact ⟨_, _, rfl, a, b⟩
 have fnv : ∀ v, Rep F0 R (.func (.func fb) [] []) v → v = .func (.func fb) #[] #[] := by
  intro v hv
  cases hv with
  | func a c =>
   rename_i A C
   obtain ⟨A⟩ := A; obtain ⟨C⟩ := C
   cases a; cases c; rfl
 rcases hT1 with ⟨j, own, rfl, hK⟩ | ⟨b, cap, l, rest, rfl, hb, hlen, hK⟩
 ·obtain ⟨v1, v2, rfl, r1, r2⟩ := pair _ _ _ hr
  have := fnv _ r2; subst this
  have e1 : ∃ p c, v1 = .slice p 0 c := by
   cases r1 with
   | sl us hk0 hl hc hk' hF hR => exact ⟨_, _, by rw [hl]; rfl⟩
   | slnil => exact ⟨_, _, rfl⟩
  obtain ⟨p, c, rfl⟩ := e1
  refine (AnyF.slices_SortFunc_none L p c _ w).mono ?_
  rintro e w' ⟨rfl, rfl⟩
  exact ⟨.tuple [], .tuple #[], blks, F0, R, rfl, hK, .tuple .nil, hm, by rw [occ_free _ _ rfl]; exact hown⟩
 ·obtain ⟨v1, v2, rfl, r1, r2⟩ := pair _ _ _ hr
  have := fnv _ r2; subst this
  cases r1 with
  | rs hc hcap =>
  rename_i c
  obtain ⟨hnp, hF0, cells, T, hh, hrep, hone, hpl⟩ := hm.blk b c _ hc hb
  have hcl : c < w.heap.size := hm.bound c (List.mem_of_getElem? hc)
  obtain ⟨V, hV, hrV⟩ := repL_split hrep
  have hct : cells.toList = l.flatMap enc ++ (V ++ cells.toList.drop ((l.flatMap enc).map PV.val ++ rest).length) := by
   rw [← List.append_assoc, ← hV, List.take_append_drop]
  generalize hV2 : V ++ cells.toList.drop ((l.flatMap enc).map PV.val ++ rest).length = V2 at hct
  have hfl : flatK enc k l.toArray = (l.flatMap enc).toArray := flatK_eq hk l.toArray
  have hH : HoldsK enc k w c 0 l.toArray := by
   intro j hj
   rw [hfl] at hj ⊢
   have hj' : j < (l.flatMap enc).length := by simpa using hj
   have hcj : cells[j]? = some ((l.flatMap enc)[j]) := by
    have : cells.toList[j]? = some ((l.flatMap enc)[j]) := by rw [hct, List.getElem?_append_left hj', List.getElem?_eq_getElem hj']
    simpa using this
   refine ⟨?_, ?_⟩
   ·simp only [World.cell?, hh, Nat.zero_add, Option.isSome_none, Bool.false_eq_true, if_false, hcj]
    rw [Array.getElem!_eq_getD, Array.getD_eq_getD_getElem?, List.getElem?_toArray, List.getElem?_eq_getElem hj']; rfl
   ·simp [World.frozen?, hh]
  have hcmp : CmpLays P fb #[] enc k cf c 0 l.toArray.size w := by
   intro m os dk hds x y
   have hWc : ∀ a : Addr, a.block ≠ c → a.block < w.heap.size → (sortWorldK enc k w c 0 m dk os).cell? a = w.cell? a := fun a h1 h2 => cell?_sortWorldK_other enc k w c 0 m dk os a h1 h2
   have hWh : ∀ g, g < w.heap.size → g ≠ c → (sortWorldK enc k w c 0 m dk os).heap[g]? = w.heap[g]? := fun g h1 h2 => by
    unfold sortWorldK putRowK
    simp only [Sort.grow, Sort.putRow, Sort.mapBlock, Sort.ahead]
    rw [Array.getElem?_append_left (by simpa using h1)]
    simp [Array.getElem?_modify]
    exact fun e => absurd e.symm h2
   have hWs : w.heap.size ≤ (sortWorldK enc k w c 0 m dk os).heap.size := by
    unfold sortWorldK putRowK
    simp [Sort.grow, Sort.putRow, Sort.mapBlock, Sort.ahead]
   generalize sortWorldK enc k w c 0 m dk os = W at hWc hWh hWs ⊢
   have hx := repL_ofV (F := F0) (R := []) (h1 x)
   have hy := repL_ofV (F := F0) (R := []) (h1 y)
   have hm0 : Mem ⟨P, G, none, none, 0, [], true⟩ ⟨fun b => b < W.heap.size, W, F0, [], [], []⟩ F0 [] [] W :=
    {
     os := rfl, tape := rfl, output := rfl, drn := fun _ => Nat.le_refl _, size := Nat.le_refl _, pr := fun b hb => ⟨hb, rfl⟩, mks := fun c hc => by simp at hc, mnd := List.nodup_nil, fz := fun b o v h => ⟨(hWc ⟨b, o, none⟩ (fun e => by have e : b = c := e; rw [e, hF0 o] at h; cases h) (hm.F_lt h)).trans (hm.fz b o v h).1, (hm.fz b o v h).2⟩, fnew := fun _ _ _ h => .inl h, fold := Fz.le_refl _,
     rnew := fun c hc => by simp at hc, rold := Rle.refl _, bound := fun c hc => by simp at hc, glob := hm.glob.rebase (fun g hg => Nat.lt_of_lt_of_le (hm.pr g hg).1 hWs) (fun g hg => hWh g (hm.pr g hg).1 (fun e => hnp (e ▸ hg))), len := rfl, nd := List.nodup_nil, blk := fun i c b h => by simp at h }
   refine (hs.2 (fun b => b < W.heap.size) F0 [] [] W [.agg ((enc x).map PV.val), .agg ((enc y).map PV.val)] _ (fun r _ => r = .val (.int .i64 (cf x y))) (Rle.nil _) hm0 ?_ ?_ ?_ ⟨_, hQ x y, rfl⟩).mono ?_
   ·exact .cons (.agg (by simpa using h1 x) (by simpa using hx.1)) (.cons (.agg (by simpa using h1 y) (by simpa using hy.1)) .nil)
   ·simp [occL, occ, hx.2, hy.2]
   ·exact ⟨fun c => by simp [occB], fun q hq => by simp [occB] at hq⟩
   ·rintro e w' ⟨r, u, blks', F', R', rfl, rfl, hru, hm', _⟩
    obtain ⟨rfl, _⟩ := hru.val_inv
    refine ⟨rfl, grown_of hm'.os hm'.tape hm'.output (hm'.drn rfl) hm'.size fun b hb => (hm'.pr b hb).2⟩
  have hC := AnyQ.slices_SortFunc_total L k aE zE enc hk h1 cf hO fb #[] c 0 cap l.toArray w eg hcmp hH hcl (by simpa using hlen) hT
  refine (show Calls P (ρ.f 6) #[.slice (some ⟨c, 0, none⟩) l.length cap, .func (.func fb) #[] #[]] w _ from hC).mono ?_
  rintro e w' ⟨rfl, n, os, rfl⟩
  have hperm := (List.mergeSort_perm l (fun x y => !(ltOf cf) y x))
  generalize hsl : (l.mergeSort fun x y => !(ltOf cf) y x) = sl at hperm hK
  have hll : (sl.flatMap enc).length = (l.flatMap enc).length := by
   have e : ∀ z : List α, (z.flatMap enc).length = z.length * k := fun z => by
    rw [List.length_flatMap, show (z.map fun a => (enc a).length) = z.map fun _ => k from List.map_congr_left fun x _ => hk x, sumC]
   rw [e, e, hperm.length_eq]
  have hone2 : ∀ v ∈ sl.flatMap enc, v.oneCell' = true := fun v hv => by
   obtain ⟨x, _, hx⟩ := List.mem_flatMap.1 hv
   exact h1 x v hx
  have hsw : sortWorldK enc k w c 0 n sl.toArray os = Sort.grow (((Sort.ahead w n)).setRow c (sl.flatMap enc ++ V2).toArray) os := by
   unfold sortWorldK putRowK
   rw [flatK_eq hk]
   rw [putRow_row (w := Sort.ahead w n) (vs := cells) (T := T) hh (V := V2) (by rw [hct, List.length_append, hll]) (by rw [hct, hll, List.drop_left])]
  rw [hsw]
  have hm1 := hm.ahead n
  have ho1 := (show Owned Pr F0 R w ([] ++ occB w R blks) from hown).ahead n
  have hlc : ((sl.flatMap enc).map PV.val ++ rest).length = ((l.flatMap enc).map PV.val ++ rest).length := by simp only [List.length_append, List.length_map, hll]
  have hVl : V.length = rest.length := (hrV.length)
  have hm2 := hm1.store (cs' := (sl.flatMap enc).map PV.val ++ rest) (vs := cells.toList) (vs' := sl.flatMap enc ++ V2) hc hb (by
   rw [← hV2, ← List.append_assoc, List.take_append_of_le_length (by simp [hVl]), List.take_of_length_le (by simp [hVl])]
   exact RepL.append hrV (repL_ofV hone2).1) (fun v hv => by
    rcases List.mem_append.1 hv with h | h
    ·exact hone2 v h
    ·exact hone v (by rw [hct]; exact List.mem_append_right _ h)) (by
    rw [hlc, show (sl.flatMap enc ++ V2).length = cells.toList.length by rw [hct, List.length_append, List.length_append, hll]]; simpa using hpl)
  have ho2 := Owned.store hm1 (l := []) (l' := []) (cs' := (sl.flatMap enc).map PV.val ++ rest) (vs' := sl.flatMap enc ++ V2) hc hb ho1 (by
   have e : cellsW (Sort.ahead w n) c = l.flatMap enc ++ V2 := by rw [← hct]; simp [cellsW, Sort.ahead, hh]
   rw [e, occL_left [], occL_left []]
   exact Sub.refl _)
  exact ⟨.tuple [], .tuple #[], _, F0, R, rfl, hK, .tuple .nil, hm2.grow os, by
   rw [occ_free _ _ rfl]
   exact Owned.grow hm2 ho2 os⟩
end Go.Ve
