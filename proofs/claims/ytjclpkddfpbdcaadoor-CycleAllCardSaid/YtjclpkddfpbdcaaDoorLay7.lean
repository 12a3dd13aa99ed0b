/-
 weirref26.grow: the walk of a function that grows a row of lists behind a pointer. xprint.py's over the kit's print, turned by mkgrow.py.
-/
import Derived.Test.YtjclpkddfpbdcaaDoorLay5
namespace Go.Proofs.YtjclpkddfpbdcaaDoor.Lay
open Go.RowKit Go.Proofs.YtjclpkddfpbdcaaDoorW.PrintWords Go.Proofs.YtjclpkddfpbdcaaDoorW.PrintLast Go.Proofs.YtjclpkddfpbdcaaDoorW.PrintMore Go.Proofs.YtjclpkddfpbdcaaDoor.XC
attribute [local go_sem] max2_int min2_int max_two min_two max_three min_three max_four min_four
set_option linter.unusedVariables false
set_option linter.unusedSimpArgs false

mutual
def weirref26_grow.l0 : Nat → List ByteArray → List ByteArray → Int → Int → List (List ByteArray) → List ByteArray → Int → Option (List (List ByteArray))
 | 0, _, _, _, _, _, _, _ => none
 | k + 1, x0, x1, x2, x3, x4, x5, x12 => if x12 < 18 then (weirref26_grow.l1 k x0 x1 x2 x3 x4 x5 x12 false 0) else (some x4)
def weirref26_grow.l1 : Nat → List ByteArray → List ByteArray → Int → Int → List (List ByteArray) → List ByteArray → Int → Bool → Int → Option (List (List ByteArray))
 | 0, _, _, _, _, _, _, _, _, _ => none
 | k + 1, x0, x1, x2, x3, x4, x5, x12, x13, x14 => if x14 < (x0.length : Int) then (if x13 = true then (weirref26_grow.l1 k x0 x1 x2 x3 x4 x5 x12 true (wrap64 (x14 + 1))) else (if 0 ≤ x14 then (if 0 ≤ x12 then (if x12 < (x5.length : Int) then (weirref26_grow.l1 k x0 x1 x2 x3 x4 x5 x12 ((rdOf ByteArray.empty x0 x14).toList == (rdOf ByteArray.empty x5 x12).toList) (wrap64 (x14 + 1))) else (none)) else (none)) else (none))) else (if x13 = true then (if (x1.length : Int) = 0 then ((some (([] : List ByteArray) : List ByteArray)).bind fun y147 => (if y147.length + x1.length < 8796093022208 then ((some (y147 ++ x1 : List ByteArray)).bind fun y150 => (if 0 ≤ x12 then (if x12 < (x5.length : Int) then ((some (([rdOf ByteArray.empty x5 x12] : List ByteArray) : List ByteArray)).bind fun y154 => (if y150.length + y154.length < 8796093022208 then ((weirref26_grow.f k x0 (y150 ++ y154) x2 x3 x4 x5).bind fun z_ => (weirref26_grow.l0 k x0 x1 x2 x3 z_ x5 (wrap64 (x12 + 1)))) else (none))) else (none)) else (none))) else (none))) else (if 0 ≤ (wrap64 ((x1.length : Int) - 1)) then (if (wrap64 ((x1.length : Int) - 1)) < (x1.length : Int) then ((weirref26_Number.f (rdOf ByteArray.empty x1 (wrap64 ((x1.length : Int) - 1))) x5).bind fun t161 => ((weirref26_ends.f t161).bind fun t162 => ((weirref26_begins.f x12).bind fun t163 => (if t162 = t163 then ((some (([] : List ByteArray) : List ByteArray)).bind fun y164 => (if y164.length + x1.length < 8796093022208 then ((some (y164 ++ x1 : List ByteArray)).bind fun y167 => (if 0 ≤ x12 then (if x12 < (x5.length : Int) then ((some (([rdOf ByteArray.empty x5 x12] : List ByteArray) : List ByteArray)).bind fun y171 => (if y167.length + y171.length < 8796093022208 then ((weirref26_grow.f k x0 (y167 ++ y171) x2 x3 x4 x5).bind fun z_ => (weirref26_grow.l0 k x0 x1 x2 x3 z_ x5 (wrap64 (x12 + 1)))) else (none))) else (none)) else (none))) else (none))) else (weirref26_grow.l0 k x0 x1 x2 x3 x4 x5 (wrap64 (x12 + 1))))))) else (none)) else (none))) else (weirref26_grow.l0 k x0 x1 x2 x3 x4 x5 (wrap64 (x12 + 1))))
def weirref26_grow.f : Nat → List ByteArray → List ByteArray → Int → Int → List (List ByteArray) → List ByteArray → Option (List (List ByteArray))
 | 0, _, _, _, _, _, _ => none
 | k + 1, l0, l1, a2, a3, a4, l5 => if (a4.length : Int) ≥ a3 then (some a4) else (if (l1.length : Int) = a2 then ((weirref26_Canon.f k l1 l5).bind fun bt => (if bt.2 = 0 then ((weirref26_same.f k bt.1 l1).bind fun t => (if t = true then (some (a4 ++ [l1])) else (some a4))) else (some a4))) else (weirref26_grow.l0 k l0 l1 a2 a3 a4 l5 0))
end
def weirref26_grow.T12 : Bool × List (List Nat × List Nat) := (true, [([], []), ([0], [0]), ([1], [1]), ([1], [1]), ([2, 3, 1], [1, 2, 3]), ([4, 1], [1, 4]), ([1], [1]), ([6, 1], [1, 6]), ([7, 1], [1, 7]), ([5, 8, 1], [1, 5, 8]), ([1, 9], [1, 9]), ([10, 1, 0, 1, 2, 3, 4, 5, 6, 7, 8, 9, 10], [0, 10])])
def weirref26_grow.B12 : List Nat := [0, 1, 3, 3, 15, 31, 3, 67, 195, 511, 1023, 2047]
theorem weirref26_grow.tab12 : rtab .any (opsOf Tryd.f39 12) = weirref26_grow.T12 := by kernel_rfl
theorem weirref26_grow.bits12 : waitsOk weirref26_grow.T12.2 weirref26_grow.B12 = true := by kernel_rfl
def weirref26_grow.T14 : Bool × List (List Nat × List Nat) := (true, [([], []), ([], []), ([], []), ([1, 2], [1, 2]), ([], []), ([4], [4]), ([5], [5]), ([6], [6]), ([3, 7, 3], [3, 7]), ([], []), ([], []), ([], []), ([0, 8, 9, 10, 11, 8], [0, 8, 9, 10, 11])])
def weirref26_grow.B14 : List Nat := [0, 0, 0, 6, 0, 16, 48, 112, 254, 0, 0, 0, 4095]
theorem weirref26_grow.tab14 : rtab .any (opsOf Tryd.f39 14) = weirref26_grow.T14 := by kernel_rfl
theorem weirref26_grow.bits14 : waitsOk weirref26_grow.T14.2 weirref26_grow.B14 = true := by kernel_rfl
theorem addr0 (n : Nat) : (⟨0, 0, none⟩ : Addr).add n = ⟨0, n, none⟩ := by
 unfold Addr.add
 split
 ·next h => rw [h]
 ·simp
/-- The row of lists behind the pointer: its lists are read. -/
def OutB (base Bo : Nat) (W : World) (o : List (List ByteArray)) : Prop := ∃ v, Boxed W Bo 41 v ∧ base ≤ Bo ∧ base ≤ W.heap.size ∧ ∃ vs : List Value, W.ownsRow base 22 1 v o.length vs ∧ ∀ (j : Nat) (u : Value) (x : List ByteArray), vs[j]? = some u → o[j]? = some x → ∃ A c, u = .slice A x.length c ∧ x.length ≤ c ∧ CT Kd.string 9 W A x.length x
theorem OutB.below {base Bo : Nat} {W W' : World} {o : List (List ByteArray)} (h : OutB base Bo W o) (hb : Below W.heap.size W W') : OutB base Bo W' o := by
 obtain ⟨v, h1, h2, h3, vs, h4, h5⟩ := h
 refine ⟨v, (hb.block _ h1.lt).trans h1, h2, Nat.le_trans h3 hb.size, vs, own_move h4 (fun k hk => hb.block k (own_lt h4 k hk)), fun j u x hu hx => ?_⟩
 obtain ⟨A, c, e, hl, hc⟩ := h5 j u x hu hx
 exact ⟨A, c, e, hl, hc.below hb⟩
theorem str_keep {W W' : World} {A : Option Addr} {n : Nat} {xs : List ByteArray} (h : CT Kd.string 9 W A n xs) (hk : Keep W W') : CT Kd.string 9 W' A n xs := C_keep (by decide) (by decide) (fun _ _ _ _ h => h) h hk
/-- How grow ends. -/
def GrowEnd (wb : World) (Bo : Nat) (r : List (List ByteArray)) (w : World) (e : Ending) (W' : World) : Prop := e = .returned (.tuple #[]) ∧ Keep w W' ∧ Below wb.heap.size wb W' ∧ OutB wb.heap.size Bo W' r
set_option maxHeartbeats 16000000 in
set_option maxRecDepth 100000 in
theorem grow_calls (wb : World) (Bo : Nat) (A0 : Option Addr) (c0 : Nat) (l0 : List ByteArray) (a2 a3 : Int) (ha3 : a3 ≤ 60) (l5 : List ByteArray) (hl5 : l5.length = 18) (hrb : Kd.C Kd.string wb A0 l0.length l0) (hc0 : l0.length ≤ c0) (hrt : Kd.C Kd.string wb (some ⟨0, 0, none⟩) l5.length l5)
  (k : Nat) : ∀ (A1 : Option Addr) (c1 : Nat) (l1 : List ByteArray) (a4 r : List (List ByteArray)) (w : World) (hr1 : CT Kd.string 9 w A1 l1.length l1) (hc1 : l1.length ≤ c1) (hbw : Below wb.heap.size wb w) (ho : OutB wb.heap.size Bo w a4) (h : weirref26_grow.f k l0 l1 a2 a3 a4 l5 = some r),
  Calls Tryd.prog 39 #[.slice A0 l0.length c0, .slice A1 l1.length c1, .int .i64 a2, .int .i64 a3, .pointer (some ⟨Bo, 0, none⟩)] w (GrowEnd wb Bo r w) := by
 have HRB := Aside0.mk hrb
 have HRT := Aside0.mk hrt
 have HC0 := Aside0.mk hc0
 clear hrb hrt hc0
 obtain ⟨A5, HC5⟩ : ∃ A5 : Option Addr, Aside0 (A5 = some ⟨0, 0, none⟩) := ⟨_, ⟨rfl⟩⟩
 have c5 : Nat := 18
 have HRT5 : Aside0 (Kd.C Kd.string wb A5 l5.length l5) := ⟨by rw [HC5.out]; exact HRT.out⟩
 induction k using Nat.strongRecOn with
 | _ k ih =>
 intro A1 c1 l1 a4 r w hr1 hc1 hbw ho h
 cases k with
 | zero => exact absurd h (by simp [weirref26_grow.f])
 | succ k =>
 simp only [weirref26_grow.f] at h
 have HX1 := Aside0.mk hr1
 have HR1 := Aside0.mk hr1.1
 have HC1 := Aside0.mk hc1
 clear hr1 hc1
 have HBW := Aside0.mk hbw
 have HO := Aside0.mk ho
 clear hbw ho
 have HR0 := Aside0.mk (Kd.C_below HRB.out HBW.out)
 have HR5 := Aside0.mk (Kd.C_below HRT5.out HBW.out)
 have HB := Aside0.mk (Below.refl w.heap.size w)
 have H := h
 clear h
 obtain ⟨v, hbx, hbo, hbs, vs, hrow, hels⟩ := HO.out
 have hcx := hbx.cell
 have hfx := hbx.frozen
 obtain ⟨Ao, co, ev⟩ : ∃ Ao co, v = .slice Ao a4.length co := by
  rcases hrow.2 with ⟨rfl, h0⟩ | ⟨g, cap, cur, rfl, _⟩
  ·exact ⟨none, 0, by rw [h0]⟩
  ·exact ⟨_, _, rfl⟩
 subst ev
 by_cases c8 : (a4.length : Int) ≥ a3
 ·rw [if_pos c8] at H
  have c8b0 : decide (a3 ≤ (a4.length : Int)) = true := decide_eq_true c8
  obtain rfl := Option.some.inj H
  go_enter Tryd.func39, Tryd.ntmps39
  go_wp2
  first | go_end0 | ((try simp only [Exit.inBlock, Exit.then]); refine bodyPost_ret (results_none rfl _ _ _) rfl ?_)
  exact ⟨rfl, Keep.of_below (by repeat (first | (with_reducible first | exact HB.out | apply below_alloc | apply pw_below_drewN | apply below_drew1) | exact HB.out)), HBW.out.trans ((show Below w.heap.size w _ from by repeat (first | (with_reducible first | exact HB.out | apply below_alloc | apply pw_below_drewN | apply below_drew1) | exact HB.out)).mono hbs), HO.out.below (by repeat (first | (with_reducible first | exact HB.out | apply below_alloc | apply pw_below_drewN | apply below_drew1) | exact HB.out))⟩
 ·rw [if_neg c8] at H
  have c8b0 : decide (a3 ≤ (a4.length : Int)) = false := decide_eq_false c8
  by_cases c9 : (l1.length : Int) = a2
  ·rw [if_pos c9] at H
   have c9b0 : ((l1.length : Int) == a2) = true := beq_iff_eq.mpr c9
   obtain ⟨⟨t139, t140⟩, A100, H⟩ := Option.bind_eq_some_iff.mp H
   have A10 := Aside0.mk A100
   clear A100
   replace H : (if t140 = 0 then ((weirref26_same.f k t139 l1).bind fun t => (if t = true then (some (a4 ++ [l1])) else (some a4))) else (some a4)) = some r := H
   by_cases c11 : t140 = 0
   ·rw [if_pos c11] at H
    have c11b0 : (t140 == 0) = true := beq_iff_eq.mpr c11
    obtain ⟨t143, A120, H⟩ := Option.bind_eq_some_iff.mp H
    have A12 := Aside0.mk A120
    clear A120
    by_cases c13 : t143 = true
    ·subst c13
     rw [if_pos rfl] at H
     obtain rfl := Option.some.inj H
     obtain ⟨i0, hinf, hzz0, hzz1, hzz2⟩ := info_parts infoRows
     go_enter Tryd.func39, Tryd.ntmps39
     go_wp2_with (first | ((with_reducible refine gate_callee (f := 10) rfl ?_); refine goesL_ (some 27) rfl rfl Tryd.func10 (by kernel_rfl) rfl #[.slice A1 l1.length c1] rfl (by (try simp only [List.map_toArray, List.map_cons, List.map_nil]); first | done | rfl | (simp only [List.length_drop, List.length_take]; rfl)) ?_; (with_reducible refine (weirref26_Canon.calls k _ _ l1 A5 0 l5 t139 t140 _ ?side1 ?side2 ?side3 ?side4 A10.out).mono ?_); (case side1 => repeat (first | exact HR1.out | (with_reducible refine Kd.C_alloc ?_ _) | (with_reducible refine Kd.C_drewN ?_ _) | (with_reducible refine Kd.C_drew ?_))); (case side2 => exact HC1.out); (case side3 => repeat (first | exact HR5.out | (with_reducible refine Kd.C_alloc ?_ _) | (with_reducible refine Kd.C_drewN ?_ _) | (with_reducible refine Kd.C_drew ?_))); (case side4 => exact HC5.out); rintro e w15 ⟨v141, rfl, ho0, hb⟩; refine ⟨_, rfl, ?_⟩; have n0_ := Aside0.mk (Kd.R_lower ho0 (below_size (by repeat (first | (with_reducible first | exact HB.out | apply below_alloc | apply pw_below_drewN | apply below_drew1) | exact HB.out)))); have n1_ := Aside0.mk (below_step (by repeat (first | (with_reducible first | exact HB.out | apply below_alloc | apply pw_below_drewN | apply below_drew1) | exact HB.out)) hb); clear HB; have HO142 := n0_; have HB := n1_; clear n0_ n1_; (try clear hb); (try clear hb2); (try clear hk); (try clear hi); (try clear ho0); obtain ⟨Ao16, co16, eo16⟩ := Kd.R_slice HO142.out; subst eo16; have hcx15 := (HB.out.cell (World.block_lt_of_cell? w _ hcx)).trans hcx; have hbx15 : Boxed _ _ _ _ := (HB.out.block _ hbx.lt).trans hbx; have hrow15 := own_move hrow (fun k_ hk_ => HB.out.block k_ (own_lt hrow k_ hk_)); have hfx15 := hbx15.frozen) | (go_at_call 51; (with_reducible refine (weirref26_same.calls k _ _ t139 _ _ l1 true _ ?side1 ?side2 ?side3 ?side4 A12.out).mono ?_); (case side1 => repeat (first | exact (Kd.R_reads' HO142.out).2.2 | (with_reducible refine Kd.C_alloc ?_ _) | (with_reducible refine Kd.C_drewN ?_ _) | (with_reducible refine Kd.C_drew ?_))); (case side2 => exact (Kd.R_reads' HO142.out).2.1); (case side3 => repeat (first | exact (Kd.C_below HR1.out HB.out) | (with_reducible refine Kd.C_alloc ?_ _) | (with_reducible refine Kd.C_drewN ?_ _) | (with_reducible refine Kd.C_drew ?_))); (case side4 => exact HC1.out); rintro e w' ⟨rfl, ⟨nd, rfl⟩⟩) | (at_builtin; have hrow16 := pw_own_drewN hrow15 nd; have hbx16 : Boxed (w15.drewN nd) Bo 41 (.slice Ao a4.length co) := hbx15; have hsz16 : wb.heap.size ≤ (w15.drewN nd).heap.size := (by have := HB.out.size; show wb.heap.size ≤ w15.heap.size; omega); (refine wpList_append_own _ rfl (.tmp 40) (.tmp 42) 41 rfl wb.heap.size 22 i0 (.slice none 0 0) 1 24 Tryd.underlying41 hinf hzz0 hzz1 hzz2 rfl (by decide) (.slice Ao a4.length co) a4.length vs rfl (hrow16.alloc _) ⟨w15.heap.size, 0, none⟩ 1 1 [.slice A1 l1.length c1] rfl rfl (cell_one_new (w15.drewN nd) _ _) (by simp [Value.oneCell']) (by have : maxLen = 9223372036854775807 := rfl; omega) (by omega) (Nat.le_trans hsz16 (by rw [World.size_alloc]; exact Nat.le_succ _)) ?_); intro v' w1 hown' hgrow _; obtain ⟨g', cap', rfl⟩ := ownsRow_succ hown'; obtain ⟨hv1, hv2, hr2, hk2, hb2⟩ := hbx16.appended (by decide) hrow16 hsz16 hbo hown' hgrow; have hc1 := hv1.cell; have hf1 := hv1.frozen))
     first | go_end0 | ((try simp only [Exit.inBlock, Exit.then]); refine bodyPost_ret (results_none rfl _ _ _) rfl ?_)
     have hkp0 : Keep w (w1.setCell ⟨Bo, 0, none⟩ (.slice (some ⟨g', 0, none⟩) (a4.length + 1) cap')) := (Keep.of_below HB.out).trans ((show Keep w15 (w15.drewN nd) from Keep.of_below (pw_below_drewN (Below.refl _ _) nd)).trans (keep_append hrow16 hbx16 hgrow _))
     refine ⟨rfl, hkp0, (pw_below_drewN (HBW.out.trans (HB.out.mono hbs)) nd).trans hb2, _, hv2, hbo, Nat.le_trans hsz16 hb2.size, vs ++ [.slice A1 l1.length c1], by rw [List.length_append]; exact hr2, fun j u x hu hx => ?_⟩
     have hlv : vs.length = a4.length := by have := hrow16.1; omega
     rcases Nat.lt_or_ge j vs.length with hj | hj
     ·rw [List.getElem?_append_left hj] at hu
      rw [List.getElem?_append_left (by omega)] at hx
      obtain ⟨A, c, e, hl, hc⟩ := hels j u x hu hx
      exact ⟨A, c, e, hl, str_keep hc hkp0⟩
     ·rw [List.getElem?_append_right hj] at hu
      rw [List.getElem?_append_right (by omega)] at hx
      have e0 : j - vs.length = 0 := by
       have := (List.getElem?_eq_some_iff.1 hu).1
       simp at this
       omega
      rw [e0] at hu
      rw [show j - a4.length = 0 by omega] at hx
      obtain rfl : Value.slice A1 l1.length c1 = u := by simpa using hu
      obtain rfl : l1 = x := by simpa using hx
      exact ⟨A1, c1, rfl, HC1.out, str_keep HX1.out hkp0⟩
    ·replace c13 := Bool.eq_false_iff.mpr c13
     subst c13
     rw [if_neg (by decide)] at H
     obtain rfl := Option.some.inj H
     go_enter Tryd.func39, Tryd.ntmps39
     go_wp2_with (first | ((with_reducible refine gate_callee (f := 10) rfl ?_); refine goesL_ (some 27) rfl rfl Tryd.func10 (by kernel_rfl) rfl #[.slice A1 l1.length c1] rfl (by (try simp only [List.map_toArray, List.map_cons, List.map_nil]); first | done | rfl | (simp only [List.length_drop, List.length_take]; rfl)) ?_; (with_reducible refine (weirref26_Canon.calls k _ _ l1 A5 0 l5 t139 t140 _ ?side1 ?side2 ?side3 ?side4 A10.out).mono ?_); (case side1 => repeat (first | exact HR1.out | (with_reducible refine Kd.C_alloc ?_ _) | (with_reducible refine Kd.C_drewN ?_ _) | (with_reducible refine Kd.C_drew ?_))); (case side2 => exact HC1.out); (case side3 => repeat (first | exact HR5.out | (with_reducible refine Kd.C_alloc ?_ _) | (with_reducible refine Kd.C_drewN ?_ _) | (with_reducible refine Kd.C_drew ?_))); (case side4 => exact HC5.out); rintro e w15 ⟨v141, rfl, ho0, hb⟩; refine ⟨_, rfl, ?_⟩; have n0_ := Aside0.mk (Kd.R_lower ho0 (below_size (by repeat (first | (with_reducible first | exact HB.out | apply below_alloc | apply pw_below_drewN | apply below_drew1) | exact HB.out)))); have n1_ := Aside0.mk (below_step (by repeat (first | (with_reducible first | exact HB.out | apply below_alloc | apply pw_below_drewN | apply below_drew1) | exact HB.out)) hb); clear HB; have HO142 := n0_; have HB := n1_; clear n0_ n1_; (try clear hb); (try clear hb2); (try clear hk); (try clear hi); (try clear ho0); obtain ⟨Ao16, co16, eo16⟩ := Kd.R_slice HO142.out; subst eo16; have hcx15 := (HB.out.cell (World.block_lt_of_cell? w _ hcx)).trans hcx; have hbx15 : Boxed _ _ _ _ := (HB.out.block _ hbx.lt).trans hbx; have hrow15 := own_move hrow (fun k_ hk_ => HB.out.block k_ (own_lt hrow k_ hk_)); have hfx15 := hbx15.frozen) | (go_at_call 51; (with_reducible refine (weirref26_same.calls k _ _ t139 _ _ l1 false _ ?side1 ?side2 ?side3 ?side4 A12.out).mono ?_); (case side1 => repeat (first | exact (Kd.R_reads' HO142.out).2.2 | (with_reducible refine Kd.C_alloc ?_ _) | (with_reducible refine Kd.C_drewN ?_ _) | (with_reducible refine Kd.C_drew ?_))); (case side2 => exact (Kd.R_reads' HO142.out).2.1); (case side3 => repeat (first | exact (Kd.C_below HR1.out HB.out) | (with_reducible refine Kd.C_alloc ?_ _) | (with_reducible refine Kd.C_drewN ?_ _) | (with_reducible refine Kd.C_drew ?_))); (case side4 => exact HC1.out); rintro e w' ⟨rfl, ⟨nd, rfl⟩⟩))
     first | go_end0 | ((try simp only [Exit.inBlock, Exit.then]); refine bodyPost_ret (results_none rfl _ _ _) rfl ?_)
     exact ⟨rfl, Keep.of_below (by repeat (first | (with_reducible first | exact HB.out | apply below_alloc | apply pw_below_drewN | apply below_drew1) | exact HB.out)), HBW.out.trans ((show Below w.heap.size w _ from by repeat (first | (with_reducible first | exact HB.out | apply below_alloc | apply pw_below_drewN | apply below_drew1) | exact HB.out)).mono hbs), HO.out.below (by repeat (first | (with_reducible first | exact HB.out | apply below_alloc | apply pw_below_drewN | apply below_drew1) | exact HB.out))⟩
   ·rw [if_neg c11] at H
    have c11b0 : (t140 == 0) = false := beq_eq_false_iff_ne.mpr c11
    obtain rfl := Option.some.inj H
    go_enter Tryd.func39, Tryd.ntmps39
    go_wp2_with (first | ((with_reducible refine gate_callee (f := 10) rfl ?_); refine goesL_ (some 27) rfl rfl Tryd.func10 (by kernel_rfl) rfl #[.slice A1 l1.length c1] rfl (by (try simp only [List.map_toArray, List.map_cons, List.map_nil]); first | done | rfl | (simp only [List.length_drop, List.length_take]; rfl)) ?_; (with_reducible refine (weirref26_Canon.calls k _ _ l1 A5 0 l5 t139 t140 _ ?side1 ?side2 ?side3 ?side4 A10.out).mono ?_); (case side1 => repeat (first | exact HR1.out | (with_reducible refine Kd.C_alloc ?_ _) | (with_reducible refine Kd.C_drewN ?_ _) | (with_reducible refine Kd.C_drew ?_))); (case side2 => exact HC1.out); (case side3 => repeat (first | exact HR5.out | (with_reducible refine Kd.C_alloc ?_ _) | (with_reducible refine Kd.C_drewN ?_ _) | (with_reducible refine Kd.C_drew ?_))); (case side4 => exact HC5.out); rintro e w15 ⟨v141, rfl, ho0, hb⟩; refine ⟨_, rfl, ?_⟩; have n0_ := Aside0.mk (Kd.R_lower ho0 (below_size (by repeat (first | (with_reducible first | exact HB.out | apply below_alloc | apply pw_below_drewN | apply below_drew1) | exact HB.out)))); have n1_ := Aside0.mk (below_step (by repeat (first | (with_reducible first | exact HB.out | apply below_alloc | apply pw_below_drewN | apply below_drew1) | exact HB.out)) hb); clear HB; have HO142 := n0_; have HB := n1_; clear n0_ n1_; (try clear hb); (try clear hb2); (try clear hk); (try clear hi); (try clear ho0); obtain ⟨Ao16, co16, eo16⟩ := Kd.R_slice HO142.out; subst eo16; have hcx15 := (HB.out.cell (World.block_lt_of_cell? w _ hcx)).trans hcx; have hbx15 : Boxed _ _ _ _ := (HB.out.block _ hbx.lt).trans hbx; have hrow15 := own_move hrow (fun k_ hk_ => HB.out.block k_ (own_lt hrow k_ hk_)); have hfx15 := hbx15.frozen))
    first | go_end0 | ((try simp only [Exit.inBlock, Exit.then]); refine bodyPost_ret (results_none rfl _ _ _) rfl ?_)
    exact ⟨rfl, Keep.of_below (by repeat (first | (with_reducible first | exact HB.out | apply below_alloc | apply pw_below_drewN | apply below_drew1) | exact HB.out)), HBW.out.trans ((show Below w.heap.size w _ from by repeat (first | (with_reducible first | exact HB.out | apply below_alloc | apply pw_below_drewN | apply below_drew1) | exact HB.out)).mono hbs), HO.out.below (by repeat (first | (with_reducible first | exact HB.out | apply below_alloc | apply pw_below_drewN | apply below_drew1) | exact HB.out))⟩
  ·rw [if_neg c9] at H
   have c9b0 : ((l1.length : Int) == a2) = false := beq_eq_false_iff_ne.mpr c9
   have c9b1 : ((l1.length : Int) != a2) = true := bne_iff_ne.mpr c9
   have H' := Aside0.mk H
   clear H
   go_enter Tryd.func39, Tryd.ntmps39
   go_wp2
   go_loopg [12] k (fun kq v12 w' => ∃ (x12_1 : Int) (o4 : List (List ByteArray)), v12 = .int .i64 x12_1 ∧ Aside0 (weirref26_grow.l0 kq l0 l1 a2 a3 o4 l5 x12_1 = some r) ∧ Aside0 (kq ≤ k) ∧ Aside0 (OutB wb.heap.size Bo w' o4) ∧ Aside0 (CT Kd.string 9 w' A1 l1.length l1) ∧ Aside0 (Below wb.heap.size wb w') ∧ Aside0 (Keep w w'))
   case atStart => exact ⟨(0), a4, (by first | rfl | (simp; done) | (simp [*]; done)), H', ⟨Nat.le_refl _⟩, ⟨HO.out.below (by repeat (first | (with_reducible first | exact HB.out | apply below_alloc | apply pw_below_drewN | apply below_drew1) | exact HB.out))⟩, ⟨HX1.out.below (by repeat (first | (with_reducible first | exact HB.out | apply below_alloc | apply pw_below_drewN | apply below_drew1) | exact HB.out))⟩, ⟨HBW.out.trans ((show Below w.heap.size w _ from by repeat (first | (with_reducible first | exact HB.out | apply below_alloc | apply pw_below_drewN | apply below_drew1) | exact HB.out)).mono hbs)⟩, ⟨Keep.of_below (by repeat (first | (with_reducible first | exact HB.out | apply below_alloc | apply pw_below_drewN | apply below_drew1) | exact HB.out))⟩⟩
   case round =>
    clear H'
    (try clear c1); (try clear p2); (try clear c3); (try clear c5); (try clear c8); (try clear c8b0); (try clear c9); (try clear c9b0); (try clear c9b1); (try clear c10); (try clear c11); (try clear c11b0); (try clear c11b1); (try clear c13); (try clear c15); clear HR0 HR1 HR5 HX1 HBW HO HB hbx hcx hfx hrow hels hbs vs
    obtain ⟨x12_1, o4, rfl, HA, HK1, HO, HX1, HBW, HKp⟩ := hrel
    obtain ⟨w0, hw0⟩ : ∃ x, x = w := ⟨_, rfl⟩
    subst hw0
    obtain ⟨w, hw0⟩ : ∃ x, x = wr := ⟨_, rfl⟩
    subst hw0
    obtain ⟨a40, ha40⟩ : ∃ x, x = a4 := ⟨_, rfl⟩
    subst ha40
    obtain ⟨a4, ha40⟩ : ∃ x, x = o4 := ⟨_, rfl⟩
    subst ha40
    have HR0 := Aside0.mk (Kd.C_below HRB.out HBW.out)
    have HR5 := Aside0.mk (Kd.C_below HRT5.out HBW.out)
    have HR1 := Aside0.mk HX1.out.1
    have HB := Aside0.mk (Below.refl w.heap.size w)
    cases gk with
    | zero => exact absurd HA.out (by simp [weirref26_grow.l0])
    | succ k1 =>
     have H := HA.out
     clear HA
     simp only [weirref26_grow.l0] at H
     by_cases c21 : x12_1 < 18
     ·rw [if_pos c21] at H
      have c21b0 : decide (x12_1 < 18) = true := decide_eq_true c21
      clear c21
      have H' := Aside0.mk H
      clear H
      go_wp2
      go_loopg [13, 14] k1 (fun kq v13 v14 w' => ∃ (x13_2 : Bool) (x14_2 : Int), v13 = .bool x13_2 ∧ v14 = .int .i64 x14_2 ∧ Aside0 (weirref26_grow.l1 kq l0 l1 a2 a3 a4 l5 x12_1 x13_2 x14_2 = some r) ∧ Aside0 (kq ≤ k1) ∧ Aside0 (Below w.heap.size w w'))
      case atStart => exact ⟨(false), (0), (by first | rfl | (simp; done) | (simp [*]; done)), (by first | rfl | (simp; done) | (simp [*]; done)), H', ⟨Nat.le_refl _⟩, ⟨by repeat (first | (with_reducible first | exact HB.out | apply below_alloc | apply pw_below_drewN | apply below_drew1) | exact HB.out)⟩⟩
      case round =>
       clear H'
       (try clear c1); (try clear c2); (try clear p2); (try clear c3); (try clear c5); (try clear c8); (try clear c8b0); (try clear c9); (try clear c9b0); (try clear c9b1); (try clear c10); (try clear c11); (try clear c11b0); (try clear c11b1); (try clear c13); (try clear c15); (try clear c21); (try clear c21b0); (try clear p2)
       obtain ⟨x13_2, x14_2, rfl, rfl, HA, HK2, HB⟩ := hrel
       cases gk with
       | zero => exact absurd HA.out (by simp [weirref26_grow.l1])
       | succ k2 =>
        have H := HA.out
        clear HA
        simp only [weirref26_grow.l1] at H
        by_cases c22 : x14_2 < (l0.length : Int)
        ·rw [if_pos c22] at H
         have c22b0 : decide (x14_2 < (l0.length : Int)) = true := decide_eq_true c22
         clear c22
         by_cases c23 : x13_2 = true
         ·subst c23
          have H1 : (weirref26_grow.l1 k2 l0 l1 a2 a3 a4 l5 x12_1 true (wrap64 (x14_2 + 1))) = some r := by rw [if_pos rfl] at H; exact H
          clear H
          have H := H1
          clear H1
          have H' := Aside0.mk H
          clear H
          try go_wp2
          have n0_ := Aside0.mk (below_drew1 HB.out)
          clear HB; have HB := n0_; clear n0_
          refine start_ (n := 12) (S := fun w' => True) (ds := []) #[false, false, false, false, false, false, false, false, false, false, false, false] (by kernel_rfl) rfl rfl trivial (fun hHeld => ?_); refine with_tabW weirref26_grow.tab12 weirref26_grow.bits12 (fun HT_ HW_ => ?_)
          generalize wr.drew = w24 at HB hHeld ⊢
          refine pure_ (i := 0) (N := some 55) (v := ?_) (a' := ?_) #[true, false, false, false, false, false, false, false, false, false, false, false] rfl rfl (any_of HT_.out (by kernel_rfl)) (fun _ _ _ h => h) (Or.inl ⟨by rfl, ?_⟩) ?_ ?_
          rotate_left
          ·intro w'
           go_simp
           with_reducible rfl
          rotate_left
          ·simp only [Act.put, List.setIfInBounds_toArray, List.set_cons_zero, List.set_cons_succ, i64_w, i32_w]
           rfl
          refine pure_ (i := 1) (N := some 56) (v := ?_) (a' := ?_) #[true, true, false, false, false, false, false, false, false, false, false, false] rfl rfl (any_of HT_.out (by kernel_rfl)) (fun _ _ _ h => h) (Or.inl ⟨by rfl, ?_⟩) ?_ ?_
          rotate_left
          ·intro w'
           go_simp
           with_reducible rfl
          rotate_left
          ·simp only [Act.put, List.setIfInBounds_toArray, List.set_cons_zero, List.set_cons_succ, i64_w, i32_w]
           rfl
          refine pure_ (i := 2) (N := some 57) (v := undef) (a' := ?_) #[true, true, true, false, false, false, false, false, false, false, false, false] rfl rfl (any_of HT_.out (by kernel_rfl)) (fun _ _ _ h => h) (Or.inr ⟨by rfl, rfl⟩) ?_ ?_
          rotate_left
          ·simp only [Act.put, List.setIfInBounds_toArray, List.set_cons_zero, List.set_cons_succ, i64_w, i32_w]
           rfl
          refine pure_ (i := 3) (N := some 58) (v := undef) (a' := ?_) #[true, true, true, true, false, false, false, false, false, false, false, false] rfl rfl (any_of HT_.out (by kernel_rfl)) (fun _ _ _ h => h) (Or.inr ⟨by rfl, rfl⟩) ?_ ?_
          rotate_left
          ·simp only [Act.put, List.setIfInBounds_toArray, List.set_cons_zero, List.set_cons_succ, i64_w, i32_w]
           rfl
          refine pure_ (i := 4) (N := some 59) (v := undef) (a' := ?_) #[true, true, true, true, true, false, false, false, false, false, false, false] rfl rfl (any_of HT_.out (by kernel_rfl)) (fun _ _ _ h => h) (Or.inr ⟨by rfl, rfl⟩) ?_ ?_
          rotate_left
          ·simp only [Act.put, List.setIfInBounds_toArray, List.set_cons_zero, List.set_cons_succ, i64_w, i32_w]
           rfl
          refine pure_ (i := 5) (N := some 60) (v := undef) (a' := ?_) #[true, true, true, true, true, true, false, false, false, false, false, false] rfl rfl (any_of HT_.out (by kernel_rfl)) (fun _ _ _ h => h) (Or.inr ⟨by rfl, rfl⟩) ?_ ?_
          rotate_left
          ·simp only [Act.put, List.setIfInBounds_toArray, List.set_cons_zero, List.set_cons_succ, i64_w, i32_w]
           rfl
          refine pure_ (i := 6) (N := some 61) (v := undef) (a' := ?_) #[true, true, true, true, true, true, true, false, false, false, false, false] rfl rfl (any_of HT_.out (by kernel_rfl)) (fun _ _ _ h => h) (Or.inr ⟨by rfl, rfl⟩) ?_ ?_
          rotate_left
          ·simp only [Act.put, List.setIfInBounds_toArray, List.set_cons_zero, List.set_cons_succ, i64_w, i32_w]
           rfl
          refine pure_ (i := 7) (N := some 62) (v := undef) (a' := ?_) #[true, true, true, true, true, true, true, true, false, false, false, false] rfl rfl (any_of HT_.out (by kernel_rfl)) (fun _ _ _ h => h) (Or.inr ⟨by rfl, rfl⟩) ?_ ?_
          rotate_left
          ·simp only [Act.put, List.setIfInBounds_toArray, List.set_cons_zero, List.set_cons_succ, i64_w, i32_w]
           rfl
          refine pure_ (i := 8) (N := some 63) (v := undef) (a' := ?_) #[true, true, true, true, true, true, true, true, true, false, false, false] rfl rfl (any_of HT_.out (by kernel_rfl)) (fun _ _ _ h => h) (Or.inr ⟨by rfl, rfl⟩) ?_ ?_
          rotate_left
          ·simp only [Act.put, List.setIfInBounds_toArray, List.set_cons_zero, List.set_cons_succ, i64_w, i32_w]
           rfl
          refine pure_ (i := 9) (N := some 64) (v := undef) (a' := ?_) #[true, true, true, true, true, true, true, true, true, true, false, false] rfl rfl (any_of HT_.out (by kernel_rfl)) (fun _ _ _ h => h) (Or.inr ⟨by rfl, rfl⟩) ?_ ?_
          rotate_left
          ·simp only [Act.put, List.setIfInBounds_toArray, List.set_cons_zero, List.set_cons_succ, i64_w, i32_w]
           rfl
          refine pure_ (i := 10) (N := some 65) (v := ?_) (a' := ?_) #[true, true, true, true, true, true, true, true, true, true, true, false] rfl rfl (any_of HT_.out (by kernel_rfl)) (fun _ _ _ h => h) (Or.inl ⟨by rfl, ?_⟩) ?_ ?_
          rotate_left
          ·intro w'
           go_simp
           with_reducible rfl
          rotate_left
          ·simp only [Act.put, List.setIfInBounds_toArray, List.set_cons_zero, List.set_cons_succ, i64_w, i32_w]
           rfl
          refine pure_ (i := 11) (N := some 13) (v := ?_) (a' := ?_) #[true, true, true, true, true, true, true, true, true, true, true, true] rfl rfl (any_of HT_.out (by kernel_rfl)) (fun _ _ _ h => h) (Or.inl ⟨by rfl, ?_⟩) ?_ ?_
          rotate_left
          ·intro w'
           go_simp
           with_reducible rfl
          rotate_left
          ·simp only [Act.put, List.setIfInBounds_toArray, List.set_cons_zero, List.set_cons_succ, i64_w, i32_w]
           rfl
          refine done_ (done_of HT_.out (by kernel_rfl)) ?_
          try go_wp2
          go_roundg k2
          case measure => have := HK1.out; have := HK2.out; omega
          case rel => exact ⟨(true), (wrap64 (x14_2 + 1)), (by first | rfl | (simp; done) | (simp [*]; done)), (by first | rfl | (simp; done) | (simp [*]; done)), H', ⟨by have := HK1.out; have := HK2.out; omega⟩, ⟨by repeat (first | (with_reducible first | exact HB.out | apply below_alloc | apply pw_below_drewN | apply below_drew1) | exact HB.out)⟩⟩
         ·replace c23 := Bool.eq_false_iff.mpr c23
          subst c23
          have H1 : (if 0 ≤ x14_2 then (if 0 ≤ x12_1 then (if x12_1 < (l5.length : Int) then (weirref26_grow.l1 k2 l0 l1 a2 a3 a4 l5 x12_1 ((rdOf ByteArray.empty l0 x14_2).toList == (rdOf ByteArray.empty l5 x12_1).toList) (wrap64 (x14_2 + 1))) else (none)) else (none)) else (none)) = some r := by rw [if_neg (show ¬ (false = true) by decide)] at H; exact H
          clear H
          have H := H1
          clear H1
          by_cases c25 : 0 ≤ x14_2
          ·rw [if_pos c25] at H
           have c25b0 : decide (0 ≤ x14_2) = true := decide_eq_true c25
           clear c25
           by_cases c26 : 0 ≤ x12_1
           ·rw [if_pos c26] at H
            have c26b0 : decide (0 ≤ x12_1) = true := decide_eq_true c26
            clear c26
            by_cases c27 : x12_1 < (l5.length : Int)
            ·rw [if_pos c27] at H
             have c27b0 : decide (x12_1 < (l5.length : Int)) = true := decide_eq_true c27
             clear c27
             have H' := Aside0.mk H
             clear H
             try go_wp2
             have n0_ := Aside0.mk (below_drew1 HB.out)
             clear HB; have HB := n0_; clear n0_
             have p145 : 0 ≤ (x14_2 : Int) := of_decide_eq_true (by first | (with_reducible assumption) | assumption)
             have q145 : x14_2 < (l0.length : Int) := of_decide_eq_true (by first | (with_reducible assumption) | assumption)
             obtain ⟨ad145, e145, hx145_0⟩ := Kd.at_string HR0.out x14_2 p145 q145
             have hw145_0 := hx145_0
             cases e145
             replace hx145_0 := (HB.out.cell (World.block_lt_of_cell? w _ hx145_0)).trans hx145_0
             replace p145 := eq_true p145
             replace q145 := eq_true q145
             have p146 : 0 ≤ (x12_1 : Int) := of_decide_eq_true (by first | (with_reducible assumption) | assumption)
             have q146 : x12_1 < (l5.length : Int) := of_decide_eq_true (by first | (with_reducible assumption) | assumption)
             have hx146_0 : w.cell? ⟨0, (x12_1).toNat, none⟩ = some (.string (rdOf ByteArray.empty l5 x12_1)) := by
              obtain ⟨ad_, e_, h_⟩ := Kd.at_string HR5.out x12_1 p146 q146
              rw [HC5.out] at e_
              cases e_
              rw [addr0] at h_
              exact h_
             have hwb_ : wb.cell? ⟨0, (x12_1).toNat, none⟩ = some (.string (rdOf ByteArray.empty l5 x12_1)) := by
              obtain ⟨ad_, e_, h_⟩ := Kd.at_string HRT.out x12_1 p146 q146
              cases e_
              rw [addr0] at h_
              exact h_
             have c18_ : (x12_1 < 18) = True := eq_true (by have h_ := q146; rw [hl5] at h_; exact h_)
             have hw146_0 := hx146_0
             replace hx146_0 := (HB.out.cell (World.block_lt_of_cell? w _ hx146_0)).trans hx146_0
             replace p146 := eq_true p146
             replace q146 := eq_true q146
             refine start_ (n := 12) (S := fun w' => w'.cell? (ad145.add (x14_2).toNat) = some (.string (rdOf ByteArray.empty l0 x14_2)) ∧ w'.cell? ⟨0, (x12_1).toNat, none⟩ = some (.string (rdOf ByteArray.empty l5 x12_1))) (ds := []) #[false, false, false, false, false, false, false, false, false, false, false, false] (by kernel_rfl) rfl rfl ⟨((HB.out.cell (World.block_lt_of_cell? w _ hw145_0)).trans hw145_0), ((HB.out.cell (World.block_lt_of_cell? w _ hw146_0)).trans hw146_0)⟩ (fun hHeld => ?_); refine with_tabW weirref26_grow.tab12 weirref26_grow.bits12 (fun HT_ HW_ => ?_)
             generalize wr.drew = w28 at HB hx145_0 hx146_0 hHeld ⊢
             refine pure_ (i := 0) (N := some 55) (v := ?_) (a' := ?_) #[true, false, false, false, false, false, false, false, false, false, false, false] rfl rfl (any_of HT_.out (by kernel_rfl)) (fun _ _ _ h => h) (Or.inl ⟨by rfl, ?_⟩) ?_ ?_
             rotate_left
             ·intro w'
              go_simp
              with_reducible rfl
             rotate_left
             ·simp only [Act.put, List.setIfInBounds_toArray, List.set_cons_zero, List.set_cons_succ, i64_w, i32_w]
              rfl
             refine pure_ (i := 1) (N := some 56) (v := ?_) (a' := ?_) #[true, true, false, false, false, false, false, false, false, false, false, false] rfl rfl (any_of HT_.out (by kernel_rfl)) (fun _ _ _ h => h) (Or.inl ⟨by rfl, ?_⟩) ?_ ?_
             rotate_left
             ·intro w'
              go_simp
              with_reducible rfl
             rotate_left
             ·simp only [Act.put, List.setIfInBounds_toArray, List.set_cons_zero, List.set_cons_succ, i64_w, i32_w]
              rfl
             refine pure_ (i := 2) (N := some 57) (v := ?_) (a' := ?_) #[true, true, true, false, false, false, false, false, false, false, false, false] rfl rfl (any_of HT_.out (by kernel_rfl)) (fun _ _ _ h => h) (Or.inl ⟨by rfl, ?_⟩) ?_ ?_
             rotate_left
             ·intro w'
              go_simp
              with_reducible rfl
             rotate_left
             ·simp only [Act.put, List.setIfInBounds_toArray, List.set_cons_zero, List.set_cons_succ, i64_w, i32_w]
              rfl
             refine pure_ (i := 3) (N := some 58) (v := ?_) (a' := ?_) #[true, true, true, true, false, false, false, false, false, false, false, false] rfl rfl (any_of HT_.out (by kernel_rfl)) (fun _ _ _ h => h) (Or.inl ⟨by rfl, ?_⟩) ?_ ?_
             rotate_left
             ·intro w'
              go_simp
              with_reducible rfl
             rotate_left
             ·simp only [Act.put, List.setIfInBounds_toArray, List.set_cons_zero, List.set_cons_succ, i64_w, i32_w]
              rfl
             refine pure_ (i := 4) (N := some 59) (v := ?_) (a' := ?_) #[true, true, true, true, true, false, false, false, false, false, false, false] rfl rfl (any_of HT_.out (by kernel_rfl)) (fun _ _ _ h => h) (Or.inl ⟨by rfl, ?_⟩) ?_ ?_
             rotate_left
             ·intro w'
              go_simp
              with_reducible rfl
             rotate_left
             ·simp only [Act.put, List.setIfInBounds_toArray, List.set_cons_zero, List.set_cons_succ, i64_w, i32_w]
              rfl
             refine pure_ (i := 6) (N := some 61) (v := ?_) (a' := ?_) #[true, true, true, true, true, false, true, false, false, false, false, false] rfl rfl (any_of HT_.out (by kernel_rfl)) (fun _ _ _ h => h) (Or.inl ⟨by rfl, ?_⟩) ?_ ?_
             rotate_left
             ·intro w'
              go_simp
              with_reducible rfl
             rotate_left
             ·simp only [Act.put, List.setIfInBounds_toArray, List.set_cons_zero, List.set_cons_succ, i64_w, i32_w]
              rfl
             refine pure_ (i := 7) (N := some 62) (v := ?_) (a' := ?_) #[true, true, true, true, true, false, true, true, false, false, false, false] rfl rfl (any_of HT_.out (by kernel_rfl)) (fun _ _ _ h => h) (Or.inl ⟨by rfl, ?_⟩) ?_ ?_
             rotate_left
             ·intro w'
              go_simp
              with_reducible rfl
             rotate_left
             ·simp only [Act.put, List.setIfInBounds_toArray, List.set_cons_zero, List.set_cons_succ, i64_w, i32_w]
              rfl
             refine take_ (i := 5) (N := some 60) (v := ?_) (a' := ?_) #[true, true, true, true, true, true, true, true, false, false, false, false] rfl rfl (take_ofW HT_.out HW_.out (by kernel_rfl)) (fun _ _ _ h => h) (Or.inl ⟨by rfl, ?_⟩) hHeld ?_ ?_
             rotate_left
             ·rintro w' ⟨s0, s1⟩
              go_simp
              with_reducible rfl
             rotate_left
             ·simp only [Act.put, List.setIfInBounds_toArray, List.set_cons_zero, List.set_cons_succ, i64_w, i32_w]
              rfl
             refine take_ (i := 8) (N := some 63) (v := ?_) (a' := ?_) #[true, true, true, true, true, true, true, true, true, false, false, false] rfl rfl (take_ofW HT_.out HW_.out (by kernel_rfl)) (fun _ _ _ h => h) (Or.inl ⟨by rfl, ?_⟩) hHeld ?_ ?_
             rotate_left
             ·rintro w' ⟨s0, s1⟩
              go_simp
              with_reducible rfl
             rotate_left
             ·simp only [Act.put, List.setIfInBounds_toArray, List.set_cons_zero, List.set_cons_succ, i64_w, i32_w]
              rfl
             refine pure_ (i := 9) (N := some 64) (v := ?_) (a' := ?_) #[true, true, true, true, true, true, true, true, true, true, false, false] rfl rfl (any_of HT_.out (by kernel_rfl)) (fun _ _ _ h => h) (Or.inl ⟨by rfl, ?_⟩) ?_ ?_
             rotate_left
             ·intro w'
              go_simp
              with_reducible rfl
             rotate_left
             ·simp only [Act.put, List.setIfInBounds_toArray, List.set_cons_zero, List.set_cons_succ, i64_w, i32_w]
              rfl
             refine pure_ (i := 10) (N := some 65) (v := ?_) (a' := ?_) #[true, true, true, true, true, true, true, true, true, true, true, false] rfl rfl (any_of HT_.out (by kernel_rfl)) (fun _ _ _ h => h) (Or.inl ⟨by rfl, ?_⟩) ?_ ?_
             rotate_left
             ·intro w'
              go_simp
              with_reducible rfl
             rotate_left
             ·simp only [Act.put, List.setIfInBounds_toArray, List.set_cons_zero, List.set_cons_succ, i64_w, i32_w]
              rfl
             refine pure_ (i := 11) (N := some 13) (v := ?_) (a' := ?_) #[true, true, true, true, true, true, true, true, true, true, true, true] rfl rfl (any_of HT_.out (by kernel_rfl)) (fun _ _ _ h => h) (Or.inl ⟨by rfl, ?_⟩) ?_ ?_
             rotate_left
             ·intro w'
              go_simp
              with_reducible rfl
             rotate_left
             ·simp only [Act.put, List.setIfInBounds_toArray, List.set_cons_zero, List.set_cons_succ, i64_w, i32_w]
              rfl
             refine done_ (done_of HT_.out (by kernel_rfl)) ?_
             try go_wp2
             go_roundg k2
             case measure => have := HK1.out; have := HK2.out; omega
             case rel => exact ⟨(((rdOf ByteArray.empty l0 x14_2).toList == (rdOf ByteArray.empty l5 x12_1).toList)), (wrap64 (x14_2 + 1)), (by first | rfl | (simp; done) | (simp [*]; done)), (by first | rfl | (simp; done) | (simp [*]; done)), H', ⟨by have := HK1.out; have := HK2.out; omega⟩, ⟨by repeat (first | (with_reducible first | exact HB.out | apply below_alloc | apply pw_below_drewN | apply below_drew1) | exact HB.out)⟩⟩
            ·rw [if_neg c27] at H
             exact absurd H (by simp)
           ·rw [if_neg c26] at H
            exact absurd H (by simp)
          ·rw [if_neg c25] at H
           exact absurd H (by simp)
        ·rw [if_neg c22] at H
         have c22b0 : decide (x14_2 < (l0.length : Int)) = false := decide_eq_false c22
         clear c22
         by_cases c29 : x13_2 = true
         ·subst c29
          have H1 : (if (l1.length : Int) = 0 then ((some (([] : List ByteArray) : List ByteArray)).bind fun y147 => (if y147.length + l1.length < 8796093022208 then ((some (y147 ++ l1 : List ByteArray)).bind fun y150 => (if 0 ≤ x12_1 then (if x12_1 < (l5.length : Int) then ((some (([rdOf ByteArray.empty l5 x12_1] : List ByteArray) : List ByteArray)).bind fun y154 => (if y150.length + y154.length < 8796093022208 then ((weirref26_grow.f k2 l0 (y150 ++ y154) a2 a3 a4 l5).bind fun z_ => (weirref26_grow.l0 k2 l0 l1 a2 a3 z_ l5 (wrap64 (x12_1 + 1)))) else (none))) else (none)) else (none))) else (none))) else (if 0 ≤ (wrap64 ((l1.length : Int) - 1)) then (if (wrap64 ((l1.length : Int) - 1)) < (l1.length : Int) then ((weirref26_Number.f (rdOf ByteArray.empty l1 (wrap64 ((l1.length : Int) - 1))) l5).bind fun t161 => ((weirref26_ends.f t161).bind fun t162 => ((weirref26_begins.f x12_1).bind fun t163 => (if t162 = t163 then ((some (([] : List ByteArray) : List ByteArray)).bind fun y164 => (if y164.length + l1.length < 8796093022208 then ((some (y164 ++ l1 : List ByteArray)).bind fun y167 => (if 0 ≤ x12_1 then (if x12_1 < (l5.length : Int) then ((some (([rdOf ByteArray.empty l5 x12_1] : List ByteArray) : List ByteArray)).bind fun y171 => (if y167.length + y171.length < 8796093022208 then ((weirref26_grow.f k2 l0 (y167 ++ y171) a2 a3 a4 l5).bind fun z_ => (weirref26_grow.l0 k2 l0 l1 a2 a3 z_ l5 (wrap64 (x12_1 + 1)))) else (none))) else (none)) else (none))) else (none))) else (weirref26_grow.l0 k2 l0 l1 a2 a3 a4 l5 (wrap64 (x12_1 + 1))))))) else (none)) else (none))) = some r := by rw [if_pos rfl] at H; exact H
          clear H
          have H := H1
          clear H1
          by_cases c30 : (l1.length : Int) = 0
          ·rw [if_pos c30] at H
           have c30b0 : ((l1.length : Int) == 0) = true := beq_iff_eq.mpr c30
           have c30b1 : ((l1.length : Int) != 0) = false := bne_eq_false_iff_eq.mpr c30
           clear c30
           obtain ⟨y147, hy147⟩ : ∃ y_ : List ByteArray, y_ = (([] : List ByteArray)) := ⟨_, rfl⟩
           replace H : (if y147.length + l1.length < 8796093022208 then ((some (y147 ++ l1 : List ByteArray)).bind fun y150 => (if 0 ≤ x12_1 then (if x12_1 < (l5.length : Int) then ((some (([rdOf ByteArray.empty l5 x12_1] : List ByteArray) : List ByteArray)).bind fun y154 => (if y150.length + y154.length < 8796093022208 then ((weirref26_grow.f k2 l0 (y150 ++ y154) a2 a3 a4 l5).bind fun z_ => (weirref26_grow.l0 k2 l0 l1 a2 a3 z_ l5 (wrap64 (x12_1 + 1)))) else (none))) else (none)) else (none))) else (none)) = some r := by first | (rw [hy147]; with_reducible exact H) | (have H2_ := (Option.bind_some _ _).symm.trans H; rw [hy147]; with_reducible exact H2_) | (have H2_ := (Option.bind_some _ _).symm.trans H; with_reducible exact H2_) | with_reducible exact H | (rw [hy147]; exact H) | exact H
           have Ny147 := Aside0.mk hy147
           clear hy147
           by_cases c31 : y147.length + l1.length < 8796093022208
           ·rw [if_pos c31] at H
            have LMc31 := Aside0.mk c31
            clear c31
            obtain ⟨y150, hy150⟩ : ∃ y_ : List ByteArray, y_ = (y147 ++ l1) := ⟨_, rfl⟩
            replace H : (if 0 ≤ x12_1 then (if x12_1 < (l5.length : Int) then ((some (([rdOf ByteArray.empty l5 x12_1] : List ByteArray) : List ByteArray)).bind fun y154 => (if y150.length + y154.length < 8796093022208 then ((weirref26_grow.f k2 l0 (y150 ++ y154) a2 a3 a4 l5).bind fun z_ => (weirref26_grow.l0 k2 l0 l1 a2 a3 z_ l5 (wrap64 (x12_1 + 1)))) else (none))) else (none)) else (none)) = some r := by first | (rw [hy150]; with_reducible exact H) | (have H2_ := (Option.bind_some _ _).symm.trans H; rw [hy150]; with_reducible exact H2_) | (have H2_ := (Option.bind_some _ _).symm.trans H; with_reducible exact H2_) | with_reducible exact H | (rw [hy150]; exact H) | exact H
            have Ny150 := Aside0.mk hy150
            clear hy150
            by_cases c32 : 0 ≤ x12_1
            ·rw [if_pos c32] at H
             have c32b0 : decide (0 ≤ x12_1) = true := decide_eq_true c32
             clear c32
             by_cases c33 : x12_1 < (l5.length : Int)
             ·rw [if_pos c33] at H
              have c33b0 : decide (x12_1 < (l5.length : Int)) = true := decide_eq_true c33
              clear c33
              obtain ⟨y154, hy154⟩ : ∃ y_ : List ByteArray, y_ = (([rdOf ByteArray.empty l5 x12_1] : List ByteArray)) := ⟨_, rfl⟩
              replace H : (if y150.length + y154.length < 8796093022208 then ((weirref26_grow.f k2 l0 (y150 ++ y154) a2 a3 a4 l5).bind fun z_ => (weirref26_grow.l0 k2 l0 l1 a2 a3 z_ l5 (wrap64 (x12_1 + 1)))) else (none)) = some r := by first | (rw [hy154]; with_reducible exact H) | (have H2_ := (Option.bind_some _ _).symm.trans H; rw [hy154]; with_reducible exact H2_) | (have H2_ := (Option.bind_some _ _).symm.trans H; with_reducible exact H2_) | with_reducible exact H | (rw [hy154]; exact H) | exact H
              have Ny154 := Aside0.mk hy154
              clear hy154
              by_cases c34 : y150.length + y154.length < 8796093022208
              ·rw [if_pos c34] at H
               have LMc34 := Aside0.mk c34
               clear c34
               obtain ⟨y157, hy157⟩ : ∃ y_ : List ByteArray, y_ = (y150 ++ y154) := ⟨_, rfl⟩
               replace H : ((weirref26_grow.f k2 l0 y157 a2 a3 a4 l5).bind fun z_ => (weirref26_grow.l0 k2 l0 l1 a2 a3 z_ l5 (wrap64 (x12_1 + 1)))) = some r := by first | (rw [hy157]; with_reducible exact H) | (have H2_ := (Option.bind_some _ _).symm.trans H; rw [hy157]; with_reducible exact H2_) | (have H2_ := (Option.bind_some _ _).symm.trans H; with_reducible exact H2_) | with_reducible exact H | (rw [hy157]; exact H) | exact H
               have Ny157 := Aside0.mk hy157
               clear hy157
               replace H := Option.bind_eq_some_iff.mp H
               obtain ⟨z_, A350, H⟩ := H
               replace H : (weirref26_grow.l0 k2 l0 l1 a2 a3 z_ l5 (wrap64 (x12_1 + 1))) = some r := H
               have A35 := Aside0.mk A350
               clear A350
               have H' := Aside0.mk H
               clear H
               try go_wp2
               have n0_ := Aside0.mk (below_drew1 HB.out)
               clear HB; have HB := n0_; clear n0_
               have p153 : 0 ≤ (x12_1 : Int) := of_decide_eq_true (by first | (with_reducible assumption) | assumption)
               have q153 : x12_1 < (l5.length : Int) := of_decide_eq_true (by first | (with_reducible assumption) | assumption)
               have hx153_0 : w.cell? ⟨0, (x12_1).toNat, none⟩ = some (.string (rdOf ByteArray.empty l5 x12_1)) := by
                obtain ⟨ad_, e_, h_⟩ := Kd.at_string HR5.out x12_1 p153 q153
                rw [HC5.out] at e_
                cases e_
                rw [addr0] at h_
                exact h_
               have hwb_ : wb.cell? ⟨0, (x12_1).toNat, none⟩ = some (.string (rdOf ByteArray.empty l5 x12_1)) := by
                obtain ⟨ad_, e_, h_⟩ := Kd.at_string HRT.out x12_1 p153 q153
                cases e_
                rw [addr0] at h_
                exact h_
               have c18_ : (x12_1 < 18) = True := eq_true (by have h_ := q153; rw [hl5] at h_; exact h_)
               have hw153_0 := hx153_0
               replace hx153_0 := (HB.out.cell (World.block_lt_of_cell? w _ hx153_0)).trans hx153_0
               replace p153 := eq_true p153
               replace q153 := eq_true q153
               refine start_ (n := 13) (S := fun w' => w'.cell? ⟨0, (x12_1).toNat, none⟩ = some (.string (rdOf ByteArray.empty l5 x12_1))) (ds := []) #[false, false, false, false, false, false, false, false, false, false, false, false, false] (by kernel_rfl) rfl rfl (((HB.out.cell (World.block_lt_of_cell? w _ hw153_0)).trans hw153_0)) (fun hHeld => ?_); refine with_tabW weirref26_grow.tab14 weirref26_grow.bits14 (fun HT_ HW_ => ?_)
               generalize wr.drew = w36 at HB hx153_0 hHeld ⊢
               refine pure_ (i := 0) (N := some 85) (v := ?_) (a' := ?_) #[true, false, false, false, false, false, false, false, false, false, false, false, false] rfl rfl (any_of HT_.out (by kernel_rfl)) (fun _ _ _ h => h) (Or.inl ⟨by rfl, ?_⟩) ?_ ?_
               rotate_left
               ·intro w'
                go_simp
                with_reducible rfl
               rotate_left
               ·simp only [Act.put, List.setIfInBounds_toArray, List.set_cons_zero, List.set_cons_succ, i64_w, i32_w]
                rfl
               refine pure_ (i := 2) (N := some 87) (v := ?_) (a' := ?_) #[true, false, true, false, false, false, false, false, false, false, false, false, false] rfl rfl (any_of HT_.out (by kernel_rfl)) (fun _ _ _ h => h) (Or.inl ⟨by rfl, ?_⟩) ?_ ?_
               rotate_left
               ·intro w'
                go_simp
                with_reducible rfl
               rotate_left
               ·simp only [Act.put, List.setIfInBounds_toArray, List.set_cons_zero, List.set_cons_succ, i64_w, i32_w]
                rfl
               refine pure_ (i := 4) (N := some 89) (v := ?_) (a' := ?_) #[true, false, true, false, true, false, false, false, false, false, false, false, false] rfl rfl (any_of HT_.out (by kernel_rfl)) (fun _ _ _ h => h) (Or.inl ⟨by rfl, ?_⟩) ?_ ?_
               rotate_left
               ·intro w'
                go_simp
                with_reducible rfl
               rotate_left
               ·simp only [Act.put, List.setIfInBounds_toArray, List.set_cons_zero, List.set_cons_succ, i64_w, i32_w]
                rfl
               refine pure_ (i := 5) (N := some 90) (v := ?_) (a' := ?_) #[true, false, true, false, true, true, false, false, false, false, false, false, false] rfl rfl (any_of HT_.out (by kernel_rfl)) (fun _ _ _ h => h) (Or.inl ⟨by rfl, ?_⟩) ?_ ?_
               rotate_left
               ·intro w'
                go_simp
                with_reducible rfl
               rotate_left
               ·simp only [Act.put, List.setIfInBounds_toArray, List.set_cons_zero, List.set_cons_succ, i64_w, i32_w]
                rfl
               refine pure_ (i := 9) (N := some 94) (v := ?_) (a' := ?_) #[true, false, true, false, true, true, false, false, false, true, false, false, false] rfl rfl (any_of HT_.out (by kernel_rfl)) (fun _ _ _ h => h) (Or.inl ⟨by rfl, ?_⟩) ?_ ?_
               rotate_left
               ·intro w'
                go_simp
                with_reducible rfl
               rotate_left
               ·simp only [Act.put, List.setIfInBounds_toArray, List.set_cons_zero, List.set_cons_succ, i64_w, i32_w]
                rfl
               refine pure_ (i := 10) (N := some 95) (v := ?_) (a' := ?_) #[true, false, true, false, true, true, false, false, false, true, true, false, false] rfl rfl (any_of HT_.out (by kernel_rfl)) (fun _ _ _ h => h) (Or.inl ⟨by rfl, ?_⟩) ?_ ?_
               rotate_left
               ·intro w'
                go_simp
                with_reducible rfl
               rotate_left
               ·simp only [Act.put, List.setIfInBounds_toArray, List.set_cons_zero, List.set_cons_succ, i64_w, i32_w]
                rfl
               refine pure_ (i := 11) (N := some 96) (v := ?_) (a' := ?_) #[true, false, true, false, true, true, false, false, false, true, true, true, false] rfl rfl (any_of HT_.out (by kernel_rfl)) (fun _ _ _ h => h) (Or.inl ⟨by rfl, ?_⟩) ?_ ?_
               rotate_left
               ·intro w'
                go_simp
                with_reducible rfl
               rotate_left
               ·simp only [Act.put, List.setIfInBounds_toArray, List.set_cons_zero, List.set_cons_succ, i64_w, i32_w]
                rfl
               refine take_ (i := 6) (N := some 91) (v := ?_) (a' := ?_) #[true, false, true, false, true, true, true, false, false, true, true, true, false] rfl rfl (take_ofW HT_.out HW_.out (by kernel_rfl)) (fun _ _ _ h => h) (Or.inl ⟨by rfl, ?_⟩) hHeld ?_ ?_
               rotate_left
               ·intro w' s0
                go_simp
                with_reducible rfl
               rotate_left
               ·simp only [Act.put, List.setIfInBounds_toArray, List.set_cons_zero, List.set_cons_succ, i64_w, i32_w]
                rfl
               refine join_ (σ := Value × Value × Value) 2 #[true, true, true, true, true, true, true, true, false, true, true, true, false] (fun s_ => [(86, s_.1), (88, s_.2.1), (92, s_.2.2)]) (fun s_ w' => (w'.cell? ⟨0, (x12_1).toNat, none⟩ = some (.string (rdOf ByteArray.empty l5 x12_1))) ∧ (Kd.R Kd.string 9 w' w.heap.size (fun k_ => some k_ ≠ (s_.2.2 : Value).ownBlock) s_.2.1 y150) ∧ (Kd.R Kd.string 9 w' w.heap.size (fun k_ => some k_ ≠ (s_.2.1 : Value).ownBlock) s_.2.2 y154) ∧ (Below w.heap.size w w')) ?_ ?_
               rotate_left
               ·intro hCont
                refine two_ (i := 1) (j := 7) (Ni := some 86) (Nj := some 92) #[true, true, true, false, true, true, true, false, false, true, true, true, false] #[true, false, true, false, true, true, true, true, false, true, true, true, false] rfl rfl rfl rfl (two_of HT_.out (by kernel_rfl)) (by decide) (by decide) (fun K hK => ?_) (fun K hK => ?_)
                ·skip
                 refine Kd.R_lit_step Kd.string _ 9 ?hg (N := 86) ?hd (xs := ([] : List ByteArray)) (inner := []) (ok := fun _ => True) (okp := fun _ => True) ?hr ?hp (fun _ hk => hk) trivial (Below.refl _ _) (Nat.le_refl _) (by simp) ?_; (case hd => rfl); (case hg => rfl); (case hr => first | (go_simp; done) | (go_simp; rfl)); (case hp => exact (Reps.none _ _))
                 intro v148 w37 ho38 hb hg_ hnew_
                 clear hg_ hnew_
                 (first | rw [← Ny147.out] at ho38 | (simp only [Int.reduceToNat] at ho38; rw [← Ny147.out] at ho38))
                 have n0_ := Aside0.mk (Kd.R_lower ho38 (below_size (by repeat (first | (with_reducible first | exact HB.out | apply below_alloc | apply pw_below_drewN | apply below_drew1) | exact HB.out))))
                 have n1_ := Aside0.mk (below_step (by repeat (first | (with_reducible first | exact HB.out | apply below_alloc | apply pw_below_drewN | apply below_drew1) | exact HB.out)) hb)
                 clear HB; have HO149 := n0_; have HB := n1_; clear n0_ n1_; clear hb ho38
                 refine hK.out _ _ (((HB.out.cell (World.block_lt_of_cell? w _ hw153_0)).trans hw153_0)) (fun hHeld => ?_)
                 clear hK K
                 refine norm_ (a' := ?_) ?_ ?_
                 rotate_left
                 ·show Act.put _ (some 86) _ = _
                  simp only [Act.put, List.setIfInBounds_toArray, List.set_cons_zero, List.set_cons_succ, i64_w, i32_w]
                  rfl
                 refine two_ (i := 3) (j := 7) (Ni := some 88) (Nj := some 92) #[true, true, true, true, true, true, true, false, false, true, true, true, false] #[true, true, true, false, true, true, true, true, false, true, true, true, false] rfl rfl rfl rfl (two_of HT_.out (by kernel_rfl)) (by decide) (by decide) (fun K hK => ?_) (fun K hK => ?_)
                 ·skip
                  refine Kd.R_append_rows_step Kd.string (w0 := w) w.heap.size (by rfl) (.tmp 86) (.tmp 87) 22 9 (.string ⟨#[]⟩) 16 rfl Tryd.underlying22 info9 rfl (by decide) (by omega) v148 y147 l1 _ _ _ (fun _ => True) (fun _ => False) rfl rfl ?aO ?aR (fun _ _ h => h) (fun _ h => h.elim) ?aF ?aB ?aS ?aL ?_
                  (case aR => repeat (first | exact (Kd.C_below HR1.out HB.out) | (with_reducible refine Kd.C_alloc ?_ _) | (with_reducible refine Kd.C_drewN ?_ _) | (with_reducible refine Kd.C_drew ?_)))
                  (case aB => exact (by repeat (first | (with_reducible first | exact HB.out | apply below_alloc | apply pw_below_drewN | apply below_drew1) | exact HB.out)))
                  (case aF => exact (fun _ _ => trivial))
                  (case aO => exact (by (with_reducible repeat (first | apply Kd.R_alloc | apply Kd.R_drewN | apply Kd.R_drew)); exact HO149.out))
                  (case aS => exact (below_size (by repeat (first | (with_reducible first | exact HB.out | apply below_alloc | apply pw_below_drewN | apply below_drew1) | exact HB.out))))
                  (case aL => have := LMc31.out; omega)
                  intro v151 w39 ho hb hg hat
                  rw [← Ny150.out] at ho
                  have n0_ := Aside0.mk (hb)
                  have n1_ := Aside0.mk (ho)
                  clear HB; clear HO149; have HB := n0_; have HO152 := n1_; clear n0_ n1_; clear ho hb hg hat
                  refine hK.out _ _ (((HB.out.cell (World.block_lt_of_cell? w _ hw153_0)).trans hw153_0)) (fun hHeld => ?_)
                  clear hK K
                  refine norm_ (a' := ?_) ?_ ?_
                  rotate_left
                  ·show Act.put _ (some 88) _ = _
                   simp only [Act.put, List.setIfInBounds_toArray, List.set_cons_zero, List.set_cons_succ, i64_w, i32_w]
                   rfl
                  refine one_ (i := 7) (N := some 92) #[true, true, true, true, true, true, true, true, false, true, true, true, false] rfl rfl (one_of HT_.out (by kernel_rfl)) (by decide) (fun K hK => ?_)
                  refine Kd.R_lit_step Kd.string _ 9 ?hg (N := 92) ?hd (xs := ([rdOf ByteArray.empty l5 x12_1] : List ByteArray)) (inner := [.string (rdOf ByteArray.empty l5 x12_1)]) (ok := fun _ => True) (okp := fun _ => True) ?hr ?hp (fun _ hk => hk) trivial (Below.refl _ _) (Nat.le_refl _) (by simp) ?_; (case hd => rfl); (case hg => rfl); (case hr => first | (go_simp; done) | (go_simp; rfl)); (case hp => exact (Reps.one (show Kd.M Kd.string _ _ _ (rdOf ByteArray.empty l5 x12_1) [.string (rdOf ByteArray.empty l5 x12_1)] from rfl) (Reps.none _ _)))
                  intro v155 w40 ho41 hb hg_ hnew_
                  clear hg_ hnew_
                  (first | rw [← Ny154.out] at ho41 | (simp only [Int.reduceToNat] at ho41; rw [← Ny154.out] at ho41))
                  have n0_ := Aside0.mk (Kd.R_elder' (by (with_reducible repeat (first | apply Kd.R_alloc | apply Kd.R_drewN | apply Kd.R_drew)); exact HO152.out) (Kd.R_base ho41) hb)
                  have n1_ := Aside0.mk (Kd.R_lower (Kd.R_new' ho41 (Kd.R_lt (by (with_reducible repeat (first | apply Kd.R_alloc | apply Kd.R_drewN | apply Kd.R_drew)); exact HO152.out))) (below_size (by repeat (first | (with_reducible first | exact HB.out | apply below_alloc | apply pw_below_drewN | apply below_drew1) | exact HB.out))))
                  have n2_ := Aside0.mk (below_step (by repeat (first | (with_reducible first | exact HB.out | apply below_alloc | apply pw_below_drewN | apply below_drew1) | exact HB.out)) hb)
                  clear HO152; clear HB; have HO152 := n0_; have HO156 := n1_; have HB := n2_; clear n0_ n1_ n2_; clear hb ho41
                  refine hK.out _ _ (((HB.out.cell (World.block_lt_of_cell? w _ hw153_0)).trans hw153_0)) (fun hHeld => ?_)
                  clear hK K
                  refine norm_ (a' := ?_) ?_ ?_
                  rotate_left
                  ·show Act.put _ (some 92) _ = _
                   simp only [Act.put, List.setIfInBounds_toArray, List.set_cons_zero, List.set_cons_succ, i64_w, i32_w]
                   rfl
                  exact norm_ (by simp only [putAll, Act.put, List.setIfInBounds_toArray, List.set_cons_zero, List.set_cons_succ]) (hCont (v148, v151, v155) _ ⟨hHeld, (by (with_reducible repeat (first | apply Kd.R_alloc | apply Kd.R_drewN | apply Kd.R_drew)); exact Kd.R_mono HO152.out (fun _ hk => hk.2)), (by (with_reducible repeat (first | apply Kd.R_alloc | apply Kd.R_drewN | apply Kd.R_drew)); exact Kd.R_mono HO156.out (fun _ hk => hk.2)), (by repeat (first | (with_reducible first | exact HB.out | apply below_alloc | apply pw_below_drewN | apply below_drew1) | exact HB.out))⟩)
                 ·skip
                  refine Kd.R_lit_step Kd.string _ 9 ?hg (N := 92) ?hd (xs := ([rdOf ByteArray.empty l5 x12_1] : List ByteArray)) (inner := [.string (rdOf ByteArray.empty l5 x12_1)]) (ok := fun _ => True) (okp := fun _ => True) ?hr ?hp (fun _ hk => hk) trivial (Below.refl _ _) (Nat.le_refl _) (by simp) ?_; (case hd => rfl); (case hg => rfl); (case hr => first | (go_simp; done) | (go_simp; rfl)); (case hp => exact (Reps.one (show Kd.M Kd.string _ _ _ (rdOf ByteArray.empty l5 x12_1) [.string (rdOf ByteArray.empty l5 x12_1)] from rfl) (Reps.none _ _)))
                  intro v155 w39 ho40 hb hg_ hnew_
                  clear hg_ hnew_
                  (first | rw [← Ny154.out] at ho40 | (simp only [Int.reduceToNat] at ho40; rw [← Ny154.out] at ho40))
                  have n0_ := Aside0.mk (Kd.R_elder' (by (with_reducible repeat (first | apply Kd.R_alloc | apply Kd.R_drewN | apply Kd.R_drew)); exact HO149.out) (Kd.R_base ho40) hb)
                  have n1_ := Aside0.mk (Kd.R_lower (Kd.R_new' ho40 (Kd.R_lt (by (with_reducible repeat (first | apply Kd.R_alloc | apply Kd.R_drewN | apply Kd.R_drew)); exact HO149.out))) (below_size (by repeat (first | (with_reducible first | exact HB.out | apply below_alloc | apply pw_below_drewN | apply below_drew1) | exact HB.out))))
                  have n2_ := Aside0.mk (below_step (by repeat (first | (with_reducible first | exact HB.out | apply below_alloc | apply pw_below_drewN | apply below_drew1) | exact HB.out)) hb)
                  clear HO149; clear HB; have HO149 := n0_; have HO156 := n1_; have HB := n2_; clear n0_ n1_ n2_; clear hb ho40
                  refine hK.out _ _ (((HB.out.cell (World.block_lt_of_cell? w _ hw153_0)).trans hw153_0)) (fun hHeld => ?_)
                  clear hK K
                  refine norm_ (a' := ?_) ?_ ?_
                  rotate_left
                  ·show Act.put _ (some 92) _ = _
                   simp only [Act.put, List.setIfInBounds_toArray, List.set_cons_zero, List.set_cons_succ, i64_w, i32_w]
                   rfl
                  refine one_ (i := 3) (N := some 88) #[true, true, true, true, true, true, true, true, false, true, true, true, false] rfl rfl (one_of HT_.out (by kernel_rfl)) (by decide) (fun K hK => ?_)
                  refine Kd.R_append_rows_step Kd.string (w0 := w) w.heap.size (by rfl) (.tmp 86) (.tmp 87) 22 9 (.string ⟨#[]⟩) 16 rfl Tryd.underlying22 info9 rfl (by decide) (by omega) v148 y147 l1 _ _ _ (fun k_ => some k_ ≠ (v155 : Value).ownBlock) (fun _ => False) rfl rfl ?aO ?aR (fun _ _ h => h) (fun _ h => h.elim) ?aF ?aB ?aS ?aL ?_
                  (case aR => repeat (first | exact (Kd.C_below HR1.out HB.out) | (with_reducible refine Kd.C_alloc ?_ _) | (with_reducible refine Kd.C_drewN ?_ _) | (with_reducible refine Kd.C_drew ?_)))
                  (case aB => exact (by repeat (first | (with_reducible first | exact HB.out | apply below_alloc | apply pw_below_drewN | apply below_drew1) | exact HB.out)))
                  (case aF => exact (fun k_ hk => Kd.fresh' (Kd.R_lt (by (with_reducible repeat (first | apply Kd.R_alloc | apply Kd.R_drewN | apply Kd.R_drew)); exact HO156.out)) k_ hk))
                  (case aO => exact (by (with_reducible repeat (first | apply Kd.R_alloc | apply Kd.R_drewN | apply Kd.R_drew)); exact Kd.R_mono HO149.out (fun _ hk => hk.2)))
                  (case aS => exact (below_size (by repeat (first | (with_reducible first | exact HB.out | apply below_alloc | apply pw_below_drewN | apply below_drew1) | exact HB.out))))
                  (case aL => have := LMc31.out; omega)
                  intro v151 w41 ho hb hg hat
                  rw [← Ny150.out] at ho
                  have n0_ := Aside0.mk (Kd.R_after (ok := (fun _ => True)) (by (with_reducible repeat (first | apply Kd.R_alloc | apply Kd.R_drewN | apply Kd.R_drew)); exact HO156.out) hg hat)
                  have n1_ := Aside0.mk (hb)
                  have n2_ := Aside0.mk (ho)
                  clear HO156; clear HB; clear HO149; have HO156 := n0_; have HB := n1_; have HO152 := n2_; clear n0_ n1_ n2_; clear ho hb hg hat
                  refine hK.out _ _ (((HB.out.cell (World.block_lt_of_cell? w _ hw153_0)).trans hw153_0)) (fun hHeld => ?_)
                  clear hK K
                  refine norm_ (a' := ?_) ?_ ?_
                  rotate_left
                  ·show Act.put _ (some 88) _ = _
                   simp only [Act.put, List.setIfInBounds_toArray, List.set_cons_zero, List.set_cons_succ, i64_w, i32_w]
                   rfl
                  exact norm_ (by simp only [putAll, Act.put, List.setIfInBounds_toArray, List.set_cons_zero, List.set_cons_succ]) (hCont (v148, v151, v155) _ ⟨hHeld, (by (with_reducible repeat (first | apply Kd.R_alloc | apply Kd.R_drewN | apply Kd.R_drew)); exact HO152.out), (by (with_reducible repeat (first | apply Kd.R_alloc | apply Kd.R_drewN | apply Kd.R_drew)); exact Kd.R_mono HO156.out (fun _ hk => hk.2)), (by repeat (first | (with_reducible first | exact HB.out | apply below_alloc | apply pw_below_drewN | apply below_drew1) | exact HB.out))⟩)
                ·skip
                 refine Kd.R_lit_step Kd.string _ 9 ?hg (N := 92) ?hd (xs := ([rdOf ByteArray.empty l5 x12_1] : List ByteArray)) (inner := [.string (rdOf ByteArray.empty l5 x12_1)]) (ok := fun _ => True) (okp := fun _ => True) ?hr ?hp (fun _ hk => hk) trivial (Below.refl _ _) (Nat.le_refl _) (by simp) ?_; (case hd => rfl); (case hg => rfl); (case hr => first | (go_simp; done) | (go_simp; rfl)); (case hp => exact (Reps.one (show Kd.M Kd.string _ _ _ (rdOf ByteArray.empty l5 x12_1) [.string (rdOf ByteArray.empty l5 x12_1)] from rfl) (Reps.none _ _)))
                 intro v155 w37 ho38 hb hg_ hnew_
                 clear hg_ hnew_
                 (first | rw [← Ny154.out] at ho38 | (simp only [Int.reduceToNat] at ho38; rw [← Ny154.out] at ho38))
                 have n0_ := Aside0.mk (Kd.R_lower ho38 (below_size (by repeat (first | (with_reducible first | exact HB.out | apply below_alloc | apply pw_below_drewN | apply below_drew1) | exact HB.out))))
                 have n1_ := Aside0.mk (below_step (by repeat (first | (with_reducible first | exact HB.out | apply below_alloc | apply pw_below_drewN | apply below_drew1) | exact HB.out)) hb)
                 clear HB; have HO156 := n0_; have HB := n1_; clear n0_ n1_; clear hb ho38
                 refine hK.out _ _ (((HB.out.cell (World.block_lt_of_cell? w _ hw153_0)).trans hw153_0)) (fun hHeld => ?_)
                 clear hK K
                 refine norm_ (a' := ?_) ?_ ?_
                 rotate_left
                 ·show Act.put _ (some 92) _ = _
                  simp only [Act.put, List.setIfInBounds_toArray, List.set_cons_zero, List.set_cons_succ, i64_w, i32_w]
                  rfl
                 refine one_ (i := 1) (N := some 86) #[true, true, true, false, true, true, true, true, false, true, true, true, false] rfl rfl (one_of HT_.out (by kernel_rfl)) (by decide) (fun K hK => ?_)
                 refine Kd.R_lit_step Kd.string _ 9 ?hg (N := 86) ?hd (xs := ([] : List ByteArray)) (inner := []) (ok := fun _ => True) (okp := fun _ => True) ?hr ?hp (fun _ hk => hk) trivial (Below.refl _ _) (Nat.le_refl _) (by simp) ?_; (case hd => rfl); (case hg => rfl); (case hr => first | (go_simp; done) | (go_simp; rfl)); (case hp => exact (Reps.none _ _))
                 intro v148 w39 ho40 hb hg_ hnew_
                 clear hg_ hnew_
                 (first | rw [← Ny147.out] at ho40 | (simp only [Int.reduceToNat] at ho40; rw [← Ny147.out] at ho40))
                 have n0_ := Aside0.mk (Kd.R_elder' (by (with_reducible repeat (first | apply Kd.R_alloc | apply Kd.R_drewN | apply Kd.R_drew)); exact HO156.out) (Kd.R_base ho40) hb)
                 have n1_ := Aside0.mk (Kd.R_lower (Kd.R_new' ho40 (Kd.R_lt (by (with_reducible repeat (first | apply Kd.R_alloc | apply Kd.R_drewN | apply Kd.R_drew)); exact HO156.out))) (below_size (by repeat (first | (with_reducible first | exact HB.out | apply below_alloc | apply pw_below_drewN | apply below_drew1) | exact HB.out))))
                 have n2_ := Aside0.mk (below_step (by repeat (first | (with_reducible first | exact HB.out | apply below_alloc | apply pw_below_drewN | apply below_drew1) | exact HB.out)) hb)
                 clear HO156; clear HB; have HO156 := n0_; have HO149 := n1_; have HB := n2_; clear n0_ n1_ n2_; clear hb ho40
                 refine hK.out _ _ (((HB.out.cell (World.block_lt_of_cell? w _ hw153_0)).trans hw153_0)) (fun hHeld => ?_)
                 clear hK K
                 refine norm_ (a' := ?_) ?_ ?_
                 rotate_left
                 ·show Act.put _ (some 86) _ = _
                  simp only [Act.put, List.setIfInBounds_toArray, List.set_cons_zero, List.set_cons_succ, i64_w, i32_w]
                  rfl
                 refine one_ (i := 3) (N := some 88) #[true, true, true, true, true, true, true, true, false, true, true, true, false] rfl rfl (one_of HT_.out (by kernel_rfl)) (by decide) (fun K hK => ?_)
                 refine Kd.R_append_rows_step Kd.string (w0 := w) w.heap.size (by rfl) (.tmp 86) (.tmp 87) 22 9 (.string ⟨#[]⟩) 16 rfl Tryd.underlying22 info9 rfl (by decide) (by omega) v148 y147 l1 _ _ _ (fun k_ => some k_ ≠ (v155 : Value).ownBlock) (fun _ => False) rfl rfl ?aO ?aR (fun _ _ h => h) (fun _ h => h.elim) ?aF ?aB ?aS ?aL ?_
                 (case aR => repeat (first | exact (Kd.C_below HR1.out HB.out) | (with_reducible refine Kd.C_alloc ?_ _) | (with_reducible refine Kd.C_drewN ?_ _) | (with_reducible refine Kd.C_drew ?_)))
                 (case aB => exact (by repeat (first | (with_reducible first | exact HB.out | apply below_alloc | apply pw_below_drewN | apply below_drew1) | exact HB.out)))
                 (case aF => exact (fun k_ hk => Kd.fresh' (Kd.R_lt (by (with_reducible repeat (first | apply Kd.R_alloc | apply Kd.R_drewN | apply Kd.R_drew)); exact HO156.out)) k_ hk))
                 (case aO => exact (by (with_reducible repeat (first | apply Kd.R_alloc | apply Kd.R_drewN | apply Kd.R_drew)); exact Kd.R_mono HO149.out (fun _ hk => hk.2)))
                 (case aS => exact (below_size (by repeat (first | (with_reducible first | exact HB.out | apply below_alloc | apply pw_below_drewN | apply below_drew1) | exact HB.out))))
                 (case aL => have := LMc31.out; omega)
                 intro v151 w41 ho hb hg hat
                 rw [← Ny150.out] at ho
                 have n0_ := Aside0.mk (Kd.R_after (ok := (fun _ => True)) (by (with_reducible repeat (first | apply Kd.R_alloc | apply Kd.R_drewN | apply Kd.R_drew)); exact HO156.out) hg hat)
                 have n1_ := Aside0.mk (hb)
                 have n2_ := Aside0.mk (ho)
                 clear HO156; clear HB; clear HO149; have HO156 := n0_; have HB := n1_; have HO152 := n2_; clear n0_ n1_ n2_; clear ho hb hg hat
                 refine hK.out _ _ (((HB.out.cell (World.block_lt_of_cell? w _ hw153_0)).trans hw153_0)) (fun hHeld => ?_)
                 clear hK K
                 refine norm_ (a' := ?_) ?_ ?_
                 rotate_left
                 ·show Act.put _ (some 88) _ = _
                  simp only [Act.put, List.setIfInBounds_toArray, List.set_cons_zero, List.set_cons_succ, i64_w, i32_w]
                  rfl
                 exact norm_ (by simp only [putAll, Act.put, List.setIfInBounds_toArray, List.set_cons_zero, List.set_cons_succ]) (hCont (v148, v151, v155) _ ⟨hHeld, (by (with_reducible repeat (first | apply Kd.R_alloc | apply Kd.R_drewN | apply Kd.R_drew)); exact HO152.out), (by (with_reducible repeat (first | apply Kd.R_alloc | apply Kd.R_drewN | apply Kd.R_drew)); exact Kd.R_mono HO156.out (fun _ hk => hk.2)), (by repeat (first | (with_reducible first | exact HB.out | apply below_alloc | apply pw_below_drewN | apply below_drew1) | exact HB.out))⟩)
               rintro ⟨v148, v151, v155⟩ w42 ⟨hS_, h0_, h1_, h2_⟩
               have n0_ : Aside0 (Kd.R Kd.string 9 w42 w.heap.size (fun k_ => some k_ ≠ (v155 : Value).ownBlock) v151 y150) := ⟨h0_⟩
               have n1_ : Aside0 (Kd.R Kd.string 9 w42 w.heap.size (fun k_ => some k_ ≠ (v151 : Value).ownBlock) v155 y154) := ⟨h1_⟩
               have n2_ : Aside0 (Below w.heap.size w w42) := ⟨h2_⟩
               clear HB; clear h0_ h1_ h2_; have HO152 := n0_; have HO156 := n1_; have HB := n2_; clear n0_ n1_ n2_
               have hHeld : w42.cell? ⟨0, (x12_1).toNat, none⟩ = some (.string (rdOf ByteArray.empty l5 x12_1)) := hS_
               obtain ⟨Ao44, co44, eo44⟩ := Kd.R_slice HO156.out
               (first | subst eo44 | (injection eo44 with f1_ f2_ f3_; have f4_ := f1_.symm; have f5_ := f3_.symm; clear f1_ f2_ f3_; subst f4_; subst f5_))
               refine norm_ (a' := ?_) ?_ ?_
               rotate_left
               ·simp only [putAll, Act.put, List.setIfInBounds_toArray, List.set_cons_zero, List.set_cons_succ]
                rfl
               refine one_ (i := 8) (N := some 93) #[true, true, true, true, true, true, true, true, true, true, true, true, false] rfl rfl (one_of HT_.out (by kernel_rfl)) (by decide) (fun K hK => ?_)
               refine Kd.R_append_rows_step Kd.string (w0 := w) w.heap.size (by rfl) (.tmp 88) (.tmp 92) 22 9 (.string ⟨#[]⟩) 16 rfl Tryd.underlying22 info9 rfl (by decide) (by omega) v151 y150 y154 _ _ _ (fun k_ => some k_ ≠ (.slice Ao44 y154.length co44 : Value).ownBlock) (fun _ => False) rfl rfl ?aO ?aR (fun _ _ h => h) (fun _ h => h.elim) ?aF ?aB ?aS ?aL ?_
               (case aR => repeat (first | exact (Kd.R_reads' HO156.out).2.2 | (with_reducible refine Kd.C_alloc ?_ _) | (with_reducible refine Kd.C_drewN ?_ _) | (with_reducible refine Kd.C_drew ?_)))
               (case aB => exact (by repeat (first | (with_reducible first | exact HB.out | apply below_alloc | apply pw_below_drewN | apply below_drew1) | exact HB.out)))
               (case aF => exact (fun k_ hk => Kd.fresh' (Kd.R_lt (by (with_reducible repeat (first | apply Kd.R_alloc | apply Kd.R_drewN | apply Kd.R_drew)); exact HO156.out)) k_ hk))
               (case aO => exact (by (with_reducible repeat (first | apply Kd.R_alloc | apply Kd.R_drewN | apply Kd.R_drew)); exact HO152.out))
               (case aS => exact (below_size (by repeat (first | (with_reducible first | exact HB.out | apply below_alloc | apply pw_below_drewN | apply below_drew1) | exact HB.out))))
               (case aL => have := LMc34.out; omega)
               intro v158 w43 ho hb hg hat
               rw [← Ny157.out] at ho
               have n0_ := Aside0.mk (Kd.R_after (ok := (fun _ => True)) (by (with_reducible repeat (first | apply Kd.R_alloc | apply Kd.R_drewN | apply Kd.R_drew)); exact Kd.R_mono HO156.out (fun _ hk => ⟨trivial, hk⟩)) hg hat)
               have n1_ := Aside0.mk (hb)
               have n2_ := Aside0.mk (ho)
               clear HO156; clear HB; clear HO152; have HO156 := n0_; have HB := n1_; have HO159 := n2_; clear n0_ n1_ n2_; clear ho hb hg hat
               obtain ⟨Ao45, co45, eo45⟩ := Kd.R_slice HO159.out
               (first | subst eo45 | (injection eo45 with f1_ f2_ f3_; have f4_ := f1_.symm; have f5_ := f3_.symm; clear f1_ f2_ f3_; subst f4_; subst f5_))
               refine hK.out _ _ (((HB.out.cell (World.block_lt_of_cell? w _ hw153_0)).trans hw153_0)) (fun hHeld => ?_)
               clear hK K
               refine norm_ (a' := ?_) ?_ ?_
               rotate_left
               ·show Act.put _ (some 93) _ = _
                simp only [Act.put, List.setIfInBounds_toArray, List.set_cons_zero, List.set_cons_succ, i64_w, i32_w]
                rfl
               refine one_ (i := 12) (N := some 97) #[true, true, true, true, true, true, true, true, true, true, true, true, true] rfl rfl (one_of HT_.out (by kernel_rfl)) (by decide) (fun K hK => ?_)
               refine goes_ Tryd.func39 (by kernel_rfl) rfl #[.slice A0 l0.length c0, .slice Ao45 y157.length co45, .int .i64 a2, .int .i64 a3, .pointer (some ⟨Bo, 0, none⟩)] (by rfl) rfl rfl (by (try simp only [List.map_toArray, List.map_cons, List.map_nil]); first | done | rfl | (simp only [List.length_drop, List.length_take]; rfl)) ?_
               have ho0_ := Kd.R_lower (base' := 0) HO159.out (Nat.zero_le _)
               refine (ih k2 (by have := HK1.out; have := HK2.out; omega) _ _ y157 a4 z_ _ ?side3 ?side4 ?side5 ?side6 A35.out).mono ?_
               (case side3 => exact CT.of_R (by (with_reducible repeat (first | apply Kd.R_alloc | apply Kd.R_drewN | apply Kd.R_drew)); exact HO159.out))
               (case side4 => exact (Kd.R_reads' HO159.out).2.1)
               (case side5 => exact HBW.out.trans ((show Below w.heap.size w _ from by repeat (first | (with_reducible first | exact HB.out | apply below_alloc | apply pw_below_drewN | apply below_drew1) | exact HB.out)).mono HBW.out.size))
               (case side6 => exact HO.out.below (by repeat (first | (with_reducible first | exact HB.out | apply below_alloc | apply pw_below_drewN | apply below_drew1) | exact HB.out)))
               rintro e w46 ⟨rfl, hkp_, hbw_, hob_⟩
               refine ⟨_, rfl, ?_⟩
               refine hK.out _ _ ((hbw_.cell (World.block_lt_of_cell? wb _ hwb_)).trans hwb_) (fun hHeld => ?_)
               clear hK K
               refine norm_ (a' := ?_) ?_ ?_
               rotate_left
               ·show Act.put _ (some 97) _ = _
                simp only [Act.put, List.setIfInBounds_toArray, List.set_cons_zero, List.set_cons_succ, i64_w, i32_w]
                rfl
               refine done_ (done_of HT_.out (by kernel_rfl)) ?_
               try go_wp2
               go_roundg k2
               case measure => have := HK1.out; have := HK2.out; omega
               case rel => exact ⟨(wrap64 (x12_1 + 1)), z_, (by first | rfl | (simp; done) | (simp [*]; done)), H', ⟨by have := HK1.out; have := HK2.out; omega⟩, ⟨hob_⟩, ⟨str_keep (HX1.out.below HB.out) hkp_⟩, ⟨hbw_⟩, ⟨HKp.out.trans ((Keep.of_below (by repeat (first | (with_reducible first | exact HB.out | apply below_alloc | apply pw_below_drewN | apply below_drew1) | exact HB.out))).trans hkp_)⟩⟩
              ·rw [if_neg c34] at H
               exact absurd H (by simp)
             ·rw [if_neg c33] at H
              exact absurd H (by simp)
            ·rw [if_neg c32] at H
             exact absurd H (by simp)
           ·rw [if_neg c31] at H
            exact absurd H (by simp)
          ·rw [if_neg c30] at H
           have c30b0 : ((l1.length : Int) == 0) = false := beq_eq_false_iff_ne.mpr c30
           have c30b1 : ((l1.length : Int) != 0) = true := bne_iff_ne.mpr c30
           have c30b2 : ¬ (l1 = []) := fun h_ => c30 (by rw [h_]; rfl)
           obtain ⟨ji47, hji47⟩ : ∃ j_ : Int, (wrap64 ((l1.length : Int) - 1)) = j_ := ⟨_, rfl⟩
           replace H : (if 0 ≤ (ji47) then (if (ji47) < (l1.length : Int) then ((weirref26_Number.f (rdOf ByteArray.empty l1 (ji47)) l5).bind fun t161 => ((weirref26_ends.f t161).bind fun t162 => ((weirref26_begins.f x12_1).bind fun t163 => (if t162 = t163 then ((some (([] : List ByteArray) : List ByteArray)).bind fun y164 => (if y164.length + l1.length < 8796093022208 then ((some (y164 ++ l1 : List ByteArray)).bind fun y167 => (if 0 ≤ x12_1 then (if x12_1 < (l5.length : Int) then ((some (([rdOf ByteArray.empty l5 x12_1] : List ByteArray) : List ByteArray)).bind fun y171 => (if y167.length + y171.length < 8796093022208 then ((weirref26_grow.f k2 l0 (y167 ++ y171) a2 a3 a4 l5).bind fun z_ => (weirref26_grow.l0 k2 l0 l1 a2 a3 z_ l5 (wrap64 (x12_1 + 1)))) else (none))) else (none)) else (none))) else (none))) else (weirref26_grow.l0 k2 l0 l1 a2 a3 a4 l5 (wrap64 (x12_1 + 1))))))) else (none)) else (none)) = some r := by first | (rw [hji47] at H; exact H) | (simp only [hji47] at H ⊢; exact H)
           have hji47w : (IntKind.i64.wrap ((l1.length : Int) - 1)) = ji47 := (i64_w _).trans hji47
           by_cases c48 : 0 ≤ (ji47)
           ·rw [if_pos c48] at H
            have c48b0 : decide (0 ≤ (ji47)) = true := decide_eq_true c48
            clear c48
            by_cases c49 : (ji47) < (l1.length : Int)
            ·rw [if_pos c49] at H
             have c49b0 : decide ((ji47) < (l1.length : Int)) = true := decide_eq_true c49
             clear c49
             replace H := Option.bind_eq_some_iff.mp H
             obtain ⟨t161, A500, H⟩ := H
             replace H : ((weirref26_ends.f t161).bind fun t162 => ((weirref26_begins.f x12_1).bind fun t163 => (if t162 = t163 then ((some (([] : List ByteArray) : List ByteArray)).bind fun y164 => (if y164.length + l1.length < 8796093022208 then ((some (y164 ++ l1 : List ByteArray)).bind fun y167 => (if 0 ≤ x12_1 then (if x12_1 < (l5.length : Int) then ((some (([rdOf ByteArray.empty l5 x12_1] : List ByteArray) : List ByteArray)).bind fun y171 => (if y167.length + y171.length < 8796093022208 then ((weirref26_grow.f k2 l0 (y167 ++ y171) a2 a3 a4 l5).bind fun z_ => (weirref26_grow.l0 k2 l0 l1 a2 a3 z_ l5 (wrap64 (x12_1 + 1)))) else (none))) else (none)) else (none))) else (none))) else (weirref26_grow.l0 k2 l0 l1 a2 a3 a4 l5 (wrap64 (x12_1 + 1)))))) = some r := H
             have A50 := Aside0.mk A500
             clear A500
             replace H := Option.bind_eq_some_iff.mp H
             obtain ⟨t162, A510, H⟩ := H
             replace H : ((weirref26_begins.f x12_1).bind fun t163 => (if t162 = t163 then ((some (([] : List ByteArray) : List ByteArray)).bind fun y164 => (if y164.length + l1.length < 8796093022208 then ((some (y164 ++ l1 : List ByteArray)).bind fun y167 => (if 0 ≤ x12_1 then (if x12_1 < (l5.length : Int) then ((some (([rdOf ByteArray.empty l5 x12_1] : List ByteArray) : List ByteArray)).bind fun y171 => (if y167.length + y171.length < 8796093022208 then ((weirref26_grow.f k2 l0 (y167 ++ y171) a2 a3 a4 l5).bind fun z_ => (weirref26_grow.l0 k2 l0 l1 a2 a3 z_ l5 (wrap64 (x12_1 + 1)))) else (none))) else (none)) else (none))) else (none))) else (weirref26_grow.l0 k2 l0 l1 a2 a3 a4 l5 (wrap64 (x12_1 + 1))))) = some r := H
             have A51 := Aside0.mk A510
             clear A510
             replace H := Option.bind_eq_some_iff.mp H
             obtain ⟨t163, A520, H⟩ := H
             replace H : (if t162 = t163 then ((some (([] : List ByteArray) : List ByteArray)).bind fun y164 => (if y164.length + l1.length < 8796093022208 then ((some (y164 ++ l1 : List ByteArray)).bind fun y167 => (if 0 ≤ x12_1 then (if x12_1 < (l5.length : Int) then ((some (([rdOf ByteArray.empty l5 x12_1] : List ByteArray) : List ByteArray)).bind fun y171 => (if y167.length + y171.length < 8796093022208 then ((weirref26_grow.f k2 l0 (y167 ++ y171) a2 a3 a4 l5).bind fun z_ => (weirref26_grow.l0 k2 l0 l1 a2 a3 z_ l5 (wrap64 (x12_1 + 1)))) else (none))) else (none)) else (none))) else (none))) else (weirref26_grow.l0 k2 l0 l1 a2 a3 a4 l5 (wrap64 (x12_1 + 1)))) = some r := H
             have A52 := Aside0.mk A520
             clear A520
             by_cases c53 : t162 = t163
             ·rw [if_pos c53] at H
              have c53b0 : (t162 == t163) = true := beq_iff_eq.mpr c53
              have c53b1 : (t162 != t163) = false := bne_eq_false_iff_eq.mpr c53
              clear c53
              obtain ⟨y164, hy164⟩ : ∃ y_ : List ByteArray, y_ = (([] : List ByteArray)) := ⟨_, rfl⟩
              replace H : (if y164.length + l1.length < 8796093022208 then ((some (y164 ++ l1 : List ByteArray)).bind fun y167 => (if 0 ≤ x12_1 then (if x12_1 < (l5.length : Int) then ((some (([rdOf ByteArray.empty l5 x12_1] : List ByteArray) : List ByteArray)).bind fun y171 => (if y167.length + y171.length < 8796093022208 then ((weirref26_grow.f k2 l0 (y167 ++ y171) a2 a3 a4 l5).bind fun z_ => (weirref26_grow.l0 k2 l0 l1 a2 a3 z_ l5 (wrap64 (x12_1 + 1)))) else (none))) else (none)) else (none))) else (none)) = some r := by first | (rw [hy164]; with_reducible exact H) | (have H2_ := (Option.bind_some _ _).symm.trans H; rw [hy164]; with_reducible exact H2_) | (have H2_ := (Option.bind_some _ _).symm.trans H; with_reducible exact H2_) | with_reducible exact H | (rw [hy164]; exact H) | exact H
              have Ny164 := Aside0.mk hy164
              clear hy164
              by_cases c54 : y164.length + l1.length < 8796093022208
              ·rw [if_pos c54] at H
               have LMc54 := Aside0.mk c54
               clear c54
               obtain ⟨y167, hy167⟩ : ∃ y_ : List ByteArray, y_ = (y164 ++ l1) := ⟨_, rfl⟩
               replace H : (if 0 ≤ x12_1 then (if x12_1 < (l5.length : Int) then ((some (([rdOf ByteArray.empty l5 x12_1] : List ByteArray) : List ByteArray)).bind fun y171 => (if y167.length + y171.length < 8796093022208 then ((weirref26_grow.f k2 l0 (y167 ++ y171) a2 a3 a4 l5).bind fun z_ => (weirref26_grow.l0 k2 l0 l1 a2 a3 z_ l5 (wrap64 (x12_1 + 1)))) else (none))) else (none)) else (none)) = some r := by first | (rw [hy167]; with_reducible exact H) | (have H2_ := (Option.bind_some _ _).symm.trans H; rw [hy167]; with_reducible exact H2_) | (have H2_ := (Option.bind_some _ _).symm.trans H; with_reducible exact H2_) | with_reducible exact H | (rw [hy167]; exact H) | exact H
               have Ny167 := Aside0.mk hy167
               clear hy167
               by_cases c55 : 0 ≤ x12_1
               ·rw [if_pos c55] at H
                have c55b0 : decide (0 ≤ x12_1) = true := decide_eq_true c55
                clear c55
                by_cases c56 : x12_1 < (l5.length : Int)
                ·rw [if_pos c56] at H
                 have c56b0 : decide (x12_1 < (l5.length : Int)) = true := decide_eq_true c56
                 clear c56
                 obtain ⟨y171, hy171⟩ : ∃ y_ : List ByteArray, y_ = (([rdOf ByteArray.empty l5 x12_1] : List ByteArray)) := ⟨_, rfl⟩
                 replace H : (if y167.length + y171.length < 8796093022208 then ((weirref26_grow.f k2 l0 (y167 ++ y171) a2 a3 a4 l5).bind fun z_ => (weirref26_grow.l0 k2 l0 l1 a2 a3 z_ l5 (wrap64 (x12_1 + 1)))) else (none)) = some r := by first | (rw [hy171]; with_reducible exact H) | (have H2_ := (Option.bind_some _ _).symm.trans H; rw [hy171]; with_reducible exact H2_) | (have H2_ := (Option.bind_some _ _).symm.trans H; with_reducible exact H2_) | with_reducible exact H | (rw [hy171]; exact H) | exact H
                 have Ny171 := Aside0.mk hy171
                 clear hy171
                 by_cases c57 : y167.length + y171.length < 8796093022208
                 ·rw [if_pos c57] at H
                  have LMc57 := Aside0.mk c57
                  clear c57
                  obtain ⟨y174, hy174⟩ : ∃ y_ : List ByteArray, y_ = (y167 ++ y171) := ⟨_, rfl⟩
                  replace H : ((weirref26_grow.f k2 l0 y174 a2 a3 a4 l5).bind fun z_ => (weirref26_grow.l0 k2 l0 l1 a2 a3 z_ l5 (wrap64 (x12_1 + 1)))) = some r := by first | (rw [hy174]; with_reducible exact H) | (have H2_ := (Option.bind_some _ _).symm.trans H; rw [hy174]; with_reducible exact H2_) | (have H2_ := (Option.bind_some _ _).symm.trans H; with_reducible exact H2_) | with_reducible exact H | (rw [hy174]; exact H) | exact H
                  have Ny174 := Aside0.mk hy174
                  clear hy174
                  replace H := Option.bind_eq_some_iff.mp H
                  obtain ⟨z_, A580, H⟩ := H
                  replace H : (weirref26_grow.l0 k2 l0 l1 a2 a3 z_ l5 (wrap64 (x12_1 + 1))) = some r := H
                  have A58 := Aside0.mk A580
                  clear A580
                  have H' := Aside0.mk H
                  clear H
                  have p160 : 0 ≤ ((ji47) : Int) := of_decide_eq_true (by first | (with_reducible assumption) | assumption)
                  have q160 : (ji47) < (l1.length : Int) := of_decide_eq_true (by first | (with_reducible assumption) | assumption)
                  obtain ⟨ad160, e160, hx160_0⟩ := Kd.at_string HR1.out (ji47) p160 q160
                  cases e160
                  replace hx160_0 := (HB.out.cell (World.block_lt_of_cell? w _ hx160_0)).trans hx160_0
                  replace p160 := eq_true p160
                  replace q160 := eq_true q160
                  try go_wp2_with (first | (go_at_call 24; (with_reducible refine (weirref26_Number.calls (rdOf ByteArray.empty l1 (ji47)) A5 0 l5 t161 _ ?side1 ?side2 A50.out).mono ?_); (case side1 => repeat (first | exact (Kd.C_below HR5.out HB.out) | (with_reducible refine Kd.C_alloc ?_ _) | (with_reducible refine Kd.C_drewN ?_ _) | (with_reducible refine Kd.C_drew ?_))); (case side2 => exact HC5.out); rintro e w' ⟨rfl, ⟨nd, rfl⟩⟩) | (go_at_call 25; (with_reducible refine (weirref26_ends.calls t161 t162 _ A51.out).mono ?_); rintro e w' ⟨rfl, ⟨nd, rfl⟩⟩) | (go_at_call 26; (with_reducible refine (weirref26_begins.calls x12_1 t163 _ A52.out).mono ?_); rintro e w' ⟨rfl, ⟨nd, rfl⟩⟩))
                  (try (rw [drewN_self wr]; generalize hq_ : World.drewN wr _ = wr; have n0_ : Aside0 (Below w.heap.size w wr) := ⟨by rw [← hq_]; exact (by repeat (first | (with_reducible first | exact HB.out | apply below_alloc | apply pw_below_drewN | apply below_drew1) | exact HB.out))⟩; clear HB hq_; have HB := n0_; clear n0_))
                  have n0_ := Aside0.mk (below_drew1 HB.out)
                  clear HB; have HB := n0_; clear n0_
                  have p170 : 0 ≤ (x12_1 : Int) := of_decide_eq_true (by first | (with_reducible assumption) | assumption)
                  have q170 : x12_1 < (l5.length : Int) := of_decide_eq_true (by first | (with_reducible assumption) | assumption)
                  have hx170_0 : w.cell? ⟨0, (x12_1).toNat, none⟩ = some (.string (rdOf ByteArray.empty l5 x12_1)) := by
                   obtain ⟨ad_, e_, h_⟩ := Kd.at_string HR5.out x12_1 p170 q170
                   rw [HC5.out] at e_
                   cases e_
                   rw [addr0] at h_
                   exact h_
                  have hwb_ : wb.cell? ⟨0, (x12_1).toNat, none⟩ = some (.string (rdOf ByteArray.empty l5 x12_1)) := by
                   obtain ⟨ad_, e_, h_⟩ := Kd.at_string HRT.out x12_1 p170 q170
                   cases e_
                   rw [addr0] at h_
                   exact h_
                  have c18_ : (x12_1 < 18) = True := eq_true (by have h_ := q170; rw [hl5] at h_; exact h_)
                  have hw170_0 := hx170_0
                  replace hx170_0 := (HB.out.cell (World.block_lt_of_cell? w _ hx170_0)).trans hx170_0
                  replace p170 := eq_true p170
                  replace q170 := eq_true q170
                  refine start_ (n := 13) (S := fun w' => w'.cell? ⟨0, (x12_1).toNat, none⟩ = some (.string (rdOf ByteArray.empty l5 x12_1))) (ds := []) #[false, false, false, false, false, false, false, false, false, false, false, false, false] (by kernel_rfl) rfl rfl (((HB.out.cell (World.block_lt_of_cell? w _ hw170_0)).trans hw170_0)) (fun hHeld => ?_); refine with_tabW weirref26_grow.tab14 weirref26_grow.bits14 (fun HT_ HW_ => ?_)
                  generalize wr.drew = w59 at HB hx170_0 hHeld ⊢
                  refine pure_ (i := 0) (N := some 85) (v := ?_) (a' := ?_) #[true, false, false, false, false, false, false, false, false, false, false, false, false] rfl rfl (any_of HT_.out (by kernel_rfl)) (fun _ _ _ h => h) (Or.inl ⟨by rfl, ?_⟩) ?_ ?_
                  rotate_left
                  ·intro w'
                   go_simp
                   with_reducible rfl
                  rotate_left
                  ·simp only [Act.put, List.setIfInBounds_toArray, List.set_cons_zero, List.set_cons_succ, i64_w, i32_w]
                   rfl
                  refine pure_ (i := 2) (N := some 87) (v := ?_) (a' := ?_) #[true, false, true, false, false, false, false, false, false, false, false, false, false] rfl rfl (any_of HT_.out (by kernel_rfl)) (fun _ _ _ h => h) (Or.inl ⟨by rfl, ?_⟩) ?_ ?_
                  rotate_left
                  ·intro w'
                   go_simp
                   with_reducible rfl
                  rotate_left
                  ·simp only [Act.put, List.setIfInBounds_toArray, List.set_cons_zero, List.set_cons_succ, i64_w, i32_w]
                   rfl
                  refine pure_ (i := 4) (N := some 89) (v := ?_) (a' := ?_) #[true, false, true, false, true, false, false, false, false, false, false, false, false] rfl rfl (any_of HT_.out (by kernel_rfl)) (fun _ _ _ h => h) (Or.inl ⟨by rfl, ?_⟩) ?_ ?_
                  rotate_left
                  ·intro w'
                   go_simp
                   with_reducible rfl
                  rotate_left
                  ·simp only [Act.put, List.setIfInBounds_toArray, List.set_cons_zero, List.set_cons_succ, i64_w, i32_w]
                   rfl
                  refine pure_ (i := 5) (N := some 90) (v := ?_) (a' := ?_) #[true, false, true, false, true, true, false, false, false, false, false, false, false] rfl rfl (any_of HT_.out (by kernel_rfl)) (fun _ _ _ h => h) (Or.inl ⟨by rfl, ?_⟩) ?_ ?_
                  rotate_left
                  ·intro w'
                   go_simp
                   with_reducible rfl
                  rotate_left
                  ·simp only [Act.put, List.setIfInBounds_toArray, List.set_cons_zero, List.set_cons_succ, i64_w, i32_w]
                   rfl
                  refine pure_ (i := 9) (N := some 94) (v := ?_) (a' := ?_) #[true, false, true, false, true, true, false, false, false, true, false, false, false] rfl rfl (any_of HT_.out (by kernel_rfl)) (fun _ _ _ h => h) (Or.inl ⟨by rfl, ?_⟩) ?_ ?_
                  rotate_left
                  ·intro w'
                   go_simp
                   with_reducible rfl
                  rotate_left
                  ·simp only [Act.put, List.setIfInBounds_toArray, List.set_cons_zero, List.set_cons_succ, i64_w, i32_w]
                   rfl
                  refine pure_ (i := 10) (N := some 95) (v := ?_) (a' := ?_) #[true, false, true, false, true, true, false, false, false, true, true, false, false] rfl rfl (any_of HT_.out (by kernel_rfl)) (fun _ _ _ h => h) (Or.inl ⟨by rfl, ?_⟩) ?_ ?_
                  rotate_left
                  ·intro w'
                   go_simp
                   with_reducible rfl
                  rotate_left
                  ·simp only [Act.put, List.setIfInBounds_toArray, List.set_cons_zero, List.set_cons_succ, i64_w, i32_w]
                   rfl
                  refine pure_ (i := 11) (N := some 96) (v := ?_) (a' := ?_) #[true, false, true, false, true, true, false, false, false, true, true, true, false] rfl rfl (any_of HT_.out (by kernel_rfl)) (fun _ _ _ h => h) (Or.inl ⟨by rfl, ?_⟩) ?_ ?_
                  rotate_left
                  ·intro w'
                   go_simp
                   with_reducible rfl
                  rotate_left
                  ·simp only [Act.put, List.setIfInBounds_toArray, List.set_cons_zero, List.set_cons_succ, i64_w, i32_w]
                   rfl
                  refine take_ (i := 6) (N := some 91) (v := ?_) (a' := ?_) #[true, false, true, false, true, true, true, false, false, true, true, true, false] rfl rfl (take_ofW HT_.out HW_.out (by kernel_rfl)) (fun _ _ _ h => h) (Or.inl ⟨by rfl, ?_⟩) hHeld ?_ ?_
                  rotate_left
                  ·intro w' s0
                   go_simp
                   with_reducible rfl
                  rotate_left
                  ·simp only [Act.put, List.setIfInBounds_toArray, List.set_cons_zero, List.set_cons_succ, i64_w, i32_w]
                   rfl
                  refine join_ (σ := Value × Value × Value) 2 #[true, true, true, true, true, true, true, true, false, true, true, true, false] (fun s_ => [(86, s_.1), (88, s_.2.1), (92, s_.2.2)]) (fun s_ w' => (w'.cell? ⟨0, (x12_1).toNat, none⟩ = some (.string (rdOf ByteArray.empty l5 x12_1))) ∧ (Kd.R Kd.string 9 w' w.heap.size (fun k_ => some k_ ≠ (s_.2.2 : Value).ownBlock) s_.2.1 y167) ∧ (Kd.R Kd.string 9 w' w.heap.size (fun k_ => some k_ ≠ (s_.2.1 : Value).ownBlock) s_.2.2 y171) ∧ (Below w.heap.size w w')) ?_ ?_
                  rotate_left
                  ·intro hCont
                   refine two_ (i := 1) (j := 7) (Ni := some 86) (Nj := some 92) #[true, true, true, false, true, true, true, false, false, true, true, true, false] #[true, false, true, false, true, true, true, true, false, true, true, true, false] rfl rfl rfl rfl (two_of HT_.out (by kernel_rfl)) (by decide) (by decide) (fun K hK => ?_) (fun K hK => ?_)
                   ·skip
                    refine Kd.R_lit_step Kd.string _ 9 ?hg (N := 86) ?hd (xs := ([] : List ByteArray)) (inner := []) (ok := fun _ => True) (okp := fun _ => True) ?hr ?hp (fun _ hk => hk) trivial (Below.refl _ _) (Nat.le_refl _) (by simp) ?_; (case hd => rfl); (case hg => rfl); (case hr => first | (go_simp; done) | (go_simp; rfl)); (case hp => exact (Reps.none _ _))
                    intro v165 w60 ho61 hb hg_ hnew_
                    clear hg_ hnew_
                    (first | rw [← Ny164.out] at ho61 | (simp only [Int.reduceToNat] at ho61; rw [← Ny164.out] at ho61))
                    have n0_ := Aside0.mk (Kd.R_lower ho61 (below_size (by repeat (first | (with_reducible first | exact HB.out | apply below_alloc | apply pw_below_drewN | apply below_drew1) | exact HB.out))))
                    have n1_ := Aside0.mk (below_step (by repeat (first | (with_reducible first | exact HB.out | apply below_alloc | apply pw_below_drewN | apply below_drew1) | exact HB.out)) hb)
                    clear HB; have HO166 := n0_; have HB := n1_; clear n0_ n1_; clear hb ho61
                    refine hK.out _ _ (((HB.out.cell (World.block_lt_of_cell? w _ hw170_0)).trans hw170_0)) (fun hHeld => ?_)
                    clear hK K
                    refine norm_ (a' := ?_) ?_ ?_
                    rotate_left
                    ·show Act.put _ (some 86) _ = _
                     simp only [Act.put, List.setIfInBounds_toArray, List.set_cons_zero, List.set_cons_succ, i64_w, i32_w]
                     rfl
                    refine two_ (i := 3) (j := 7) (Ni := some 88) (Nj := some 92) #[true, true, true, true, true, true, true, false, false, true, true, true, false] #[true, true, true, false, true, true, true, true, false, true, true, true, false] rfl rfl rfl rfl (two_of HT_.out (by kernel_rfl)) (by decide) (by decide) (fun K hK => ?_) (fun K hK => ?_)
                    ·skip
                     refine Kd.R_append_rows_step Kd.string (w0 := w) w.heap.size (by rfl) (.tmp 86) (.tmp 87) 22 9 (.string ⟨#[]⟩) 16 rfl Tryd.underlying22 info9 rfl (by decide) (by omega) v165 y164 l1 _ _ _ (fun _ => True) (fun _ => False) rfl rfl ?aO ?aR (fun _ _ h => h) (fun _ h => h.elim) ?aF ?aB ?aS ?aL ?_
                     (case aR => repeat (first | exact (Kd.C_below HR1.out HB.out) | (with_reducible refine Kd.C_alloc ?_ _) | (with_reducible refine Kd.C_drewN ?_ _) | (with_reducible refine Kd.C_drew ?_)))
                     (case aB => exact (by repeat (first | (with_reducible first | exact HB.out | apply below_alloc | apply pw_below_drewN | apply below_drew1) | exact HB.out)))
                     (case aF => exact (fun _ _ => trivial))
                     (case aO => exact (by (with_reducible repeat (first | apply Kd.R_alloc | apply Kd.R_drewN | apply Kd.R_drew)); exact HO166.out))
                     (case aS => exact (below_size (by repeat (first | (with_reducible first | exact HB.out | apply below_alloc | apply pw_below_drewN | apply below_drew1) | exact HB.out))))
                     (case aL => have := LMc54.out; omega)
                     intro v168 w62 ho hb hg hat
                     rw [← Ny167.out] at ho
                     have n0_ := Aside0.mk (hb)
                     have n1_ := Aside0.mk (ho)
                     clear HB; clear HO166; have HB := n0_; have HO169 := n1_; clear n0_ n1_; clear ho hb hg hat
                     refine hK.out _ _ (((HB.out.cell (World.block_lt_of_cell? w _ hw170_0)).trans hw170_0)) (fun hHeld => ?_)
                     clear hK K
                     refine norm_ (a' := ?_) ?_ ?_
                     rotate_left
                     ·show Act.put _ (some 88) _ = _
                      simp only [Act.put, List.setIfInBounds_toArray, List.set_cons_zero, List.set_cons_succ, i64_w, i32_w]
                      rfl
                     refine one_ (i := 7) (N := some 92) #[true, true, true, true, true, true, true, true, false, true, true, true, false] rfl rfl (one_of HT_.out (by kernel_rfl)) (by decide) (fun K hK => ?_)
                     refine Kd.R_lit_step Kd.string _ 9 ?hg (N := 92) ?hd (xs := ([rdOf ByteArray.empty l5 x12_1] : List ByteArray)) (inner := [.string (rdOf ByteArray.empty l5 x12_1)]) (ok := fun _ => True) (okp := fun _ => True) ?hr ?hp (fun _ hk => hk) trivial (Below.refl _ _) (Nat.le_refl _) (by simp) ?_; (case hd => rfl); (case hg => rfl); (case hr => first | (go_simp; done) | (go_simp; rfl)); (case hp => exact (Reps.one (show Kd.M Kd.string _ _ _ (rdOf ByteArray.empty l5 x12_1) [.string (rdOf ByteArray.empty l5 x12_1)] from rfl) (Reps.none _ _)))
                     intro v172 w63 ho64 hb hg_ hnew_
                     clear hg_ hnew_
                     (first | rw [← Ny171.out] at ho64 | (simp only [Int.reduceToNat] at ho64; rw [← Ny171.out] at ho64))
                     have n0_ := Aside0.mk (Kd.R_elder' (by (with_reducible repeat (first | apply Kd.R_alloc | apply Kd.R_drewN | apply Kd.R_drew)); exact HO169.out) (Kd.R_base ho64) hb)
                     have n1_ := Aside0.mk (Kd.R_lower (Kd.R_new' ho64 (Kd.R_lt (by (with_reducible repeat (first | apply Kd.R_alloc | apply Kd.R_drewN | apply Kd.R_drew)); exact HO169.out))) (below_size (by repeat (first | (with_reducible first | exact HB.out | apply below_alloc | apply pw_below_drewN | apply below_drew1) | exact HB.out))))
                     have n2_ := Aside0.mk (below_step (by repeat (first | (with_reducible first | exact HB.out | apply below_alloc | apply pw_below_drewN | apply below_drew1) | exact HB.out)) hb)
                     clear HO169; clear HB; have HO169 := n0_; have HO173 := n1_; have HB := n2_; clear n0_ n1_ n2_; clear hb ho64
                     refine hK.out _ _ (((HB.out.cell (World.block_lt_of_cell? w _ hw170_0)).trans hw170_0)) (fun hHeld => ?_)
                     clear hK K
                     refine norm_ (a' := ?_) ?_ ?_
                     rotate_left
                     ·show Act.put _ (some 92) _ = _
                      simp only [Act.put, List.setIfInBounds_toArray, List.set_cons_zero, List.set_cons_succ, i64_w, i32_w]
                      rfl
                     exact norm_ (by simp only [putAll, Act.put, List.setIfInBounds_toArray, List.set_cons_zero, List.set_cons_succ]) (hCont (v165, v168, v172) _ ⟨hHeld, (by (with_reducible repeat (first | apply Kd.R_alloc | apply Kd.R_drewN | apply Kd.R_drew)); exact Kd.R_mono HO169.out (fun _ hk => hk.2)), (by (with_reducible repeat (first | apply Kd.R_alloc | apply Kd.R_drewN | apply Kd.R_drew)); exact Kd.R_mono HO173.out (fun _ hk => hk.2)), (by repeat (first | (with_reducible first | exact HB.out | apply below_alloc | apply pw_below_drewN | apply below_drew1) | exact HB.out))⟩)
                    ·skip
                     refine Kd.R_lit_step Kd.string _ 9 ?hg (N := 92) ?hd (xs := ([rdOf ByteArray.empty l5 x12_1] : List ByteArray)) (inner := [.string (rdOf ByteArray.empty l5 x12_1)]) (ok := fun _ => True) (okp := fun _ => True) ?hr ?hp (fun _ hk => hk) trivial (Below.refl _ _) (Nat.le_refl _) (by simp) ?_; (case hd => rfl); (case hg => rfl); (case hr => first | (go_simp; done) | (go_simp; rfl)); (case hp => exact (Reps.one (show Kd.M Kd.string _ _ _ (rdOf ByteArray.empty l5 x12_1) [.string (rdOf ByteArray.empty l5 x12_1)] from rfl) (Reps.none _ _)))
                     intro v172 w62 ho63 hb hg_ hnew_
                     clear hg_ hnew_
                     (first | rw [← Ny171.out] at ho63 | (simp only [Int.reduceToNat] at ho63; rw [← Ny171.out] at ho63))
                     have n0_ := Aside0.mk (Kd.R_elder' (by (with_reducible repeat (first | apply Kd.R_alloc | apply Kd.R_drewN | apply Kd.R_drew)); exact HO166.out) (Kd.R_base ho63) hb)
                     have n1_ := Aside0.mk (Kd.R_lower (Kd.R_new' ho63 (Kd.R_lt (by (with_reducible repeat (first | apply Kd.R_alloc | apply Kd.R_drewN | apply Kd.R_drew)); exact HO166.out))) (below_size (by repeat (first | (with_reducible first | exact HB.out | apply below_alloc | apply pw_below_drewN | apply below_drew1) | exact HB.out))))
                     have n2_ := Aside0.mk (below_step (by repeat (first | (with_reducible first | exact HB.out | apply below_alloc | apply pw_below_drewN | apply below_drew1) | exact HB.out)) hb)
                     clear HO166; clear HB; have HO166 := n0_; have HO173 := n1_; have HB := n2_; clear n0_ n1_ n2_; clear hb ho63
                     refine hK.out _ _ (((HB.out.cell (World.block_lt_of_cell? w _ hw170_0)).trans hw170_0)) (fun hHeld => ?_)
                     clear hK K
                     refine norm_ (a' := ?_) ?_ ?_
                     rotate_left
                     ·show Act.put _ (some 92) _ = _
                      simp only [Act.put, List.setIfInBounds_toArray, List.set_cons_zero, List.set_cons_succ, i64_w, i32_w]
                      rfl
                     refine one_ (i := 3) (N := some 88) #[true, true, true, true, true, true, true, true, false, true, true, true, false] rfl rfl (one_of HT_.out (by kernel_rfl)) (by decide) (fun K hK => ?_)
                     refine Kd.R_append_rows_step Kd.string (w0 := w) w.heap.size (by rfl) (.tmp 86) (.tmp 87) 22 9 (.string ⟨#[]⟩) 16 rfl Tryd.underlying22 info9 rfl (by decide) (by omega) v165 y164 l1 _ _ _ (fun k_ => some k_ ≠ (v172 : Value).ownBlock) (fun _ => False) rfl rfl ?aO ?aR (fun _ _ h => h) (fun _ h => h.elim) ?aF ?aB ?aS ?aL ?_
                     (case aR => repeat (first | exact (Kd.C_below HR1.out HB.out) | (with_reducible refine Kd.C_alloc ?_ _) | (with_reducible refine Kd.C_drewN ?_ _) | (with_reducible refine Kd.C_drew ?_)))
                     (case aB => exact (by repeat (first | (with_reducible first | exact HB.out | apply below_alloc | apply pw_below_drewN | apply below_drew1) | exact HB.out)))
                     (case aF => exact (fun k_ hk => Kd.fresh' (Kd.R_lt (by (with_reducible repeat (first | apply Kd.R_alloc | apply Kd.R_drewN | apply Kd.R_drew)); exact HO173.out)) k_ hk))
                     (case aO => exact (by (with_reducible repeat (first | apply Kd.R_alloc | apply Kd.R_drewN | apply Kd.R_drew)); exact Kd.R_mono HO166.out (fun _ hk => hk.2)))
                     (case aS => exact (below_size (by repeat (first | (with_reducible first | exact HB.out | apply below_alloc | apply pw_below_drewN | apply below_drew1) | exact HB.out))))
                     (case aL => have := LMc54.out; omega)
                     intro v168 w64 ho hb hg hat
                     rw [← Ny167.out] at ho
                     have n0_ := Aside0.mk (Kd.R_after (ok := (fun _ => True)) (by (with_reducible repeat (first | apply Kd.R_alloc | apply Kd.R_drewN | apply Kd.R_drew)); exact HO173.out) hg hat)
                     have n1_ := Aside0.mk (hb)
                     have n2_ := Aside0.mk (ho)
                     clear HO173; clear HB; clear HO166; have HO173 := n0_; have HB := n1_; have HO169 := n2_; clear n0_ n1_ n2_; clear ho hb hg hat
                     refine hK.out _ _ (((HB.out.cell (World.block_lt_of_cell? w _ hw170_0)).trans hw170_0)) (fun hHeld => ?_)
                     clear hK K
                     refine norm_ (a' := ?_) ?_ ?_
                     rotate_left
                     ·show Act.put _ (some 88) _ = _
                      simp only [Act.put, List.setIfInBounds_toArray, List.set_cons_zero, List.set_cons_succ, i64_w, i32_w]
                      rfl
                     exact norm_ (by simp only [putAll, Act.put, List.setIfInBounds_toArray, List.set_cons_zero, List.set_cons_succ]) (hCont (v165, v168, v172) _ ⟨hHeld, (by (with_reducible repeat (first | apply Kd.R_alloc | apply Kd.R_drewN | apply Kd.R_drew)); exact HO169.out), (by (with_reducible repeat (first | apply Kd.R_alloc | apply Kd.R_drewN | apply Kd.R_drew)); exact Kd.R_mono HO173.out (fun _ hk => hk.2)), (by repeat (first | (with_reducible first | exact HB.out | apply below_alloc | apply pw_below_drewN | apply below_drew1) | exact HB.out))⟩)
                   ·skip
                    refine Kd.R_lit_step Kd.string _ 9 ?hg (N := 92) ?hd (xs := ([rdOf ByteArray.empty l5 x12_1] : List ByteArray)) (inner := [.string (rdOf ByteArray.empty l5 x12_1)]) (ok := fun _ => True) (okp := fun _ => True) ?hr ?hp (fun _ hk => hk) trivial (Below.refl _ _) (Nat.le_refl _) (by simp) ?_; (case hd => rfl); (case hg => rfl); (case hr => first | (go_simp; done) | (go_simp; rfl)); (case hp => exact (Reps.one (show Kd.M Kd.string _ _ _ (rdOf ByteArray.empty l5 x12_1) [.string (rdOf ByteArray.empty l5 x12_1)] from rfl) (Reps.none _ _)))
                    intro v172 w60 ho61 hb hg_ hnew_
                    clear hg_ hnew_
                    (first | rw [← Ny171.out] at ho61 | (simp only [Int.reduceToNat] at ho61; rw [← Ny171.out] at ho61))
                    have n0_ := Aside0.mk (Kd.R_lower ho61 (below_size (by repeat (first | (with_reducible first | exact HB.out | apply below_alloc | apply pw_below_drewN | apply below_drew1) | exact HB.out))))
                    have n1_ := Aside0.mk (below_step (by repeat (first | (with_reducible first | exact HB.out | apply below_alloc | apply pw_below_drewN | apply below_drew1) | exact HB.out)) hb)
                    clear HB; have HO173 := n0_; have HB := n1_; clear n0_ n1_; clear hb ho61
                    refine hK.out _ _ (((HB.out.cell (World.block_lt_of_cell? w _ hw170_0)).trans hw170_0)) (fun hHeld => ?_)
                    clear hK K
                    refine norm_ (a' := ?_) ?_ ?_
                    rotate_left
                    ·show Act.put _ (some 92) _ = _
                     simp only [Act.put, List.setIfInBounds_toArray, List.set_cons_zero, List.set_cons_succ, i64_w, i32_w]
                     rfl
                    refine one_ (i := 1) (N := some 86) #[true, true, true, false, true, true, true, true, false, true, true, true, false] rfl rfl (one_of HT_.out (by kernel_rfl)) (by decide) (fun K hK => ?_)
                    refine Kd.R_lit_step Kd.string _ 9 ?hg (N := 86) ?hd (xs := ([] : List ByteArray)) (inner := []) (ok := fun _ => True) (okp := fun _ => True) ?hr ?hp (fun _ hk => hk) trivial (Below.refl _ _) (Nat.le_refl _) (by simp) ?_; (case hd => rfl); (case hg => rfl); (case hr => first | (go_simp; done) | (go_simp; rfl)); (case hp => exact (Reps.none _ _))
                    intro v165 w62 ho63 hb hg_ hnew_
                    clear hg_ hnew_
                    (first | rw [← Ny164.out] at ho63 | (simp only [Int.reduceToNat] at ho63; rw [← Ny164.out] at ho63))
                    have n0_ := Aside0.mk (Kd.R_elder' (by (with_reducible repeat (first | apply Kd.R_alloc | apply Kd.R_drewN | apply Kd.R_drew)); exact HO173.out) (Kd.R_base ho63) hb)
                    have n1_ := Aside0.mk (Kd.R_lower (Kd.R_new' ho63 (Kd.R_lt (by (with_reducible repeat (first | apply Kd.R_alloc | apply Kd.R_drewN | apply Kd.R_drew)); exact HO173.out))) (below_size (by repeat (first | (with_reducible first | exact HB.out | apply below_alloc | apply pw_below_drewN | apply below_drew1) | exact HB.out))))
                    have n2_ := Aside0.mk (below_step (by repeat (first | (with_reducible first | exact HB.out | apply below_alloc | apply pw_below_drewN | apply below_drew1) | exact HB.out)) hb)
                    clear HO173; clear HB; have HO173 := n0_; have HO166 := n1_; have HB := n2_; clear n0_ n1_ n2_; clear hb ho63
                    refine hK.out _ _ (((HB.out.cell (World.block_lt_of_cell? w _ hw170_0)).trans hw170_0)) (fun hHeld => ?_)
                    clear hK K
                    refine norm_ (a' := ?_) ?_ ?_
                    rotate_left
                    ·show Act.put _ (some 86) _ = _
                     simp only [Act.put, List.setIfInBounds_toArray, List.set_cons_zero, List.set_cons_succ, i64_w, i32_w]
                     rfl
                    refine one_ (i := 3) (N := some 88) #[true, true, true, true, true, true, true, true, false, true, true, true, false] rfl rfl (one_of HT_.out (by kernel_rfl)) (by decide) (fun K hK => ?_)
                    refine Kd.R_append_rows_step Kd.string (w0 := w) w.heap.size (by rfl) (.tmp 86) (.tmp 87) 22 9 (.string ⟨#[]⟩) 16 rfl Tryd.underlying22 info9 rfl (by decide) (by omega) v165 y164 l1 _ _ _ (fun k_ => some k_ ≠ (v172 : Value).ownBlock) (fun _ => False) rfl rfl ?aO ?aR (fun _ _ h => h) (fun _ h => h.elim) ?aF ?aB ?aS ?aL ?_
                    (case aR => repeat (first | exact (Kd.C_below HR1.out HB.out) | (with_reducible refine Kd.C_alloc ?_ _) | (with_reducible refine Kd.C_drewN ?_ _) | (with_reducible refine Kd.C_drew ?_)))
                    (case aB => exact (by repeat (first | (with_reducible first | exact HB.out | apply below_alloc | apply pw_below_drewN | apply below_drew1) | exact HB.out)))
                    (case aF => exact (fun k_ hk => Kd.fresh' (Kd.R_lt (by (with_reducible repeat (first | apply Kd.R_alloc | apply Kd.R_drewN | apply Kd.R_drew)); exact HO173.out)) k_ hk))
                    (case aO => exact (by (with_reducible repeat (first | apply Kd.R_alloc | apply Kd.R_drewN | apply Kd.R_drew)); exact Kd.R_mono HO166.out (fun _ hk => hk.2)))
                    (case aS => exact (below_size (by repeat (first | (with_reducible first | exact HB.out | apply below_alloc | apply pw_below_drewN | apply below_drew1) | exact HB.out))))
                    (case aL => have := LMc54.out; omega)
                    intro v168 w64 ho hb hg hat
                    rw [← Ny167.out] at ho
                    have n0_ := Aside0.mk (Kd.R_after (ok := (fun _ => True)) (by (with_reducible repeat (first | apply Kd.R_alloc | apply Kd.R_drewN | apply Kd.R_drew)); exact HO173.out) hg hat)
                    have n1_ := Aside0.mk (hb)
                    have n2_ := Aside0.mk (ho)
                    clear HO173; clear HB; clear HO166; have HO173 := n0_; have HB := n1_; have HO169 := n2_; clear n0_ n1_ n2_; clear ho hb hg hat
                    refine hK.out _ _ (((HB.out.cell (World.block_lt_of_cell? w _ hw170_0)).trans hw170_0)) (fun hHeld => ?_)
                    clear hK K
                    refine norm_ (a' := ?_) ?_ ?_
                    rotate_left
                    ·show Act.put _ (some 88) _ = _
                     simp only [Act.put, List.setIfInBounds_toArray, List.set_cons_zero, List.set_cons_succ, i64_w, i32_w]
                     rfl
                    exact norm_ (by simp only [putAll, Act.put, List.setIfInBounds_toArray, List.set_cons_zero, List.set_cons_succ]) (hCont (v165, v168, v172) _ ⟨hHeld, (by (with_reducible repeat (first | apply Kd.R_alloc | apply Kd.R_drewN | apply Kd.R_drew)); exact HO169.out), (by (with_reducible repeat (first | apply Kd.R_alloc | apply Kd.R_drewN | apply Kd.R_drew)); exact Kd.R_mono HO173.out (fun _ hk => hk.2)), (by repeat (first | (with_reducible first | exact HB.out | apply below_alloc | apply pw_below_drewN | apply below_drew1) | exact HB.out))⟩)
                  rintro ⟨v165, v168, v172⟩ w65 ⟨hS_, h0_, h1_, h2_⟩
                  have n0_ : Aside0 (Kd.R Kd.string 9 w65 w.heap.size (fun k_ => some k_ ≠ (v172 : Value).ownBlock) v168 y167) := ⟨h0_⟩
                  have n1_ : Aside0 (Kd.R Kd.string 9 w65 w.heap.size (fun k_ => some k_ ≠ (v168 : Value).ownBlock) v172 y171) := ⟨h1_⟩
                  have n2_ : Aside0 (Below w.heap.size w w65) := ⟨h2_⟩
                  clear HB; clear h0_ h1_ h2_; have HO169 := n0_; have HO173 := n1_; have HB := n2_; clear n0_ n1_ n2_
                  have hHeld : w65.cell? ⟨0, (x12_1).toNat, none⟩ = some (.string (rdOf ByteArray.empty l5 x12_1)) := hS_
                  obtain ⟨Ao67, co67, eo67⟩ := Kd.R_slice HO173.out
                  (first | subst eo67 | (injection eo67 with f1_ f2_ f3_; have f4_ := f1_.symm; have f5_ := f3_.symm; clear f1_ f2_ f3_; subst f4_; subst f5_))
                  refine norm_ (a' := ?_) ?_ ?_
                  rotate_left
                  ·simp only [putAll, Act.put, List.setIfInBounds_toArray, List.set_cons_zero, List.set_cons_succ]
                   rfl
                  refine one_ (i := 8) (N := some 93) #[true, true, true, true, true, true, true, true, true, true, true, true, false] rfl rfl (one_of HT_.out (by kernel_rfl)) (by decide) (fun K hK => ?_)
                  refine Kd.R_append_rows_step Kd.string (w0 := w) w.heap.size (by rfl) (.tmp 88) (.tmp 92) 22 9 (.string ⟨#[]⟩) 16 rfl Tryd.underlying22 info9 rfl (by decide) (by omega) v168 y167 y171 _ _ _ (fun k_ => some k_ ≠ (.slice Ao67 y171.length co67 : Value).ownBlock) (fun _ => False) rfl rfl ?aO ?aR (fun _ _ h => h) (fun _ h => h.elim) ?aF ?aB ?aS ?aL ?_
                  (case aR => repeat (first | exact (Kd.R_reads' HO173.out).2.2 | (with_reducible refine Kd.C_alloc ?_ _) | (with_reducible refine Kd.C_drewN ?_ _) | (with_reducible refine Kd.C_drew ?_)))
                  (case aB => exact (by repeat (first | (with_reducible first | exact HB.out | apply below_alloc | apply pw_below_drewN | apply below_drew1) | exact HB.out)))
                  (case aF => exact (fun k_ hk => Kd.fresh' (Kd.R_lt (by (with_reducible repeat (first | apply Kd.R_alloc | apply Kd.R_drewN | apply Kd.R_drew)); exact HO173.out)) k_ hk))
                  (case aO => exact (by (with_reducible repeat (first | apply Kd.R_alloc | apply Kd.R_drewN | apply Kd.R_drew)); exact HO169.out))
                  (case aS => exact (below_size (by repeat (first | (with_reducible first | exact HB.out | apply below_alloc | apply pw_below_drewN | apply below_drew1) | exact HB.out))))
                  (case aL => have := LMc57.out; omega)
                  intro v175 w66 ho hb hg hat
                  rw [← Ny174.out] at ho
                  have n0_ := Aside0.mk (Kd.R_after (ok := (fun _ => True)) (by (with_reducible repeat (first | apply Kd.R_alloc | apply Kd.R_drewN | apply Kd.R_drew)); exact Kd.R_mono HO173.out (fun _ hk => ⟨trivial, hk⟩)) hg hat)
                  have n1_ := Aside0.mk (hb)
                  have n2_ := Aside0.mk (ho)
                  clear HO173; clear HB; clear HO169; have HO173 := n0_; have HB := n1_; have HO176 := n2_; clear n0_ n1_ n2_; clear ho hb hg hat
                  obtain ⟨Ao68, co68, eo68⟩ := Kd.R_slice HO176.out
                  (first | subst eo68 | (injection eo68 with f1_ f2_ f3_; have f4_ := f1_.symm; have f5_ := f3_.symm; clear f1_ f2_ f3_; subst f4_; subst f5_))
                  refine hK.out _ _ (((HB.out.cell (World.block_lt_of_cell? w _ hw170_0)).trans hw170_0)) (fun hHeld => ?_)
                  clear hK K
                  refine norm_ (a' := ?_) ?_ ?_
                  rotate_left
                  ·show Act.put _ (some 93) _ = _
                   simp only [Act.put, List.setIfInBounds_toArray, List.set_cons_zero, List.set_cons_succ, i64_w, i32_w]
                   rfl
                  refine one_ (i := 12) (N := some 97) #[true, true, true, true, true, true, true, true, true, true, true, true, true] rfl rfl (one_of HT_.out (by kernel_rfl)) (by decide) (fun K hK => ?_)
                  refine goes_ Tryd.func39 (by kernel_rfl) rfl #[.slice A0 l0.length c0, .slice Ao68 y174.length co68, .int .i64 a2, .int .i64 a3, .pointer (some ⟨Bo, 0, none⟩)] (by rfl) rfl rfl (by (try simp only [List.map_toArray, List.map_cons, List.map_nil]); first | done | rfl | (simp only [List.length_drop, List.length_take]; rfl)) ?_
                  have ho0_ := Kd.R_lower (base' := 0) HO176.out (Nat.zero_le _)
                  refine (ih k2 (by have := HK1.out; have := HK2.out; omega) _ _ y174 a4 z_ _ ?side3 ?side4 ?side5 ?side6 A58.out).mono ?_
                  (case side3 => exact CT.of_R (by (with_reducible repeat (first | apply Kd.R_alloc | apply Kd.R_drewN | apply Kd.R_drew)); exact HO176.out))
                  (case side4 => exact (Kd.R_reads' HO176.out).2.1)
                  (case side5 => exact HBW.out.trans ((show Below w.heap.size w _ from by repeat (first | (with_reducible first | exact HB.out | apply below_alloc | apply pw_below_drewN | apply below_drew1) | exact HB.out)).mono HBW.out.size))
                  (case side6 => exact HO.out.below (by repeat (first | (with_reducible first | exact HB.out | apply below_alloc | apply pw_below_drewN | apply below_drew1) | exact HB.out)))
                  rintro e w69 ⟨rfl, hkp_, hbw_, hob_⟩
                  refine ⟨_, rfl, ?_⟩
                  refine hK.out _ _ ((hbw_.cell (World.block_lt_of_cell? wb _ hwb_)).trans hwb_) (fun hHeld => ?_)
                  clear hK K
                  refine norm_ (a' := ?_) ?_ ?_
                  rotate_left
                  ·show Act.put _ (some 97) _ = _
                   simp only [Act.put, List.setIfInBounds_toArray, List.set_cons_zero, List.set_cons_succ, i64_w, i32_w]
                   rfl
                  refine done_ (done_of HT_.out (by kernel_rfl)) ?_
                  try go_wp2
                  go_roundg k2
                  case measure => have := HK1.out; have := HK2.out; omega
                  case rel => exact ⟨(wrap64 (x12_1 + 1)), z_, (by first | rfl | (simp; done) | (simp [*]; done)), H', ⟨by have := HK1.out; have := HK2.out; omega⟩, ⟨hob_⟩, ⟨str_keep (HX1.out.below HB.out) hkp_⟩, ⟨hbw_⟩, ⟨HKp.out.trans ((Keep.of_below (by repeat (first | (with_reducible first | exact HB.out | apply below_alloc | apply pw_below_drewN | apply below_drew1) | exact HB.out))).trans hkp_)⟩⟩
                 ·rw [if_neg c57] at H
                  exact absurd H (by simp)
                ·rw [if_neg c56] at H
                 exact absurd H (by simp)
               ·rw [if_neg c55] at H
                exact absurd H (by simp)
              ·rw [if_neg c54] at H
               exact absurd H (by simp)
             ·rw [if_neg c53] at H
              have c53b0 : (t162 == t163) = false := beq_eq_false_iff_ne.mpr c53
              have c53b1 : (t162 != t163) = true := bne_iff_ne.mpr c53
              have H' := Aside0.mk H
              clear H
              have p160 : 0 ≤ ((ji47) : Int) := of_decide_eq_true (by first | (with_reducible assumption) | assumption)
              have q160 : (ji47) < (l1.length : Int) := of_decide_eq_true (by first | (with_reducible assumption) | assumption)
              obtain ⟨ad160, e160, hx160_0⟩ := Kd.at_string HR1.out (ji47) p160 q160
              cases e160
              replace hx160_0 := (HB.out.cell (World.block_lt_of_cell? w _ hx160_0)).trans hx160_0
              replace p160 := eq_true p160
              replace q160 := eq_true q160
              go_wp2_with (first | (go_at_call 24; (with_reducible refine (weirref26_Number.calls (rdOf ByteArray.empty l1 (ji47)) A5 0 l5 t161 _ ?side1 ?side2 A50.out).mono ?_); (case side1 => repeat (first | exact (Kd.C_below HR5.out HB.out) | (with_reducible refine Kd.C_alloc ?_ _) | (with_reducible refine Kd.C_drewN ?_ _) | (with_reducible refine Kd.C_drew ?_))); (case side2 => exact HC5.out); rintro e w' ⟨rfl, ⟨nd, rfl⟩⟩) | (go_at_call 25; (with_reducible refine (weirref26_ends.calls t161 t162 _ A51.out).mono ?_); rintro e w' ⟨rfl, ⟨nd, rfl⟩⟩) | (go_at_call 26; (with_reducible refine (weirref26_begins.calls x12_1 t163 _ A52.out).mono ?_); rintro e w' ⟨rfl, ⟨nd, rfl⟩⟩))
              go_roundg k2
              case measure => have := HK1.out; have := HK2.out; omega
              case rel => exact ⟨(wrap64 (x12_1 + 1)), a4, (by first | rfl | (simp; done) | (simp [*]; done)), H', ⟨by have := HK1.out; have := HK2.out; omega⟩, ⟨HO.out.below (by repeat (first | (with_reducible first | exact HB.out | apply below_alloc | apply pw_below_drewN | apply below_drew1) | exact HB.out))⟩, ⟨HX1.out.below (by repeat (first | (with_reducible first | exact HB.out | apply below_alloc | apply pw_below_drewN | apply below_drew1) | exact HB.out))⟩, ⟨HBW.out.trans ((show Below w.heap.size w _ from by repeat (first | (with_reducible first | exact HB.out | apply below_alloc | apply pw_below_drewN | apply below_drew1) | exact HB.out)).mono HBW.out.size)⟩, ⟨HKp.out.trans (Keep.of_below (by repeat (first | (with_reducible first | exact HB.out | apply below_alloc | apply pw_below_drewN | apply below_drew1) | exact HB.out)))⟩⟩
            ·rw [if_neg c49] at H
             exact absurd H (by simp)
           ·rw [if_neg c48] at H
            exact absurd H (by simp)
         ·replace c29 := Bool.eq_false_iff.mpr c29
          subst c29
          have H1 : (weirref26_grow.l0 k2 l0 l1 a2 a3 a4 l5 (wrap64 (x12_1 + 1))) = some r := by rw [if_neg (show ¬ (false = true) by decide)] at H; exact H
          clear H
          have H := H1
          clear H1
          have H' := Aside0.mk H
          clear H
          go_wp2
          go_roundg k2
          case measure => have := HK1.out; have := HK2.out; omega
          case rel => exact ⟨(wrap64 (x12_1 + 1)), a4, (by first | rfl | (simp; done) | (simp [*]; done)), H', ⟨by have := HK1.out; have := HK2.out; omega⟩, ⟨HO.out.below (by repeat (first | (with_reducible first | exact HB.out | apply below_alloc | apply pw_below_drewN | apply below_drew1) | exact HB.out))⟩, ⟨HX1.out.below (by repeat (first | (with_reducible first | exact HB.out | apply below_alloc | apply pw_below_drewN | apply below_drew1) | exact HB.out))⟩, ⟨HBW.out.trans ((show Below w.heap.size w _ from by repeat (first | (with_reducible first | exact HB.out | apply below_alloc | apply pw_below_drewN | apply below_drew1) | exact HB.out)).mono HBW.out.size)⟩, ⟨HKp.out.trans (Keep.of_below (by repeat (first | (with_reducible first | exact HB.out | apply below_alloc | apply pw_below_drewN | apply below_drew1) | exact HB.out)))⟩⟩
     ·rw [if_neg c21] at H
      have c21b0 : decide (x12_1 < 18) = false := decide_eq_false c21
      clear c21
      go_wp2
      first | go_end0 | ((try simp only [Exit.inBlock, Exit.then]); refine bodyPost_ret (results_none rfl _ _ _) rfl ?_)
      obtain rfl := Option.some.inj H
      exact ⟨rfl, HKp.out.trans (Keep.of_below (by repeat (first | (with_reducible first | exact HB.out | apply below_alloc | apply pw_below_drewN | apply below_drew1) | exact HB.out))), HBW.out.trans ((show Below w.heap.size w _ from by repeat (first | (with_reducible first | exact HB.out | apply below_alloc | apply pw_below_drewN | apply below_drew1) | exact HB.out)).mono HBW.out.size), HO.out.below (by repeat (first | (with_reducible first | exact HB.out | apply below_alloc | apply pw_below_drewN | apply below_drew1) | exact HB.out))⟩
end Go.Proofs.YtjclpkddfpbdcaaDoor.Lay
