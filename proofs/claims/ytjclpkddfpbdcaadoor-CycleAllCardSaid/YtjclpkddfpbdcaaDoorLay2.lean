/-
 cycle.lay with a yield that keeps an invariant: all canonical forms that begin with some edges are handed to yield, in order, until it says no. The walk is xprint.py's over the kit's print, turned by mknode.py.
-/
import Derived.Test.YtjclpkddfpbdcaaDoorLay1
namespace Go.Proofs.YtjclpkddfpbdcaaDoor.Lay
open Go.RowKit Go.Proofs.YtjclpkddfpbdcaaDoorW.PrintWords Go.Proofs.YtjclpkddfpbdcaaDoorW.PrintLast Go.Proofs.YtjclpkddfpbdcaaDoorW.PrintMore Go.Proofs.YtjclpkddfpbdcaaDoor.XC
attribute [local go_sem] max2_int min2_int max_two min_two max_three min_three max_four min_four
set_option linter.unusedVariables false
set_option linter.unusedSimpArgs false

mutual
/-- What cycle.lay hands out. -/
def cycle_node.l0 : Nat → List Int → List Int → Int → List S79 → List Int → Int → Int → Option (List (List ByteArray))
 | 0, _, _, _, _, _, _, _ => none
 | k + 1, x0, x1, x2, x9, x51, x52, x53 => if x53 < x52 then (if 0 ≤ x53 then (if x53 < (x51.length : Int) then (if (x1.length : Int) > 0 then (if 0 ≤ (wrap64 ((x1.length : Int) - 1)) then (if (wrap64 ((x1.length : Int) - 1)) < (x1.length : Int) then (if 0 ≤ (rd x1 (wrap64 ((x1.length : Int) - 1))) then (if (rd x1 (wrap64 ((x1.length : Int) - 1))) < (x9.length : Int) then (if 0 ≤ (rd x51 x53) then (if (rd x51 x53) < (x9.length : Int) then (cycle_node.j2 k x0 x1 x2 x9 (rd x51 x53) x51 x52 x53 (((rd_T79 x9 (rd x1 (wrap64 ((x1.length : Int) - 1)))).f2) != ((rd_T79 x9 (rd x51 x53)).f1))) else (none)) else (none)) else (none)) else (none)) else (none)) else (none)) else (cycle_node.j2 k x0 x1 x2 x9 (rd x51 x53) x51 x52 x53 false)) else (none)) else (none)) else (some [])
def cycle_node.j2 : Nat → List Int → List Int → Int → List S79 → Int → List Int → Int → Int → Bool → Option (List (List ByteArray))
 | 0, _, _, _, _, _, _, _, _, _ => none
 | k + 1, x0, x1, x2, x9, x11, x51, x52, x53, x77 => if x77 = true then (cycle_node.l0 k x0 x1 x2 x9 x51 x52 (wrap64 (x53 + 1))) else ((slices_Clone_int_int.f x1).bind fun t171 => (if t171.length < 17592186044416 then ((cycle_node.f k x0 (t171 ++ [x11]) x2).bind fun t177 => (cycle_node.l0 k x0 x1 x2 x9 x51 x52 (wrap64 (x53 + 1))).bind fun u177 => some (t177 ++ u177)) else (none)))
def cycle_node.f : Nat → List Int → List Int → Int → Option (List (List ByteArray))
 | 0, _, _, _ => none
 | k + 1, l0, l1, a2 => if (l1.length : Int) = a2 then ((lay_leafF k l1 a2).bind fun b => if b = true then some [] else (cycle_named.f k l1).bind fun x => some [x]) else ((cycle_table.f k).bind fun t151 => cycle_node.l0 k l0 l1 a2 t151 l0 (l0.length : Int) 0)
end
theorem Yields.mono {l : Nat} {v : Value} {W : World} {Q Q' : Ending → World → Prop} (h : Yields l v W Q) (hq : ∀ e W', Q e W' → Q' e W') : Yields l v W Q' := by
 obtain ⟨a, b, c, d, e, f⟩ := h
 exact ⟨a, b, c, d, e, f.mono fun e W' hh => ⟨hh.1, hq _ _ hh.2⟩⟩
/-- Rows of lists of names, and the variable of such a row, may turn: nothing else. -/
def Keep (W W' : World) : Prop := W.heap.size ≤ W'.heap.size ∧ ∀ (k : Nat) (cells : Array Value) (t : Nat) (m : Nat × Nat), W.heap[k]? = some (Obj.cells cells t m) → t ≠ 22 → t ≠ 41 → W'.heap[k]? = some (Obj.cells cells t m)
theorem Keep.refl (W : World) : Keep W W := ⟨Nat.le_refl _, fun _ _ _ _ h _ _ => h⟩
theorem Keep.trans {W W1 W2 : World} (h : Keep W W1) (h1 : Keep W1 W2) : Keep W W2 := ⟨Nat.le_trans h.1 h1.1, fun k c t m hu ha hb => h1.2 k c t m (h.2 k c t m hu ha hb) ha hb⟩
theorem Keep.of_below {W W' : World} (h : Below W.heap.size W W') : Keep W W' := ⟨below_size h, fun k c t m hu _ _ => (h.block k (Array.getElem?_eq_some_iff.1 hu).1).trans hu⟩
/-- A row that is read, in a block of cells of type t. -/
def CT {α : Type} (d : Kd α) (t : Nat) (W : World) (A : Option Addr) (n : Nat) (xs : List α) : Prop := Kd.C d W A n xs ∧ ∀ ad, A = some ad → ∃ cells, W.heap[ad.block]? = some (.cells cells t (0, 0))
theorem C_keep {α : Type} {d : Kd α} {t : Nat} (h2 : t ≠ 22) (h4 : t ≠ 41) (hK : ∀ w w' x cs, d.K w x cs → d.K w' x cs) {W W' : World} {A : Option Addr} {n : Nat} {xs : List α} (h : CT d t W A n xs) (hk : Keep W W') : CT d t W' A n xs :=
 ⟨⟨h.1.1, h.1.2.1, fun hn => by
  obtain ⟨ad, e, hc⟩ := h.1.2.2 hn
  obtain ⟨cells, hb⟩ := h.2 ad e
  have hb' := hk.2 _ _ _ _ hb h2 h4
  refine ⟨ad, e, fun j p hj => ?_⟩
  obtain ⟨c, hl, hr, hcell⟩ := hc j p hj
  refine ⟨c, hl, hK _ _ _ _ hr, fun i u hu => ?_⟩
  rw [← hcell i u hu]
  exact World.cell?_of_block (by have e9 : (ad.add (j * d.sz + i)).block = ad.block := (by first | rfl | (unfold Addr.add; split <;> rfl) | simp [Addr.add]); rw [e9]; exact hb'.trans hb.symm)⟩, fun ad e => by
  obtain ⟨cells, hb⟩ := h.2 ad e
  exact ⟨cells, hk.2 _ _ _ _ hb h2 h4⟩⟩
theorem CT.below {α : Type} {d : Kd α} {t : Nat} {W W' : World} {A : Option Addr} {n : Nat} {xs : List α} (h : CT d t W A n xs) (hb : Below W.heap.size W W') : CT d t W' A n xs :=
 ⟨Kd.C_below h.1 hb, fun ad e => by
  obtain ⟨cells, hc⟩ := h.2 ad e
  exact ⟨cells, (hb.block _ (Array.getElem?_eq_some_iff.1 hc).1).trans hc⟩⟩
theorem CT.of_R {α : Type} {d : Kd α} {t : Nat} {W : World} {base : Nat} {ok : Nat → Prop} {A : Option Addr} {n c : Nat} {xs : List α} (h : Kd.R d t W base ok (.slice A n c) xs) : CT d t W A xs.length xs := by
 obtain ⟨A', c', e, _, hc⟩ := Kd.R_reads h
 injection e with e1 e2 e3
 subst e1
 refine ⟨hc, fun ad e => ?_⟩
 obtain ⟨inner, ho⟩ := Kd.R_own h
 subst e
 exact own_typed ho ad.block (by simp [Value.ownBlock])
theorem int_keep {W W' : World} {A : Option Addr} {n : Nat} {xs : List Int} (h : CT (Kd.int .i64) 3 W A n xs) (hk : Keep W W') : CT (Kd.int .i64) 3 W' A n xs := C_keep (by decide) (by decide) (fun _ _ _ _ h => h) h hk
theorem k79_keep {W W' : World} {A : Option Addr} {n : Nat} {xs : List S79} (h : CT k79 79 W A n xs) (hk : Keep W W') : CT k79 79 W' A n xs := C_keep (by decide) (by decide) (fun _ _ _ _ h => h) h hk
def cycle_lay.T10 : Bool × List (List Nat × List Nat) := (true, [([], []), ([0], [0]), ([1], [1]), ([2], [2]), ([2], [2]), ([2], [2]), ([5, 2], [2, 5]), ([4, 6, 2], [2, 4, 6]), ([7, 2], [2, 7]), ([3, 8, 2], [2, 3, 8]), ([9, 2], [2, 9]), ([10, 2], [2, 10]), ([2], [2]), ([2], [2]), ([12, 13, 2], [2, 12, 13]), ([14, 2], [2, 14]), ([15, 2], [2, 15]), ([11, 16, 2], [2, 11, 16]), ([2, 17], [2, 17])])
def cycle_lay.B10 : List Nat := [0, 1, 3, 7, 7, 7, 39, 119, 247, 511, 1023, 2047, 7, 7, 12295, 28679, 61447, 131071, 262143]
theorem cycle_lay.tab10 : rtab .any (opsOf Tryd.f37 10) = cycle_lay.T10 := by kernel_rfl
theorem cycle_lay.bits10 : waitsOk cycle_lay.T10.2 cycle_lay.B10 = true := by kernel_rfl
/-- How cycle.lay ends. -/
def NodeEnd (J Jx : List (List ByteArray) → World → Prop) (acc r : List (List ByteArray)) (w : World) (e : Ending) (W' : World) : Prop := Keep w W' ∧ ∃ b : Bool, e = .returned (.bool b) ∧ (b = true → J (acc ++ r) W') ∧ (b = false → ∃ p q, r = p ++ q ∧ p ≠ [] ∧ Jx (acc ++ p) W')
set_option maxHeartbeats 8000000 in
set_option maxRecDepth 100000 in
theorem lay_node (l : Nat) (J Jx : List (List ByteArray) → World → Prop) (hst : ∀ acc W W', J acc W → Below W.heap.size W W' → J acc W')
  (hy : ∀ acc x W0 W v, J acc W0 → Below W0.heap.size W0 W → Kd.R Kd.string 9 W W0.heap.size (fun _ => True) v x → (∀ k_, v.ownBlock = some k_ → W0.heap.size ≤ k_) → Yields l v W fun e W' => Keep W W' ∧ ((e = .returned (.bool true) ∧ J (acc ++ [x]) W') ∨ (e = .returned (.bool false) ∧ Jx (acc ++ [x]) W')))
  (k : Nat) : ∀ (A0 : Option Addr) (c0 : Nat) (l0 : List Int) (A1 : Option Addr) (c1 : Nat) (l1 : List Int) (a2 : Int) (r acc : List (List ByteArray)) (w : World) (hr0 : CT (Kd.int .i64) 3 w A0 l0.length l0) (hc0 : l0.length ≤ c0) (hr1 : CT (Kd.int .i64) 3 w A1 l1.length l1) (hc1 : l1.length ≤ c1) (hj : J acc w) (h : cycle_node.f k l0 l1 a2 = some r),
  Calls Tryd.prog 37 #[.slice A0 l0.length c0, .slice A1 l1.length c1, .int .i64 a2, .func (.yield l) #[] #[]] w (NodeEnd J Jx acc r w) := by
 induction k using Nat.strongRecOn with
 | _ k ih =>
 intro A0 c0 l0 A1 c1 l1 a2 r acc w hr0 hc0 hr1 hc1 hj h
 cases k with
 | zero => exact absurd h (by simp [cycle_node.f])
 | succ k =>
 simp only [cycle_node.f] at h
 have HX0 := Aside0.mk hr0
 have HR0 := Aside0.mk hr0.1
 have HC0 := Aside0.mk hc0
 clear hr0 hc0
 have HX1 := Aside0.mk hr1
 have HR1 := Aside0.mk hr1.1
 have HC1 := Aside0.mk hc1
 clear hr1 hc1
 have HJ := Aside0.mk hj
 have HST := Aside0.mk hst
 have HY := Aside0.mk hy
 clear hj hst hy
 have H := h
 clear h
 by_cases c6 : (l1.length : Int) = a2
 ·rw [if_pos c6] at H
  obtain ⟨b, hb, H⟩ := Option.bind_eq_some_iff.mp H
  refine lay_leaf k A0 c0 l0 A1 c1 l1 a2 l _ b w HR1.out HC1.out c6 hb (fun e W hW => ?_) (fun e => ?_)
  ·subst e
   obtain rfl := Option.some.inj H
   exact ⟨Keep.of_below hW, true, rfl, fun _ => (by rw [List.append_nil]; exact HST.out _ _ _ HJ.out hW), fun e => by cases e⟩
  ·subst e
   obtain ⟨nm, hnm, H⟩ := Option.bind_eq_some_iff.mp (show ((cycle_named.f k l1).bind fun x => some [x]) = some r from H)
   obtain rfl := Option.some.inj H
   refine ⟨k, nm, hnm, fun W v hW hv hk_ => Yields.mono (HY.out acc nm w W v HJ.out hW hv hk_) fun e W' hq => ?_⟩
   obtain ⟨hkp, ⟨rfl, hq⟩ | ⟨rfl, hq⟩⟩ := hq
   ·exact ⟨(Keep.of_below hW).trans hkp, true, rfl, (fun _ => hq), (fun e => by cases e)⟩
   ·exact ⟨(Keep.of_below hW).trans hkp, false, rfl, (fun e => by cases e), fun _ => ⟨[nm], [], rfl, by simp, hq⟩⟩
 ·rw [if_neg c6] at H
  obtain ⟨t151, A50, H⟩ := Option.bind_eq_some_iff.mp H
  have A5 := Aside0.mk A50
  clear A50
  have HB := Aside0.mk (Below.refl w.heap.size w)
  have c6b0 : ((l1.length : Int) == a2) = false := beq_eq_false_iff_ne.mpr c6
  have c6b1 : ((l1.length : Int) != a2) = true := bne_iff_ne.mpr c6
  have H' := Aside0.mk H
  clear H
  go_enter Tryd.func37, Tryd.ntmps37
  go_wp2_with (first | ((with_reducible refine gate_callee (f := 40) rfl ?_); refine goesL_ (some 13) rfl rfl Tryd.func40 (by kernel_rfl) rfl #[] rfl (by (try simp only [List.map_toArray, List.map_cons, List.map_nil]); first | done | rfl | (simp only [List.length_drop, List.length_take]; rfl)) ?_; (with_reducible refine (cycle_table.calls k  t151 _ A5.out).mono ?_); rintro e w38 ⟨v152, rfl, ho0, hb⟩; refine ⟨_, rfl, ?_⟩; have n0_ := Aside0.mk (Kd.R_lower ho0 (below_size (by repeat (first | (with_reducible first | exact HB.out | apply below_alloc | apply pw_below_drewN | apply below_drew1) | exact HB.out)))); have n1_ := Aside0.mk (below_step (by repeat (first | (with_reducible first | exact HB.out | apply below_alloc | apply pw_below_drewN | apply below_drew1) | exact HB.out)) hb); clear HB; have HO153 := n0_; have HB := n1_; clear n0_ n1_; (try clear hb); (try clear hb2); (try clear hk); (try clear hi); (try clear ho0)))
  obtain ⟨A9, c9, rfl, hl9, _⟩ := Kd.R_reads HO153.out
  have hc9 := Aside0.mk (CT.of_R HO153.out)
  go_loopg [53] k (fun kq v53 w' => ∃ (x53_1 : Int) (dn rs : List (List ByteArray)), v53 = .int .i64 x53_1 ∧ Aside0 (cycle_node.l0 kq l0 l1 a2 t151 l0 (l0.length : Int) x53_1 = some rs) ∧ Aside0 (kq ≤ k) ∧ Aside0 (r = dn ++ rs) ∧ Aside0 (J (acc ++ dn) w') ∧ Aside0 (CT (Kd.int .i64) 3 w' A0 l0.length l0) ∧ Aside0 (CT (Kd.int .i64) 3 w' A1 l1.length l1) ∧ Aside0 (CT k79 79 w' A9 t151.length t151) ∧ Aside0 (Keep w w'))
  case atStart => exact ⟨(0), [], r, (by first | rfl | (simp; done) | (simp [*]; done)), H', ⟨Nat.le_refl _⟩, ⟨rfl⟩, ⟨by rw [List.append_nil]; exact HST.out _ _ _ HJ.out (by repeat (first | (with_reducible first | exact HB.out | apply below_alloc | apply pw_below_drewN | apply below_drew1) | exact HB.out))⟩, ⟨HX0.out.below (by repeat (first | (with_reducible first | exact HB.out | apply below_alloc | apply pw_below_drewN | apply below_drew1) | exact HB.out))⟩, ⟨HX1.out.below (by repeat (first | (with_reducible first | exact HB.out | apply below_alloc | apply pw_below_drewN | apply below_drew1) | exact HB.out))⟩, ⟨hc9.out.below (by repeat (first | with_reducible exact Below.refl _ _ | apply below_alloc | apply pw_below_drewN | apply below_drew1))⟩, ⟨Keep.of_below (by repeat (first | (with_reducible first | exact HB.out | apply below_alloc | apply pw_below_drewN | apply below_drew1) | exact HB.out))⟩⟩
  case round =>
   clear H'
   (try clear c1); (try clear p1); (try clear q1); (try clear hx1); (try clear qi1); (try clear c2); (try clear p2); (try clear c3); (try clear c4); (try clear c6); (try clear c6b0); (try clear c6b1); (try clear c10); (try clear c11); (try clear c12); (try clear c13); (try clear c14); (try clear c15); (try clear p15); (try clear q15); (try clear hx15); (try clear qi15); (try clear c16); (try clear c17); (try clear c17b0); (try clear c17b1); (try clear c19); (try clear c29); (try clear c32); (try clear c37); (try clear hx154_0); (try clear hx155_0); (try clear hx155_1); (try clear hx155_2); (try clear hx155_3); (try clear hx155_4); (try clear hx155_5); (try clear hx156_0); (try clear hx157_0); (try clear hx157_1); (try clear hx157_2); (try clear hx157_3); (try clear hx157_4); (try clear hx157_5); (try clear p1); (try clear p15); (try clear p154); (try clear p155); (try clear p156); (try clear p157); (try clear p2); (try clear q1); (try clear q15); (try clear q154); (try clear q155); (try clear q156); (try clear q157); clear HX0 HX1 HR0 HR1 HB HJ hc9 HO153
   obtain ⟨x53_1, dn, rs, rfl, HA, HK1, HD, HJ, HX0, HX1, HX9, HKp⟩ := hrel
   have HR0 := Aside0.mk HX0.out.1
   have HR1 := Aside0.mk HX1.out.1
   have HT9 := Aside0.mk HX9.out.1
   obtain ⟨w0, hw0⟩ : ∃ x, x = w := ⟨_, rfl⟩
   subst hw0
   obtain ⟨w, hw0⟩ : ∃ x, x = wr := ⟨_, rfl⟩
   subst hw0
   have HB := Aside0.mk (Below.refl w.heap.size w)
   cases gk with
   | zero => exact absurd HA.out (by simp [cycle_node.l0])
   | succ k1 =>
    have H := HA.out
    clear HA
    simp only [cycle_node.l0] at H
    by_cases c39 : x53_1 < (l0.length : Int)
    ·rw [if_pos c39] at H
     have c39b0 : decide (x53_1 < (l0.length : Int)) = true := decide_eq_true c39
     clear c39
     by_cases c40 : 0 ≤ x53_1
     ·rw [if_pos c40] at H
      have c40b0 : decide (0 ≤ x53_1) = true := decide_eq_true c40
      clear c40
      by_cases c41 : x53_1 < (l0.length : Int)
      ·rw [if_pos c41] at H
       have c41b0 : decide (x53_1 < (l0.length : Int)) = true := decide_eq_true c41
       clear c41
       have HC42 := Aside0.mk H
       clear H
       have p167 : 0 ≤ (x53_1 : Int) := of_decide_eq_true (by first | (with_reducible assumption) | assumption)
       have q167 : x53_1 < (l0.length : Int) := of_decide_eq_true (by first | (with_reducible assumption) | assumption)
       obtain ⟨ad167, e167, hx167_0⟩ := Kd.at_int HR0.out x53_1 p167 q167
       cases e167
       replace hx167_0 := (HB.out.cell (World.block_lt_of_cell? w _ hx167_0)).trans hx167_0
       replace p167 := eq_true p167
       replace q167 := eq_true q167
       go_upto_region 10 with (fail)
       go_cut [77] (fun v77 wc => ∃ (kq : Nat) (x77_41 : Bool), v77 = .bool x77_41 ∧ Aside0 (cycle_node.j2 kq l0 l1 a2 t151 (rd l0 x53_1) l0 (l0.length : Int) x53_1 x77_41 = some rs) ∧ Aside0 (kq ≤ k1) ∧ Aside0 (Below w.heap.size w wc))
       case first =>
        have H := HC42.out
        clear HC42
        by_cases c43 : (l1.length : Int) > 0
        ·rw [if_pos c43] at H
         have c43b0 : decide (0 < (l1.length : Int)) = true := decide_eq_true c43
         have c43b1 : decide (0 < l1.length) = true := decide_eq_true (by omega)
         clear c43
         (first | rw [c43b0] | (simp only [i64_w, i32_w]; rw [c43b0]) | skip)
         obtain ⟨ji44, hji44⟩ : ∃ j_ : Int, (wrap64 ((l1.length : Int) - 1)) = j_ := ⟨_, rfl⟩
         replace H : (if 0 ≤ (ji44) then (if (ji44) < (l1.length : Int) then (if 0 ≤ (rd l1 (ji44)) then (if (rd l1 (ji44)) < (t151.length : Int) then (if 0 ≤ (rd l0 x53_1) then (if (rd l0 x53_1) < (t151.length : Int) then (cycle_node.j2 k1 l0 l1 a2 t151 (rd l0 x53_1) l0 (l0.length : Int) x53_1 (((rd_T79 t151 (rd l1 (ji44))).f2) != ((rd_T79 t151 (rd l0 x53_1)).f1))) else (none)) else (none)) else (none)) else (none)) else (none)) else (none)) = some rs := by first | (rw [hji44] at H; exact H) | (simp only [hji44] at H ⊢; exact H)
         have hji44w : (IntKind.i64.wrap ((l1.length : Int) - 1)) = ji44 := (i64_w _).trans hji44
         by_cases c45 : 0 ≤ (ji44)
         ·rw [if_pos c45] at H
          have c45b0 : decide (0 ≤ (ji44)) = true := decide_eq_true c45
          clear c45
          by_cases c46 : (ji44) < (l1.length : Int)
          ·rw [if_pos c46] at H
           have c46b0 : decide ((ji44) < (l1.length : Int)) = true := decide_eq_true c46
           clear c46
           by_cases c47 : 0 ≤ (rd l1 (ji44))
           ·rw [if_pos c47] at H
            have c47b0 : decide (0 ≤ (rd l1 (ji44))) = true := decide_eq_true c47
            clear c47
            by_cases c48 : (rd l1 (ji44)) < (t151.length : Int)
            ·rw [if_pos c48] at H
             have c48b0 : decide ((rd l1 (ji44)) < (t151.length : Int)) = true := decide_eq_true c48
             clear c48
             by_cases c49 : 0 ≤ (rd l0 x53_1)
             ·rw [if_pos c49] at H
              have c49b0 : decide (0 ≤ (rd l0 x53_1)) = true := decide_eq_true c49
              clear c49
              by_cases c50 : (rd l0 x53_1) < (t151.length : Int)
              ·rw [if_pos c50] at H
               have c50b0 : decide ((rd l0 x53_1) < (t151.length : Int)) = true := decide_eq_true c50
               clear c50
               have H' := Aside0.mk H
               clear H
               try go_wp2
               have n1_ := Aside0.mk (below_drew1 HB.out)
               clear HB; have HB := n1_; clear n1_
               have p168 : 0 ≤ ((ji44) : Int) := of_decide_eq_true (by first | (with_reducible assumption) | assumption)
               have q168 : (ji44) < (l1.length : Int) := of_decide_eq_true (by first | (with_reducible assumption) | assumption)
               obtain ⟨ad168, e168, hx168_0⟩ := Kd.at_int HR1.out (ji44) p168 q168
               have hw168_0 := hx168_0
               cases e168
               replace hx168_0 := (HB.out.cell (World.block_lt_of_cell? w _ hx168_0)).trans hx168_0
               replace p168 := eq_true p168
               replace q168 := eq_true q168
               have p169 : 0 ≤ ((rd l1 (ji44)) : Int) := of_decide_eq_true (by first | (with_reducible assumption) | assumption)
               have q169 : (rd l1 (ji44)) < (t151.length : Int) := of_decide_eq_true (by first | (with_reducible assumption) | assumption)
               obtain ⟨ad169, e169, hx169_0, hx169_1, hx169_2, hx169_3, hx169_4, hx169_5⟩ := at_T79 (Kd.C_below HT9.out HB.out) (rd l1 (ji44)) p169 q169
               cases e169
               replace p169 := eq_true p169
               replace q169 := eq_true q169
               have p170 : 0 ≤ ((rd l0 x53_1) : Int) := of_decide_eq_true (by first | (with_reducible assumption) | assumption)
               have q170 : (rd l0 x53_1) < (t151.length : Int) := of_decide_eq_true (by first | (with_reducible assumption) | assumption)
               obtain ⟨ad170, e170, hx170_0, hx170_1, hx170_2, hx170_3, hx170_4, hx170_5⟩ := at_T79 (Kd.C_below HT9.out HB.out) (rd l0 x53_1) p170 q170
               obtain rfl : ad169 = ad170 := (by injection e170)
               replace p170 := eq_true p170
               replace q170 := eq_true q170
               refine start_ (n := 19) (S := fun w' => w'.cell? (ad168.add ((ji44)).toNat) = some (.int .i64 (rd l1 (ji44))) ∧ w'.cell? (ad169.add (((rd l1 (ji44))).toNat * 6)) = some (.string ((rd_T79 t151 (rd l1 (ji44))).f0)) ∧ w'.cell? ⟨(ad169.add (((rd l1 (ji44))).toNat * 6)).block, (ad169.add (((rd l1 (ji44))).toNat * 6)).off + 1, none⟩ = some (.int .u8 ((rd_T79 t151 (rd l1 (ji44))).f1)) ∧ w'.cell? ⟨(ad169.add (((rd l1 (ji44))).toNat * 6)).block, (ad169.add (((rd l1 (ji44))).toNat * 6)).off + 2, none⟩ = some (.int .u8 ((rd_T79 t151 (rd l1 (ji44))).f2)) ∧ w'.cell? ⟨(ad169.add (((rd l1 (ji44))).toNat * 6)).block, (ad169.add (((rd l1 (ji44))).toNat * 6)).off + 3, none⟩ = some (.bool ((rd_T79 t151 (rd l1 (ji44))).f3)) ∧ w'.cell? ⟨(ad169.add (((rd l1 (ji44))).toNat * 6)).block, (ad169.add (((rd l1 (ji44))).toNat * 6)).off + 4, none⟩ = some (.bool ((rd_T79 t151 (rd l1 (ji44))).f4)) ∧ w'.cell? ⟨(ad169.add (((rd l1 (ji44))).toNat * 6)).block, (ad169.add (((rd l1 (ji44))).toNat * 6)).off + 5, none⟩ = some (.bool ((rd_T79 t151 (rd l1 (ji44))).f5)) ∧ w'.cell? (ad169.add (((rd l0 x53_1)).toNat * 6)) = some (.string ((rd_T79 t151 (rd l0 x53_1)).f0)) ∧ w'.cell? ⟨(ad169.add (((rd l0 x53_1)).toNat * 6)).block, (ad169.add (((rd l0 x53_1)).toNat * 6)).off + 1, none⟩ = some (.int .u8 ((rd_T79 t151 (rd l0 x53_1)).f1)) ∧ w'.cell? ⟨(ad169.add (((rd l0 x53_1)).toNat * 6)).block, (ad169.add (((rd l0 x53_1)).toNat * 6)).off + 2, none⟩ = some (.int .u8 ((rd_T79 t151 (rd l0 x53_1)).f2)) ∧ w'.cell? ⟨(ad169.add (((rd l0 x53_1)).toNat * 6)).block, (ad169.add (((rd l0 x53_1)).toNat * 6)).off + 3, none⟩ = some (.bool ((rd_T79 t151 (rd l0 x53_1)).f3)) ∧ w'.cell? ⟨(ad169.add (((rd l0 x53_1)).toNat * 6)).block, (ad169.add (((rd l0 x53_1)).toNat * 6)).off + 4, none⟩ = some (.bool ((rd_T79 t151 (rd l0 x53_1)).f4)) ∧ w'.cell? ⟨(ad169.add (((rd l0 x53_1)).toNat * 6)).block, (ad169.add (((rd l0 x53_1)).toNat * 6)).off + 5, none⟩ = some (.bool ((rd_T79 t151 (rd l0 x53_1)).f5))) (ds := []) #[false, false, false, false, false, false, false, false, false, false, false, false, false, false, false, false, false, false, false] (by kernel_rfl) rfl rfl ⟨((HB.out.cell (World.block_lt_of_cell? w _ hw168_0)).trans hw168_0), hx169_0, hx169_1, hx169_2, hx169_3, hx169_4, hx169_5, hx170_0, hx170_1, hx170_2, hx170_3, hx170_4, hx170_5⟩ (fun hHeld => ?_); refine with_tabW cycle_lay.tab10 cycle_lay.bits10 (fun HT_ HW_ => ?_)
               generalize w.drew = w51 at HB hx168_0 hx169_0 hx169_1 hx169_2 hx169_3 hx169_4 hx169_5 hx170_0 hx170_1 hx170_2 hx170_3 hx170_4 hx170_5 hHeld ⊢
               refine pure_ (i := 0) (N := some 59) (v := ?_) (a' := ?_) #[true, false, false, false, false, false, false, false, false, false, false, false, false, false, false, false, false, false, false] rfl rfl (any_of HT_.out (by kernel_rfl)) (fun _ _ _ h => h) (Or.inl ⟨by rfl, ?_⟩) ?_ ?_
               rotate_left
               ·intro w'
                go_simp
                with_reducible rfl
               rotate_left
               ·simp only [Act.put, List.setIfInBounds_toArray, List.set_cons_zero, List.set_cons_succ, i64_w, i32_w]
                rfl
               refine pure_ (i := 1) (N := some 60) (v := ?_) (a' := ?_) #[true, true, false, false, false, false, false, false, false, false, false, false, false, false, false, false, false, false, false] rfl rfl (any_of HT_.out (by kernel_rfl)) (fun _ _ _ h => h) (Or.inl ⟨by rfl, ?_⟩) ?_ ?_
               rotate_left
               ·intro w'
                go_simp
                with_reducible rfl
               rotate_left
               ·simp only [Act.put, List.setIfInBounds_toArray, List.set_cons_zero, List.set_cons_succ, i64_w, i32_w]
                rfl
               refine pure_ (i := 2) (N := some 61) (v := ?_) (a' := ?_) #[true, true, true, false, false, false, false, false, false, false, false, false, false, false, false, false, false, false, false] rfl rfl (any_of HT_.out (by kernel_rfl)) (fun _ _ _ h => h) (Or.inl ⟨by rfl, ?_⟩) ?_ ?_
               rotate_left
               ·intro w'
                go_simp
                with_reducible rfl
               rotate_left
               ·simp only [Act.put, List.setIfInBounds_toArray, List.set_cons_zero, List.set_cons_succ, i64_w, i32_w]
                rfl
               refine pure_ (i := 3) (N := some 62) (v := ?_) (a' := ?_) #[true, true, true, true, false, false, false, false, false, false, false, false, false, false, false, false, false, false, false] rfl rfl (any_of HT_.out (by kernel_rfl)) (fun _ _ _ h => h) (Or.inl ⟨by rfl, ?_⟩) ?_ ?_
               rotate_left
               ·intro w'
                go_simp
                with_reducible rfl
               rotate_left
               ·simp only [Act.put, List.setIfInBounds_toArray, List.set_cons_zero, List.set_cons_succ, i64_w, i32_w]
                rfl
               refine pure_ (i := 4) (N := some 63) (v := ?_) (a' := ?_) #[true, true, true, true, true, false, false, false, false, false, false, false, false, false, false, false, false, false, false] rfl rfl (any_of HT_.out (by kernel_rfl)) (fun _ _ _ h => h) (Or.inl ⟨by rfl, ?_⟩) ?_ ?_
               rotate_left
               ·intro w'
                go_simp
                with_reducible rfl
               rotate_left
               ·simp only [Act.put, List.setIfInBounds_toArray, List.set_cons_zero, List.set_cons_succ, i64_w, i32_w]
                rfl
               refine pure_ (i := 5) (N := some 64) (v := ?_) (a' := ?_) #[true, true, true, true, true, true, false, false, false, false, false, false, false, false, false, false, false, false, false] rfl rfl (any_of HT_.out (by kernel_rfl)) (fun _ _ _ h => h) (Or.inl ⟨by rfl, ?_⟩) ?_ ?_
               rotate_left
               ·intro w'
                go_simp
                with_reducible rfl
               rotate_left
               ·simp only [Act.put, List.setIfInBounds_toArray, List.set_cons_zero, List.set_cons_succ, i64_w, i32_w]
                rfl
               refine pure_ (i := 6) (N := some 65) (v := ?_) (a' := ?_) #[true, true, true, true, true, true, true, false, false, false, false, false, false, false, false, false, false, false, false] rfl rfl (any_of HT_.out (by kernel_rfl)) (fun _ _ _ h => h) (Or.inl ⟨by rfl, ?_⟩) ?_ ?_
               rotate_left
               ·intro w'
                go_simp
                with_reducible rfl
               rotate_left
               ·simp only [Act.put, List.setIfInBounds_toArray, List.set_cons_zero, List.set_cons_succ, i64_w, i32_w]
                rfl
               refine pure_ (i := 7) (N := some 66) (v := ?_) (a' := ?_) #[true, true, true, true, true, true, true, true, false, false, false, false, false, false, false, false, false, false, false] rfl rfl (any_of HT_.out (by kernel_rfl)) (fun _ _ _ h => h) (Or.inl ⟨by rfl, ?_⟩) ?_ ?_
               rotate_left
               ·intro w'
                go_simp
                with_reducible rfl
               rotate_left
               ·simp only [Act.put, List.setIfInBounds_toArray, List.set_cons_zero, List.set_cons_succ, i64_w, i32_w]
                rfl
               refine pure_ (i := 12) (N := some 71) (v := ?_) (a' := ?_) #[true, true, true, true, true, true, true, true, false, false, false, false, true, false, false, false, false, false, false] rfl rfl (any_of HT_.out (by kernel_rfl)) (fun _ _ _ h => h) (Or.inl ⟨by rfl, ?_⟩) ?_ ?_
               rotate_left
               ·intro w'
                go_simp
                with_reducible rfl
               rotate_left
               ·simp only [Act.put, List.setIfInBounds_toArray, List.set_cons_zero, List.set_cons_succ, i64_w, i32_w]
                rfl
               refine pure_ (i := 13) (N := some 72) (v := ?_) (a' := ?_) #[true, true, true, true, true, true, true, true, false, false, false, false, true, true, false, false, false, false, false] rfl rfl (any_of HT_.out (by kernel_rfl)) (fun _ _ _ h => h) (Or.inl ⟨by rfl, ?_⟩) ?_ ?_
               rotate_left
               ·intro w'
                go_simp
                with_reducible rfl
               rotate_left
               ·simp only [Act.put, List.setIfInBounds_toArray, List.set_cons_zero, List.set_cons_succ, i64_w, i32_w]
                rfl
               refine pure_ (i := 14) (N := some 73) (v := ?_) (a' := ?_) #[true, true, true, true, true, true, true, true, false, false, false, false, true, true, true, false, false, false, false] rfl rfl (any_of HT_.out (by kernel_rfl)) (fun _ _ _ h => h) (Or.inl ⟨by rfl, ?_⟩) ?_ ?_
               rotate_left
               ·intro w'
                go_simp
                with_reducible rfl
               rotate_left
               ·simp only [Act.put, List.setIfInBounds_toArray, List.set_cons_zero, List.set_cons_succ, i64_w, i32_w]
                rfl
               refine pure_ (i := 15) (N := some 74) (v := ?_) (a' := ?_) #[true, true, true, true, true, true, true, true, false, false, false, false, true, true, true, true, false, false, false] rfl rfl (any_of HT_.out (by kernel_rfl)) (fun _ _ _ h => h) (Or.inl ⟨by rfl, ?_⟩) ?_ ?_
               rotate_left
               ·intro w'
                go_simp
                with_reducible rfl
               rotate_left
               ·simp only [Act.put, List.setIfInBounds_toArray, List.set_cons_zero, List.set_cons_succ, i64_w, i32_w]
                rfl
               refine take_ (i := 8) (N := some 67) (v := ?_) (a' := ?_) #[true, true, true, true, true, true, true, true, true, false, false, false, true, true, true, true, false, false, false] rfl rfl (take_ofW HT_.out HW_.out (by kernel_rfl)) (fun _ _ _ h => h) (Or.inl ⟨by rfl, ?_⟩) hHeld ?_ ?_
               rotate_left
               ·rintro w' ⟨s0, s1, s2, s3, s4, s5, s6, s7, s8, s9, s10, s11, s12⟩
                go_simp
                with_reducible rfl
               rotate_left
               ·simp only [Act.put, List.setIfInBounds_toArray, List.set_cons_zero, List.set_cons_succ, i64_w, i32_w]
                rfl
               refine pure_ (i := 9) (N := some 68) (v := ?_) (a' := ?_) #[true, true, true, true, true, true, true, true, true, true, false, false, true, true, true, true, false, false, false] rfl rfl (any_of HT_.out (by kernel_rfl)) (fun _ _ _ h => h) (Or.inl ⟨by rfl, ?_⟩) ?_ ?_
               rotate_left
               ·intro w'
                go_simp
                with_reducible rfl
               rotate_left
               ·simp only [Act.put, List.setIfInBounds_toArray, List.set_cons_zero, List.set_cons_succ, i64_w, i32_w]
                rfl
               refine pure_ (i := 10) (N := some 69) (v := ?_) (a' := ?_) #[true, true, true, true, true, true, true, true, true, true, true, false, true, true, true, true, false, false, false] rfl rfl (any_of HT_.out (by kernel_rfl)) (fun _ _ _ h => h) (Or.inl ⟨by rfl, ?_⟩) ?_ ?_
               rotate_left
               ·intro w'
                go_simp
                with_reducible rfl
               rotate_left
               ·simp only [Act.put, List.setIfInBounds_toArray, List.set_cons_zero, List.set_cons_succ, i64_w, i32_w]
                rfl
               refine take_ (i := 11) (N := some 70) (v := ?_) (a' := ?_) #[true, true, true, true, true, true, true, true, true, true, true, true, true, true, true, true, false, false, false] rfl rfl (take_ofW HT_.out HW_.out (by kernel_rfl)) (fun _ _ _ h => h) (Or.inl ⟨by rfl, ?_⟩) hHeld ?_ ?_
               rotate_left
               ·rintro w' ⟨s0, s1, s2, s3, s4, s5, s6, s7, s8, s9, s10, s11, s12⟩
                go_simp
                with_reducible rfl
               rotate_left
               ·simp only [Act.put, List.setIfInBounds_toArray, List.set_cons_zero, List.set_cons_succ, i64_w, i32_w]
                rfl
               refine take_ (i := 16) (N := some 75) (v := ?_) (a' := ?_) #[true, true, true, true, true, true, true, true, true, true, true, true, true, true, true, true, true, false, false] rfl rfl (take_ofW HT_.out HW_.out (by kernel_rfl)) (fun _ _ _ h => h) (Or.inl ⟨by rfl, ?_⟩) hHeld ?_ ?_
               rotate_left
               ·rintro w' ⟨s0, s1, s2, s3, s4, s5, s6, s7, s8, s9, s10, s11, s12⟩
                go_simp
                with_reducible rfl
               rotate_left
               ·simp only [Act.put, List.setIfInBounds_toArray, List.set_cons_zero, List.set_cons_succ, i64_w, i32_w]
                rfl
               refine pure_ (i := 17) (N := some 76) (v := ?_) (a' := ?_) #[true, true, true, true, true, true, true, true, true, true, true, true, true, true, true, true, true, true, false] rfl rfl (any_of HT_.out (by kernel_rfl)) (fun _ _ _ h => h) (Or.inl ⟨by rfl, ?_⟩) ?_ ?_
               rotate_left
               ·intro w'
                go_simp
                with_reducible rfl
               rotate_left
               ·simp only [Act.put, List.setIfInBounds_toArray, List.set_cons_zero, List.set_cons_succ, i64_w, i32_w]
                rfl
               refine pure_ (i := 18) (N := some 77) (v := ?_) (a' := ?_) #[true, true, true, true, true, true, true, true, true, true, true, true, true, true, true, true, true, true, true] rfl rfl (any_of HT_.out (by kernel_rfl)) (fun _ _ _ h => h) (Or.inl ⟨by rfl, ?_⟩) ?_ ?_
               rotate_left
               ·intro w'
                go_simp
                with_reducible rfl
               rotate_left
               ·simp only [Act.put, List.setIfInBounds_toArray, List.set_cons_zero, List.set_cons_succ, i64_w, i32_w]
                rfl
               refine done_ (done_of HT_.out (by kernel_rfl)) ?_
               try go_wp2
               go_meet
               case rel => exact ⟨_, ((((rd_T79 t151 (rd l1 (ji44))).f2) != ((rd_T79 t151 (rd l0 x53_1)).f1))), (by first | rfl | (simp; done) | (simp only [← hji44] <;> (first | rfl | simp)) | (simp [*]; done)), H', ⟨by have := HK1.out; first | omega | exact Nat.le_refl _⟩, ⟨by repeat (first | (with_reducible first | exact HB.out | apply below_alloc | apply pw_below_drewN | apply below_drew1) | exact HB.out)⟩⟩
              ·rw [if_neg c50] at H
               exact absurd H (by simp)
             ·rw [if_neg c49] at H
              exact absurd H (by simp)
            ·rw [if_neg c48] at H
             exact absurd H (by simp)
           ·rw [if_neg c47] at H
            exact absurd H (by simp)
          ·rw [if_neg c46] at H
           exact absurd H (by simp)
         ·rw [if_neg c45] at H
          exact absurd H (by simp)
        ·rw [if_neg c43] at H
         have c43b0 : decide (0 < (l1.length : Int)) = false := decide_eq_false c43
         have c43b1 : decide (0 < l1.length) = false := decide_eq_false (by omega)
         clear c43
         (first | rw [c43b0] | (simp only [i64_w, i32_w]; rw [c43b0]) | skip)
         have H' := Aside0.mk H
         clear H
         try go_wp2
         have n1_ := Aside0.mk (below_drew1 HB.out)
         clear HB; have HB := n1_; clear n1_
         refine start_ (n := 19) (S := fun w' => True) (ds := []) #[false, false, false, false, false, false, false, false, false, false, false, false, false, false, false, false, false, false, false] (by kernel_rfl) rfl rfl trivial (fun hHeld => ?_); refine with_tabW cycle_lay.tab10 cycle_lay.bits10 (fun HT_ HW_ => ?_)
         generalize w.drew = w53 at HB hHeld ⊢
         refine pure_ (i := 0) (N := some 59) (v := ?_) (a' := ?_) #[true, false, false, false, false, false, false, false, false, false, false, false, false, false, false, false, false, false, false] rfl rfl (any_of HT_.out (by kernel_rfl)) (fun _ _ _ h => h) (Or.inl ⟨by rfl, ?_⟩) ?_ ?_
         rotate_left
         ·intro w'
          go_simp
          with_reducible rfl
         rotate_left
         ·simp only [Act.put, List.setIfInBounds_toArray, List.set_cons_zero, List.set_cons_succ, i64_w, i32_w]
          rfl
         refine pure_ (i := 1) (N := some 60) (v := ?_) (a' := ?_) #[true, true, false, false, false, false, false, false, false, false, false, false, false, false, false, false, false, false, false] rfl rfl (any_of HT_.out (by kernel_rfl)) (fun _ _ _ h => h) (Or.inl ⟨by rfl, ?_⟩) ?_ ?_
         rotate_left
         ·intro w'
          go_simp
          with_reducible rfl
         rotate_left
         ·simp only [Act.put, List.setIfInBounds_toArray, List.set_cons_zero, List.set_cons_succ, i64_w, i32_w]
          rfl
         refine pure_ (i := 2) (N := some 61) (v := ?_) (a' := ?_) #[true, true, true, false, false, false, false, false, false, false, false, false, false, false, false, false, false, false, false] rfl rfl (any_of HT_.out (by kernel_rfl)) (fun _ _ _ h => h) (Or.inl ⟨by rfl, ?_⟩) ?_ ?_
         rotate_left
         ·intro w'
          go_simp
          with_reducible rfl
         rotate_left
         ·simp only [Act.put, List.setIfInBounds_toArray, List.set_cons_zero, List.set_cons_succ, i64_w, i32_w]
          rfl
         refine pure_ (i := 3) (N := some 62) (v := undef) (a' := ?_) #[true, true, true, true, false, false, false, false, false, false, false, false, false, false, false, false, false, false, false] rfl rfl (any_of HT_.out (by kernel_rfl)) (fun _ _ _ h => h) (Or.inr ⟨by rfl, rfl⟩) ?_ ?_
         rotate_left
         ·simp only [Act.put, List.setIfInBounds_toArray, List.set_cons_zero, List.set_cons_succ, i64_w, i32_w]
          rfl
         refine pure_ (i := 4) (N := some 63) (v := undef) (a' := ?_) #[true, true, true, true, true, false, false, false, false, false, false, false, false, false, false, false, false, false, false] rfl rfl (any_of HT_.out (by kernel_rfl)) (fun _ _ _ h => h) (Or.inr ⟨by rfl, rfl⟩) ?_ ?_
         rotate_left
         ·simp only [Act.put, List.setIfInBounds_toArray, List.set_cons_zero, List.set_cons_succ, i64_w, i32_w]
          rfl
         refine pure_ (i := 5) (N := some 64) (v := undef) (a' := ?_) #[true, true, true, true, true, true, false, false, false, false, false, false, false, false, false, false, false, false, false] rfl rfl (any_of HT_.out (by kernel_rfl)) (fun _ _ _ h => h) (Or.inr ⟨by rfl, rfl⟩) ?_ ?_
         rotate_left
         ·simp only [Act.put, List.setIfInBounds_toArray, List.set_cons_zero, List.set_cons_succ, i64_w, i32_w]
          rfl
         refine pure_ (i := 6) (N := some 65) (v := undef) (a' := ?_) #[true, true, true, true, true, true, true, false, false, false, false, false, false, false, false, false, false, false, false] rfl rfl (any_of HT_.out (by kernel_rfl)) (fun _ _ _ h => h) (Or.inr ⟨by rfl, rfl⟩) ?_ ?_
         rotate_left
         ·simp only [Act.put, List.setIfInBounds_toArray, List.set_cons_zero, List.set_cons_succ, i64_w, i32_w]
          rfl
         refine pure_ (i := 7) (N := some 66) (v := undef) (a' := ?_) #[true, true, true, true, true, true, true, true, false, false, false, false, false, false, false, false, false, false, false] rfl rfl (any_of HT_.out (by kernel_rfl)) (fun _ _ _ h => h) (Or.inr ⟨by rfl, rfl⟩) ?_ ?_
         rotate_left
         ·simp only [Act.put, List.setIfInBounds_toArray, List.set_cons_zero, List.set_cons_succ, i64_w, i32_w]
          rfl
         refine pure_ (i := 8) (N := some 67) (v := undef) (a' := ?_) #[true, true, true, true, true, true, true, true, true, false, false, false, false, false, false, false, false, false, false] rfl rfl (any_of HT_.out (by kernel_rfl)) (fun _ _ _ h => h) (Or.inr ⟨by rfl, rfl⟩) ?_ ?_
         rotate_left
         ·simp only [Act.put, List.setIfInBounds_toArray, List.set_cons_zero, List.set_cons_succ, i64_w, i32_w]
          rfl
         refine pure_ (i := 9) (N := some 68) (v := undef) (a' := ?_) #[true, true, true, true, true, true, true, true, true, true, false, false, false, false, false, false, false, false, false] rfl rfl (any_of HT_.out (by kernel_rfl)) (fun _ _ _ h => h) (Or.inr ⟨by rfl, rfl⟩) ?_ ?_
         rotate_left
         ·simp only [Act.put, List.setIfInBounds_toArray, List.set_cons_zero, List.set_cons_succ, i64_w, i32_w]
          rfl
         refine pure_ (i := 10) (N := some 69) (v := undef) (a' := ?_) #[true, true, true, true, true, true, true, true, true, true, true, false, false, false, false, false, false, false, false] rfl rfl (any_of HT_.out (by kernel_rfl)) (fun _ _ _ h => h) (Or.inr ⟨by rfl, rfl⟩) ?_ ?_
         rotate_left
         ·simp only [Act.put, List.setIfInBounds_toArray, List.set_cons_zero, List.set_cons_succ, i64_w, i32_w]
          rfl
         refine pure_ (i := 11) (N := some 70) (v := undef) (a' := ?_) #[true, true, true, true, true, true, true, true, true, true, true, true, false, false, false, false, false, false, false] rfl rfl (any_of HT_.out (by kernel_rfl)) (fun _ _ _ h => h) (Or.inr ⟨by rfl, rfl⟩) ?_ ?_
         rotate_left
         ·simp only [Act.put, List.setIfInBounds_toArray, List.set_cons_zero, List.set_cons_succ, i64_w, i32_w]
          rfl
         refine pure_ (i := 12) (N := some 71) (v := undef) (a' := ?_) #[true, true, true, true, true, true, true, true, true, true, true, true, true, false, false, false, false, false, false] rfl rfl (any_of HT_.out (by kernel_rfl)) (fun _ _ _ h => h) (Or.inr ⟨by rfl, rfl⟩) ?_ ?_
         rotate_left
         ·simp only [Act.put, List.setIfInBounds_toArray, List.set_cons_zero, List.set_cons_succ, i64_w, i32_w]
          rfl
         refine pure_ (i := 13) (N := some 72) (v := undef) (a' := ?_) #[true, true, true, true, true, true, true, true, true, true, true, true, true, true, false, false, false, false, false] rfl rfl (any_of HT_.out (by kernel_rfl)) (fun _ _ _ h => h) (Or.inr ⟨by rfl, rfl⟩) ?_ ?_
         rotate_left
         ·simp only [Act.put, List.setIfInBounds_toArray, List.set_cons_zero, List.set_cons_succ, i64_w, i32_w]
          rfl
         refine pure_ (i := 14) (N := some 73) (v := undef) (a' := ?_) #[true, true, true, true, true, true, true, true, true, true, true, true, true, true, true, false, false, false, false] rfl rfl (any_of HT_.out (by kernel_rfl)) (fun _ _ _ h => h) (Or.inr ⟨by rfl, rfl⟩) ?_ ?_
         rotate_left
         ·simp only [Act.put, List.setIfInBounds_toArray, List.set_cons_zero, List.set_cons_succ, i64_w, i32_w]
          rfl
         refine pure_ (i := 15) (N := some 74) (v := undef) (a' := ?_) #[true, true, true, true, true, true, true, true, true, true, true, true, true, true, true, true, false, false, false] rfl rfl (any_of HT_.out (by kernel_rfl)) (fun _ _ _ h => h) (Or.inr ⟨by rfl, rfl⟩) ?_ ?_
         rotate_left
         ·simp only [Act.put, List.setIfInBounds_toArray, List.set_cons_zero, List.set_cons_succ, i64_w, i32_w]
          rfl
         refine pure_ (i := 16) (N := some 75) (v := undef) (a' := ?_) #[true, true, true, true, true, true, true, true, true, true, true, true, true, true, true, true, true, false, false] rfl rfl (any_of HT_.out (by kernel_rfl)) (fun _ _ _ h => h) (Or.inr ⟨by rfl, rfl⟩) ?_ ?_
         rotate_left
         ·simp only [Act.put, List.setIfInBounds_toArray, List.set_cons_zero, List.set_cons_succ, i64_w, i32_w]
          rfl
         refine pure_ (i := 17) (N := some 76) (v := undef) (a' := ?_) #[true, true, true, true, true, true, true, true, true, true, true, true, true, true, true, true, true, true, false] rfl rfl (any_of HT_.out (by kernel_rfl)) (fun _ _ _ h => h) (Or.inr ⟨by rfl, rfl⟩) ?_ ?_
         rotate_left
         ·simp only [Act.put, List.setIfInBounds_toArray, List.set_cons_zero, List.set_cons_succ, i64_w, i32_w]
          rfl
         refine pure_ (i := 18) (N := some 77) (v := ?_) (a' := ?_) #[true, true, true, true, true, true, true, true, true, true, true, true, true, true, true, true, true, true, true] rfl rfl (any_of HT_.out (by kernel_rfl)) (fun _ _ _ h => h) (Or.inl ⟨by rfl, ?_⟩) ?_ ?_
         rotate_left
         ·intro w'
          go_simp
          with_reducible rfl
         rotate_left
         ·simp only [Act.put, List.setIfInBounds_toArray, List.set_cons_zero, List.set_cons_succ, i64_w, i32_w]
          rfl
         refine done_ (done_of HT_.out (by kernel_rfl)) ?_
         try go_wp2
         go_meet
         case rel => exact ⟨_, (false), (by first | rfl | (simp; done) | (simp [*]; done)), H', ⟨by have := HK1.out; first | omega | exact Nat.le_refl _⟩, ⟨by repeat (first | (with_reducible first | exact HB.out | apply below_alloc | apply pw_below_drewN | apply below_drew1) | exact HB.out)⟩⟩
       case rest =>
        clear HC42; (try clear c1); (try clear p1); (try clear q1); (try clear hx1); (try clear qi1); (try clear c2); (try clear p2); (try clear c3); (try clear c4); (try clear c5); (try clear c6); (try clear c6b0); (try clear c6b1); (try clear p6); (try clear c10); (try clear c11); (try clear c12); (try clear c13); (try clear c14); (try clear c15); (try clear p15); (try clear q15); (try clear hx15); (try clear qi15); (try clear c16); (try clear p16); (try clear q16); (try clear hx16); (try clear c17); (try clear c17b0); (try clear c17b1); (try clear p17); (try clear q17); (try clear hx17); (try clear c19); (try clear c29); (try clear c32); (try clear c37); (try clear c39); (try clear c39b0); (try clear c40); (try clear c40b0); (try clear c41); (try clear c41b0); (try clear c43); (try clear c43b0); (try clear c43b1); (try clear c45); (try clear c45b0); (try clear c46); (try clear c46b0); (try clear c47); (try clear c47b0); (try clear c48); (try clear c48b0); (try clear c49); (try clear c49b0); (try clear c50); (try clear c50b0); (try clear hx154_0); (try clear hx155_0); (try clear hx155_1); (try clear hx155_2); (try clear hx155_3); (try clear hx155_4); (try clear hx155_5); (try clear hx156_0); (try clear hx157_0); (try clear hx157_1); (try clear hx157_2); (try clear hx157_3); (try clear hx157_4); (try clear hx157_5); (try clear hx167_0); (try clear hx168_0); (try clear hx169_0); (try clear hx169_1); (try clear hx169_2); (try clear hx169_3); (try clear hx169_4); (try clear hx169_5); (try clear hx170_0); (try clear hx170_1); (try clear hx170_2); (try clear hx170_3); (try clear hx170_4); (try clear hx170_5); (try clear p1); (try clear p15); (try clear p154); (try clear p155); (try clear p156); (try clear p157); (try clear p167); (try clear p168); (try clear p169); (try clear p170); (try clear p2); (try clear q1); (try clear q15); (try clear q154); (try clear q155); (try clear q156); (try clear q157); (try clear q167); (try clear q168); (try clear q169); (try clear q170)
        obtain ⟨kq, x77_41, rfl, HA, HJ41, HB⟩ := hcut
        cases kq with
        | zero => exact absurd HA.out (by simp [cycle_node.j2])
        | succ kj41 =>
         have H := HA.out
         clear HA
         simp only [cycle_node.j2] at H
         by_cases c54 : x77_41 = true
         ·subst c54
          have H1 : (cycle_node.l0 kj41 l0 l1 a2 t151 l0 (l0.length : Int) (wrap64 (x53_1 + 1))) = some rs := by rw [if_pos rfl] at H; exact H
          clear H
          have H := H1
          clear H1
          have H' := Aside0.mk H
          clear H
          go_wp2
          go_roundg kj41
          case measure => have := HK1.out; have := HJ41.out; omega
          case rel => exact ⟨(wrap64 (x53_1 + 1)), dn, rs, (by first | rfl | (simp; done) | (simp [*]; done)), H', ⟨by have := HK1.out; have := HJ41.out; omega⟩, HD, ⟨HST.out _ _ _ HJ.out (by repeat (first | (with_reducible first | exact HB.out | apply below_alloc | apply pw_below_drewN | apply below_drew1) | exact HB.out))⟩, ⟨HX0.out.below (by repeat (first | (with_reducible first | exact HB.out | apply below_alloc | apply pw_below_drewN | apply below_drew1) | exact HB.out))⟩, ⟨HX1.out.below (by repeat (first | (with_reducible first | exact HB.out | apply below_alloc | apply pw_below_drewN | apply below_drew1) | exact HB.out))⟩, ⟨HX9.out.below (by repeat (first | (with_reducible first | exact HB.out | apply below_alloc | apply pw_below_drewN | apply below_drew1) | exact HB.out))⟩, ⟨HKp.out.trans (Keep.of_below (by repeat (first | (with_reducible first | exact HB.out | apply below_alloc | apply pw_below_drewN | apply below_drew1) | exact HB.out)))⟩⟩
         ·replace c54 := Bool.eq_false_iff.mpr c54
          subst c54
          have H1 : ((slices_Clone_int_int.f l1).bind fun t171 => (if t171.length < 17592186044416 then ((cycle_node.f kj41 l0 (t171 ++ [(rd l0 x53_1)]) a2).bind fun t177 => (cycle_node.l0 kj41 l0 l1 a2 t151 l0 (l0.length : Int) (wrap64 (x53_1 + 1))).bind fun u177 => some (t177 ++ u177)) else (none))) = some rs := by rw [if_neg (show ¬ (false = true) by decide)] at H; exact H
          clear H
          obtain ⟨t171, A550, H⟩ := Option.bind_eq_some_iff.mp H1
          clear H1
          have A55 := Aside0.mk A550
          clear A550
          by_cases c56 : t171.length < 17592186044416
          ·rw [if_pos c56] at H
           have LMc56 := Aside0.mk c56
           clear c56
           obtain ⟨t177, A570, H⟩ := Option.bind_eq_some_iff.mp H
           obtain ⟨u177, A580, H⟩ := Option.bind_eq_some_iff.mp H
           have HE := Aside0.mk (Option.some.inj H)
           clear H
           obtain ⟨y174, hy174⟩ : ∃ y_ : List Int, y_ = (t171 ++ [(rd l0 x53_1)]) := ⟨_, rfl⟩
           rw [← hy174] at A570
           have Ny174 := Aside0.mk hy174
           clear hy174
           have A57 := Aside0.mk A570
           have A58 := Aside0.mk A580
           clear A570 A580
           go_wp2_with (first | ((with_reducible refine gate_callee (f := 46) rfl ?_); refine goesL_ (some 80) rfl rfl Tryd.func46 (by kernel_rfl) rfl #[.slice A1 l1.length c1] rfl (by (try simp only [List.map_toArray, List.map_cons, List.map_nil]); first | done | rfl | (simp only [List.length_drop, List.length_take]; rfl)) ?_; (with_reducible refine (slices_Clone_int_int.calls _ _ l1 t171 _ ?side1 ?side2 A55.out).mono ?_); (case side1 => repeat (first | exact (Kd.C_below HR1.out HB.out) | (with_reducible refine Kd.C_alloc ?_ _) | (with_reducible refine Kd.C_drewN ?_ _) | (with_reducible refine Kd.C_drew ?_))); (case side2 => exact HC1.out); rintro e w59 ⟨v172, rfl, ho0, hb⟩; refine ⟨_, rfl, ?_⟩; have n1_ := Aside0.mk (Kd.R_lower ho0 (below_size (by repeat (first | (with_reducible first | exact HB.out | apply below_alloc | apply pw_below_drewN | apply below_drew1) | exact HB.out)))); have n2_ := Aside0.mk (below_step (by repeat (first | (with_reducible first | exact HB.out | apply below_alloc | apply pw_below_drewN | apply below_drew1) | exact HB.out)) hb); clear HB; have HO173 := n1_; have HB := n2_; clear n1_ n2_; (try clear hb); (try clear hb2); (try clear hk); (try clear hi); (try clear ho0)) | ((with_reducible refine gate_builtin (b := .append) (xs := #[.tmp 80, .tmp 82]) rfl ?_); at_builtin; refine Kd.R_append (Kd.int .i64) (w0 := w) w.heap.size rfl (.tmp 80) (.tmp 82) 59 3 (.int .i64 0) 8 rfl Tryd.underlying59 info3 rfl (by decide) (by omega) v172 t171 (rd l0 x53_1) [.int .i64 (rd l0 x53_1)] (fun _ => True) (fun _ => False) rfl rfl ?aP (fun _ hk => hk.elim) ?aF ?aO ?aB ?aS ?aL ?_; (case aP => exact rfl); (case aB => exact (by repeat (first | (with_reducible first | exact HB.out | apply below_alloc | apply pw_below_drewN | apply below_drew1) | exact HB.out))); (case aF => exact (fun _ _ => trivial)); (case aO => exact (by (with_reducible repeat (first | apply Kd.R_alloc | apply Kd.R_drewN | apply Kd.R_drew)); exact HO173.out)); (case aS => exact (below_size (by repeat (first | (with_reducible first | exact HB.out | apply below_alloc | apply pw_below_drewN | apply below_drew1) | exact HB.out)))); (case aL => have := LMc56.out; omega); intro v175 w60 ho hb hg hat; rw [← Ny174.out] at ho; have n1_ := Aside0.mk (hb); have n2_ := Aside0.mk (ho); clear HB; clear HO173; have HB := n1_; have HO176 := n2_; clear n1_ n2_; clear ho hb hg hat; obtain ⟨Ao61, co61, eo61⟩ := Kd.R_slice HO176.out; subst eo61) | ((with_reducible refine gate_callee (f := 37) rfl ?_); refine goesL_ (some 86) rfl rfl Tryd.func37 (by kernel_rfl) rfl #[.slice (some ad167) l0.length c0, .slice Ao61 y174.length co61, .int .i64 a2, .func (.yield l) #[] #[]] rfl (by (try simp only [List.map_toArray, List.map_cons, List.map_nil]); first | done | rfl | (simp only [List.length_drop, List.length_take]; rfl)) ?_; (with_reducible refine (ih kj41 (by have := HK1.out; have := HJ41.out; omega) _ _ l0 _ _ y174 a2 t177 (acc ++ dn) _ ?side1 ?side2 ?side3 ?side4 ?side5 A57.out).mono ?_); (case side1 => exact HX0.out.below (by repeat (first | (with_reducible first | exact HB.out | apply below_alloc | apply pw_below_drewN | apply below_drew1) | exact HB.out))); (case side2 => exact HC0.out); (case side3 => exact CT.of_R (by (with_reducible repeat (first | apply Kd.R_alloc | apply Kd.R_drewN | apply Kd.R_drew)); exact HO176.out)); (case side4 => exact (Kd.R_reads' HO176.out).2.1); (case side5 => exact HST.out _ _ _ HJ.out (by repeat (first | (with_reducible first | exact HB.out | apply below_alloc | apply pw_below_drewN | apply below_drew1) | exact HB.out))); rintro e w62 ⟨hkp, b_, rfl, hj1, hj2⟩; refine ⟨_, rfl, ?_⟩))
           ·rename_i hx_
            cases b_ with
            | true => exact absurd hx_ (by decide)
            | false =>
             go_ret
             obtain ⟨p, q, e1, e2, e3⟩ := hj2 rfl
             exact ⟨HKp.out.trans ((Keep.of_below (by repeat (first | (with_reducible first | exact HB.out | apply below_alloc | apply pw_below_drewN | apply below_drew1) | exact HB.out))).trans hkp), false, rfl, (fun e => by cases e), fun _ => ⟨dn ++ p, q ++ u177, (by rw [HD.out, ← HE.out, e1]; simp only [List.append_assoc]), (by intro e; exact e2 (List.append_eq_nil_iff.mp e).2), (by rw [← List.append_assoc]; exact e3)⟩⟩
           ·rename_i hx_
            cases b_ with
            | false => exact absurd hx_ (by decide)
            | true =>
             go_roundg kj41
             case measure => have := HK1.out; have := HJ41.out; omega
             case rel => exact ⟨(wrap64 (x53_1 + 1)), dn ++ t177, u177, (by first | rfl | (simp; done) | (simp [*]; done)), A58, ⟨by have := HK1.out; have := HJ41.out; omega⟩, ⟨by rw [HD.out, ← HE.out, List.append_assoc]⟩, ⟨by rw [← List.append_assoc]; exact HST.out _ _ _ (hj1 rfl) (Below.refl _ _)⟩, ⟨int_keep (HX0.out.below HB.out) hkp⟩, ⟨int_keep (HX1.out.below HB.out) hkp⟩, ⟨k79_keep (HX9.out.below HB.out) hkp⟩, ⟨HKp.out.trans ((Keep.of_below (by repeat (first | (with_reducible first | exact HB.out | apply below_alloc | apply pw_below_drewN | apply below_drew1) | exact HB.out))).trans hkp)⟩⟩
          ·rw [if_neg c56] at H
           exact absurd H (by simp)
      ·rw [if_neg c41] at H
       exact absurd H (by simp)
     ·rw [if_neg c40] at H
      exact absurd H (by simp)
    ·rw [if_neg c39] at H
     have c39b0 : decide (x53_1 < (l0.length : Int)) = false := decide_eq_false c39
     clear c39
     have HE := Aside0.mk (Option.some.inj H)
     clear H
     go_wp2
     go_ret
     exact ⟨HKp.out.trans (Keep.of_below (by repeat (first | (with_reducible first | exact HB.out | apply below_alloc | apply pw_below_drewN | apply below_drew1) | exact HB.out))), true, rfl, fun _ => (by have e1 := HD.out; rw [← HE.out, List.append_nil] at e1; rw [e1]; exact HST.out _ _ _ HJ.out (by repeat (first | (with_reducible first | exact HB.out | apply below_alloc | apply pw_below_drewN | apply below_drew1) | exact HB.out))), fun e => by cases e⟩
end Go.Proofs.YtjclpkddfpbdcaaDoor.Lay
