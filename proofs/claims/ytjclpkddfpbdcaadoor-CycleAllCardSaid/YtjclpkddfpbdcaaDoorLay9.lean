/-
  weirlaw26.CycleAll: the law's walk (written by mklaw.py).
-/
import Derived.Test.YtjclpkddfpbdcaaDoorLay8
import Derived.Test.YtjclpkddfpbdcaaDoorLay6
namespace Go.Proofs.YtjclpkddfpbdcaaDoor.Lay
open Go.Shelf Go.RowKit Go.Proofs.YtjclpkddfpbdcaaDoorW.PrintWords Go.Proofs.YtjclpkddfpbdcaaDoorW.PrintLast Go.Proofs.YtjclpkddfpbdcaaDoorW.PrintMore Go.Proofs.YtjclpkddfpbdcaaDoor.XC
attribute [local go_sem] max2_int min2_int max_two min_two max_three min_three max_four min_four
set_option linter.unusedVariables false
set_option linter.unusedSimpArgs false

theorem Coll.lists {base : Nat} {W : World} {v : Value} {o : List (List ByteArray)} (h : Coll base W v o) : Lists base W v o := by
  obtain ⟨vs, h1, h2, _⟩ := h
  refine ⟨vs, h1, fun j u x hu hx => ?_⟩
  have hr := h2 j u x hu hx
  obtain ⟨A, c, e, hl, _⟩ := Kd.R_reads hr
  subst e
  exact ⟨A, c, rfl, hl, CT.of_R hr⟩

@[local go_sem] theorem eqFunc_nil (w : World) : Sem.run Tryd.prog (binOp BinOp.eql 38 Value.nilFunc Value.nilFunc) w = .ok (.bool true) w := by kernel_rfl
@[local go_sem] theorem eqFunc_some (f : Nat) (c : Array Value) (w : World) : Sem.run Tryd.prog (binOp BinOp.eql 38 (.func (.func f) #[] c) Value.nilFunc) w = .ok (.bool false) w := by kernel_rfl

/-- A row of strings is its own block alone. -/
theorem R_self {W : World} {base : Nat} {v : Value} {xs : List ByteArray} (h : Kd.R Kd.string 9 W base (fun _ => True) v xs) : Kd.R Kd.string 9 W base (fun k_ => v.ownBlock = some k_) v xs := Kd.R_of_own (Kd.own_of_R h) (fun k_ hk_ => hk_)
theorem CT_set {α : Type} {enc : α → Value} {h1 : ∀ x, (enc x).oneCell' = true} {t g j : Nat} {W : World} {A : Option Addr} {n : Nat} {xs : List α} {u : Value} (h : CT (Kd.scalar enc h1) t W A n xs) (hne : ∀ (ad : Addr) (cells : Array Value), A = some ad → W.heap[ad.block]? = some (Obj.cells cells t (0, 0)) → ad.block ≠ g) : CT (Kd.scalar enc h1) t (W.setCell ⟨g, j, none⟩ u) A n xs :=
  ⟨⟨h.1.1, h.1.2.1, fun hn => by
    obtain ⟨ad, e, hc⟩ := h.1.2.2 hn
    obtain ⟨cells, hb⟩ := h.2 ad e
    refine ⟨ad, e, fun i p hi => ?_⟩
    obtain ⟨c, hl, hr, hcell⟩ := hc i p hi
    refine ⟨c, hl, hr, fun y v hv => ?_⟩
    rw [← hcell y v hv]
    refine World.cell?_of_block (Below.heap_setCell _ _ _ _ ?_)
    have e9 : (ad.add (i * (Kd.scalar enc h1).sz + y)).block = ad.block := by first | rfl | (unfold Addr.add; split <;> rfl) | simp [Addr.add]
    rw [e9]
    exact hne ad cells e hb⟩, fun ad e => by
    obtain ⟨cells, hb⟩ := h.2 ad e
    exact ⟨cells, (Below.heap_setCell _ _ _ _ (hne ad cells e hb)).trans hb⟩⟩

/-- What the walk asks of plain Lean. -/
structure LawPure (k : Nat) (l : List ByteArray) (n : Int) (r1 : List Int) (r2 : Int) (q1 : List Int) (ok : Bool) : Prop where
  hnum : cycle_numbers.f k l = some (r1, r2)
  hlen : r1.length < 4611686018427387904
  hcmp : (Lib.compact (sortI r1)).length ≤ (sortI r1).length
  href : weirref26_numbers.f k l weirref26_names = some (q1, ok)
  hok : ok = true ↔ r2 < 0
  hback : weirlaw26_back.f k l l (l ++ [weirlaw26_holder]) = some true
  hlent : weirlaw26_lent.f l = some (l, l ++ [weirlaw26_holder])
  hg0 : 2 ≤ n → n ≤ 16 → ok = true → weirref26_grow.f k l [] n 0 [] weirref26_names = some []
  hmain : 2 ≤ n → n ≤ 5 → ok = true → ∃ items : List (List ByteArray), weirref26_grow.f k l [] n 60 [] weirref26_names = some (items.take 60) ∧ cycle_node.f k (Lib.compact (sortI r1)) [] n = some items ∧ (∀ x ∈ items, weirlaw26_spoil.f k x = some ()) ∧ ∀ i : Nat, i ≤ 60 → weirlaw26_sameAll.f k (items.take i) (items.take i) = some true

set_option maxHeartbeats 16000000 in
set_option maxRecDepth 100000 in
theorem law_range (k : Nat) (A0 : Option Addr) (c0 : Nat) (l : List ByteArray) (n m : Int) (r1 : List Int) (r2 : Int) (q1 : List Int) (ok : Bool) (w : World) (hr0 : Kd.C Kd.string w A0 l.length l) (hc0 : l.length ≤ c0) (hr5 : Kd.C Kd.string w (some ⟨0, 0, none⟩) weirref26_names.length weirref26_names) (hp : LawPure k l n r1 r2 q1 ok) (hcase : n < 2 ∨ 16 < n) :
    Calls Tryd.prog 4 #[.slice A0 l.length c0, .int .i64 n, .int .i64 m] w fun e w' => e = .returned (.bool true) ∧ Below w.heap.size w w' := by
  have HR0 := Aside0.mk hr0
  have HR5 := Aside0.mk hr5
  have HB := Aside0.mk (Below.refl w.heap.size w)
  go_enter Tryd.func4, Tryd.ntmps4
  go_wp2_with (first | ((with_reducible refine gate_callee (f := 6) rfl ?_); refine goesL_ (some 17) rfl rfl Tryd.func6 (by kernel_rfl) rfl #[.slice A0 l.length c0] rfl (by (try simp only [List.map_toArray, List.map_cons, List.map_nil]); first | done | rfl | (simp only [List.length_drop, List.length_take]; rfl)) ?_; refine (weirlaw26_lent.calls A0 c0 l l (l ++ [weirlaw26_holder]) _ ?side1 hc0 hp.hlent).mono ?_; (case side1 => repeat (first | exact (Kd.C_below HR0.out HB.out) | (with_reducible refine Kd.C_alloc ?_ _) | (with_reducible refine Kd.C_drewN ?_ _) | (with_reducible refine Kd.C_drew ?_))); rintro e w1 ⟨v0, v1, rfl, ho0, ho1, hb, hLent⟩; refine ⟨_, rfl, ?_⟩; obtain ⟨Aw, cw, ew⟩ := Kd.R_slice ho0; obtain ⟨Ax, cx, ex⟩ := Kd.R_slice ho1; subst ew; subst ex; have HO0 := Aside0.mk (Kd.R_lower ho0 (below_size (by repeat (first | (with_reducible first | exact HB.out | apply below_alloc | apply pw_below_drewN | apply below_drew1) | exact HB.out)))); have HO1 := Aside0.mk (Kd.R_lower ho1 (below_size (by repeat (first | (with_reducible first | exact HB.out | apply below_alloc | apply pw_below_drewN | apply below_drew1) | exact HB.out)))); have HL := Aside0.mk hLent; have n1_ := Aside0.mk (below_step (by repeat (first | (with_reducible first | exact HB.out | apply below_alloc | apply pw_below_drewN | apply below_drew1) | exact HB.out)) hb); clear HB; have HB := n1_; clear n1_; clear hb ho0 ho1 hLent) | ((with_reducible refine gate_callee (f := 15) rfl ?_); refine goesL_ (some 21) rfl rfl Tryd.func15 (by kernel_rfl) rfl #[.slice Aw l.length cw, .int .i64 n] rfl (by (try simp only [List.map_toArray, List.map_cons, List.map_nil]); first | done | rfl | (simp only [List.length_drop, List.length_take]; rfl)) ?_; refine (All_calls k Aw cw l n r1 r2 _ (by have h_ := (Kd.R_reads' HO0.out).2.2; repeat (first | exact h_ | (with_reducible refine Kd.C_alloc ?_ _) | (with_reducible refine Kd.C_drewN ?_ _) | (with_reducible refine Kd.C_drew ?_))) (Kd.R_reads' HO0.out).2.1 hp.hnum hp.hlen hp.hcmp).mono ?_; rintro e w2 ⟨hb, hA1, hA2, hA3⟩; obtain rfl := hA1 hcase; refine ⟨_, rfl, ?_⟩; have n2_ := Aside0.mk (Kd.R_below (by (with_reducible repeat (first | apply Kd.R_alloc | apply Kd.R_drewN | apply Kd.R_drew)); exact HO0.out) hb); have n3_ := Aside0.mk (Kd.R_below (by (with_reducible repeat (first | apply Kd.R_alloc | apply Kd.R_drewN | apply Kd.R_drew)); exact HO1.out) hb); clear HO0 HO1; have HO0 := n2_; have HO1 := n3_; clear n2_ n3_; have n1_ := Aside0.mk (below_step (by repeat (first | (with_reducible first | exact HB.out | apply below_alloc | apply pw_below_drewN | apply below_drew1) | exact HB.out)) hb); clear HB; have HB := n1_; clear n1_; clear hb) | ((with_reducible refine gate_callee (f := 16) rfl ?_); refine goesL_ (some 27) rfl rfl Tryd.func16 (by kernel_rfl) rfl #[.slice A0 l.length c0, .int .i64 n, .int .i64 0] rfl (by (try simp only [List.map_toArray, List.map_cons, List.map_nil]); first | done | rfl | (simp only [List.length_drop, List.length_take]; rfl)) ?_; refine (refAll_calls k A0 c0 l n 0 (by omega) weirref26_names rfl q1 ok [] _ ?side1 hc0 ?side2 hp.href hp.hg0).mono ?_; (case side1 => repeat (first | exact (Kd.C_below HR0.out HB.out) | (with_reducible refine Kd.C_alloc ?_ _) | (with_reducible refine Kd.C_drewN ?_ _) | (with_reducible refine Kd.C_drew ?_))); (case side2 => repeat (first | exact (Kd.C_below HR5.out HB.out) | (with_reducible refine Kd.C_alloc ?_ _) | (with_reducible refine Kd.C_drewN ?_ _) | (with_reducible refine Kd.C_drew ?_))); rintro e w3 ⟨hb, hB1, hB2, hB3⟩; obtain rfl := hB1 hcase; refine ⟨_, rfl, ?_⟩; have n2_ := Aside0.mk (Kd.R_below (by (with_reducible repeat (first | apply Kd.R_alloc | apply Kd.R_drewN | apply Kd.R_drew)); exact HO0.out) hb); have n3_ := Aside0.mk (Kd.R_below (by (with_reducible repeat (first | apply Kd.R_alloc | apply Kd.R_drewN | apply Kd.R_drew)); exact HO1.out) hb); clear HO0 HO1; have HO0 := n2_; have HO1 := n3_; clear n2_ n3_; skip; have n1_ := Aside0.mk (below_step (by repeat (first | (with_reducible first | exact HB.out | apply below_alloc | apply pw_below_drewN | apply below_drew1) | exact HB.out)) hb); clear HB; have HB := n1_; clear n1_; clear hb) | (go_at_call 11; (with_reducible refine (weirlaw26_num.calls 4 4 _ rfl).mono ?_); rintro e w' ⟨rfl, ⟨nd, rfl⟩⟩) | (go_at_call 13; (with_reducible refine (weirlaw26_back.calls k Aw cw l A0 c0 l Ax cx (l ++ [weirlaw26_holder]) true _ ?side1 (Kd.R_reads' HO0.out).2.1 ?side3 hc0 ?side5 HL.out hp.hback).mono ?_); (case side1 => have h_ := (Kd.R_reads' HO0.out).2.2; repeat (first | exact h_ | (with_reducible refine Kd.C_alloc ?_ _) | (with_reducible refine Kd.C_drewN ?_ _) | (with_reducible refine Kd.C_drew ?_))); (case side3 => repeat (first | exact (Kd.C_below HR0.out HB.out) | (with_reducible refine Kd.C_alloc ?_ _) | (with_reducible refine Kd.C_drewN ?_ _) | (with_reducible refine Kd.C_drew ?_))); (case side5 => have h_ := (Kd.R_reads' HO1.out).2.2; repeat (first | exact h_ | (with_reducible refine Kd.C_alloc ?_ _) | (with_reducible refine Kd.C_drewN ?_ _) | (with_reducible refine Kd.C_drew ?_))); rintro e w' ⟨rfl, ⟨nd2, rfl⟩⟩))
  go_ret
  exact ⟨rfl, by repeat (first | (with_reducible first | exact HB.out | apply below_alloc | apply pw_below_drewN | apply below_drew1) | exact HB.out)⟩
set_option maxHeartbeats 16000000 in
set_option maxRecDepth 100000 in
theorem law_names (k : Nat) (A0 : Option Addr) (c0 : Nat) (l : List ByteArray) (n m : Int) (r1 : List Int) (r2 : Int) (q1 : List Int) (ok : Bool) (w : World) (hr0 : Kd.C Kd.string w A0 l.length l) (hc0 : l.length ≤ c0) (hr5 : Kd.C Kd.string w (some ⟨0, 0, none⟩) weirref26_names.length weirref26_names) (hp : LawPure k l n r1 r2 q1 ok) (h2 : 2 ≤ n) (h16 : n ≤ 16) (hr2 : 0 ≤ r2) :
    Calls Tryd.prog 4 #[.slice A0 l.length c0, .int .i64 n, .int .i64 m] w fun e w' => e = .returned (.bool true) ∧ Below w.heap.size w w' := by
  have HR0 := Aside0.mk hr0
  have HR5 := Aside0.mk hr5
  have HB := Aside0.mk (Below.refl w.heap.size w)
  have hok0 : ok = false := by
    cases h : ok with
    | false => rfl
    | true => have := hp.hok.1 h; omega
  go_enter Tryd.func4, Tryd.ntmps4
  go_wp2_with (first | ((with_reducible refine gate_callee (f := 6) rfl ?_); refine goesL_ (some 17) rfl rfl Tryd.func6 (by kernel_rfl) rfl #[.slice A0 l.length c0] rfl (by (try simp only [List.map_toArray, List.map_cons, List.map_nil]); first | done | rfl | (simp only [List.length_drop, List.length_take]; rfl)) ?_; refine (weirlaw26_lent.calls A0 c0 l l (l ++ [weirlaw26_holder]) _ ?side1 hc0 hp.hlent).mono ?_; (case side1 => repeat (first | exact (Kd.C_below HR0.out HB.out) | (with_reducible refine Kd.C_alloc ?_ _) | (with_reducible refine Kd.C_drewN ?_ _) | (with_reducible refine Kd.C_drew ?_))); rintro e w1 ⟨v0, v1, rfl, ho0, ho1, hb, hLent⟩; refine ⟨_, rfl, ?_⟩; obtain ⟨Aw, cw, ew⟩ := Kd.R_slice ho0; obtain ⟨Ax, cx, ex⟩ := Kd.R_slice ho1; subst ew; subst ex; have HO0 := Aside0.mk (Kd.R_lower ho0 (below_size (by repeat (first | (with_reducible first | exact HB.out | apply below_alloc | apply pw_below_drewN | apply below_drew1) | exact HB.out)))); have HO1 := Aside0.mk (Kd.R_lower ho1 (below_size (by repeat (first | (with_reducible first | exact HB.out | apply below_alloc | apply pw_below_drewN | apply below_drew1) | exact HB.out)))); have HL := Aside0.mk hLent; have n1_ := Aside0.mk (below_step (by repeat (first | (with_reducible first | exact HB.out | apply below_alloc | apply pw_below_drewN | apply below_drew1) | exact HB.out)) hb); clear HB; have HB := n1_; clear n1_; clear hb ho0 ho1 hLent) | ((with_reducible refine gate_callee (f := 15) rfl ?_); refine goesL_ (some 21) rfl rfl Tryd.func15 (by kernel_rfl) rfl #[.slice Aw l.length cw, .int .i64 n] rfl (by (try simp only [List.map_toArray, List.map_cons, List.map_nil]); first | done | rfl | (simp only [List.length_drop, List.length_take]; rfl)) ?_; refine (All_calls k Aw cw l n r1 r2 _ (by have h_ := (Kd.R_reads' HO0.out).2.2; repeat (first | exact h_ | (with_reducible refine Kd.C_alloc ?_ _) | (with_reducible refine Kd.C_drewN ?_ _) | (with_reducible refine Kd.C_drew ?_))) (Kd.R_reads' HO0.out).2.1 hp.hnum hp.hlen hp.hcmp).mono ?_; rintro e w2 ⟨hb, hA1, hA2, hA3⟩; obtain rfl := hA2 h2 h16 hr2; refine ⟨_, rfl, ?_⟩; have n2_ := Aside0.mk (Kd.R_below (by (with_reducible repeat (first | apply Kd.R_alloc | apply Kd.R_drewN | apply Kd.R_drew)); exact HO0.out) hb); have n3_ := Aside0.mk (Kd.R_below (by (with_reducible repeat (first | apply Kd.R_alloc | apply Kd.R_drewN | apply Kd.R_drew)); exact HO1.out) hb); clear HO0 HO1; have HO0 := n2_; have HO1 := n3_; clear n2_ n3_; have n1_ := Aside0.mk (below_step (by repeat (first | (with_reducible first | exact HB.out | apply below_alloc | apply pw_below_drewN | apply below_drew1) | exact HB.out)) hb); clear HB; have HB := n1_; clear n1_; clear hb) | ((with_reducible refine gate_callee (f := 16) rfl ?_); refine goesL_ (some 27) rfl rfl Tryd.func16 (by kernel_rfl) rfl #[.slice A0 l.length c0, .int .i64 n, .int .i64 0] rfl (by (try simp only [List.map_toArray, List.map_cons, List.map_nil]); first | done | rfl | (simp only [List.length_drop, List.length_take]; rfl)) ?_; refine (refAll_calls k A0 c0 l n 0 (by omega) weirref26_names rfl q1 ok [] _ ?side1 hc0 ?side2 hp.href hp.hg0).mono ?_; (case side1 => repeat (first | exact (Kd.C_below HR0.out HB.out) | (with_reducible refine Kd.C_alloc ?_ _) | (with_reducible refine Kd.C_drewN ?_ _) | (with_reducible refine Kd.C_drew ?_))); (case side2 => repeat (first | exact (Kd.C_below HR5.out HB.out) | (with_reducible refine Kd.C_alloc ?_ _) | (with_reducible refine Kd.C_drewN ?_ _) | (with_reducible refine Kd.C_drew ?_))); rintro e w3 ⟨hb, hB1, hB2, hB3⟩; obtain rfl := hB2 h2 h16 hok0; refine ⟨_, rfl, ?_⟩; have n2_ := Aside0.mk (Kd.R_below (by (with_reducible repeat (first | apply Kd.R_alloc | apply Kd.R_drewN | apply Kd.R_drew)); exact HO0.out) hb); have n3_ := Aside0.mk (Kd.R_below (by (with_reducible repeat (first | apply Kd.R_alloc | apply Kd.R_drewN | apply Kd.R_drew)); exact HO1.out) hb); clear HO0 HO1; have HO0 := n2_; have HO1 := n3_; clear n2_ n3_; skip; have n1_ := Aside0.mk (below_step (by repeat (first | (with_reducible first | exact HB.out | apply below_alloc | apply pw_below_drewN | apply below_drew1) | exact HB.out)) hb); clear HB; have HB := n1_; clear n1_; clear hb) | (go_at_call 11; (with_reducible refine (weirlaw26_num.calls 260 260 _ rfl).mono ?_); rintro e w' ⟨rfl, ⟨nd, rfl⟩⟩) | (go_at_call 13; (with_reducible refine (weirlaw26_back.calls k Aw cw l A0 c0 l Ax cx (l ++ [weirlaw26_holder]) true _ ?side1 (Kd.R_reads' HO0.out).2.1 ?side3 hc0 ?side5 HL.out hp.hback).mono ?_); (case side1 => have h_ := (Kd.R_reads' HO0.out).2.2; repeat (first | exact h_ | (with_reducible refine Kd.C_alloc ?_ _) | (with_reducible refine Kd.C_drewN ?_ _) | (with_reducible refine Kd.C_drew ?_))); (case side3 => repeat (first | exact (Kd.C_below HR0.out HB.out) | (with_reducible refine Kd.C_alloc ?_ _) | (with_reducible refine Kd.C_drewN ?_ _) | (with_reducible refine Kd.C_drew ?_))); (case side5 => have h_ := (Kd.R_reads' HO1.out).2.2; repeat (first | exact h_ | (with_reducible refine Kd.C_alloc ?_ _) | (with_reducible refine Kd.C_drewN ?_ _) | (with_reducible refine Kd.C_drew ?_))); rintro e w' ⟨rfl, ⟨nd2, rfl⟩⟩))
  go_ret
  exact ⟨rfl, by repeat (first | (with_reducible first | exact HB.out | apply below_alloc | apply pw_below_drewN | apply below_drew1) | exact HB.out)⟩
set_option maxHeartbeats 16000000 in
set_option maxRecDepth 100000 in
theorem law_many (k : Nat) (A0 : Option Addr) (c0 : Nat) (l : List ByteArray) (n m : Int) (r1 : List Int) (r2 : Int) (q1 : List Int) (ok : Bool) (w : World) (hr0 : Kd.C Kd.string w A0 l.length l) (hc0 : l.length ≤ c0) (hr5 : Kd.C Kd.string w (some ⟨0, 0, none⟩) weirref26_names.length weirref26_names) (hp : LawPure k l n r1 r2 q1 ok) (h2 : 2 ≤ n) (h16 : n ≤ 16) (hr2 : r2 < 0) (h5 : 5 < n) :
    Calls Tryd.prog 4 #[.slice A0 l.length c0, .int .i64 n, .int .i64 m] w fun e w' => e = .returned (.bool true) ∧ Below w.heap.size w w' := by
  have HR0 := Aside0.mk hr0
  have HR5 := Aside0.mk hr5
  have HB := Aside0.mk (Below.refl w.heap.size w)
  have hok1 : ok = true := hp.hok.2 hr2
  have h5b : decide (5 < n) = true := decide_eq_true h5
  go_enter Tryd.func4, Tryd.ntmps4
  go_wp2_with (first | ((with_reducible refine gate_callee (f := 6) rfl ?_); refine goesL_ (some 17) rfl rfl Tryd.func6 (by kernel_rfl) rfl #[.slice A0 l.length c0] rfl (by (try simp only [List.map_toArray, List.map_cons, List.map_nil]); first | done | rfl | (simp only [List.length_drop, List.length_take]; rfl)) ?_; refine (weirlaw26_lent.calls A0 c0 l l (l ++ [weirlaw26_holder]) _ ?side1 hc0 hp.hlent).mono ?_; (case side1 => repeat (first | exact (Kd.C_below HR0.out HB.out) | (with_reducible refine Kd.C_alloc ?_ _) | (with_reducible refine Kd.C_drewN ?_ _) | (with_reducible refine Kd.C_drew ?_))); rintro e w1 ⟨v0, v1, rfl, ho0, ho1, hb, hLent⟩; refine ⟨_, rfl, ?_⟩; obtain ⟨Aw, cw, ew⟩ := Kd.R_slice ho0; obtain ⟨Ax, cx, ex⟩ := Kd.R_slice ho1; subst ew; subst ex; have HO0 := Aside0.mk (Kd.R_lower ho0 (below_size (by repeat (first | (with_reducible first | exact HB.out | apply below_alloc | apply pw_below_drewN | apply below_drew1) | exact HB.out)))); have HO1 := Aside0.mk (Kd.R_lower ho1 (below_size (by repeat (first | (with_reducible first | exact HB.out | apply below_alloc | apply pw_below_drewN | apply below_drew1) | exact HB.out)))); have HL := Aside0.mk hLent; have n1_ := Aside0.mk (below_step (by repeat (first | (with_reducible first | exact HB.out | apply below_alloc | apply pw_below_drewN | apply below_drew1) | exact HB.out)) hb); clear HB; have HB := n1_; clear n1_; clear hb ho0 ho1 hLent) | ((with_reducible refine gate_callee (f := 15) rfl ?_); refine goesL_ (some 21) rfl rfl Tryd.func15 (by kernel_rfl) rfl #[.slice Aw l.length cw, .int .i64 n] rfl (by (try simp only [List.map_toArray, List.map_cons, List.map_nil]); first | done | rfl | (simp only [List.length_drop, List.length_take]; rfl)) ?_; refine (All_calls k Aw cw l n r1 r2 _ (by have h_ := (Kd.R_reads' HO0.out).2.2; repeat (first | exact h_ | (with_reducible refine Kd.C_alloc ?_ _) | (with_reducible refine Kd.C_drewN ?_ _) | (with_reducible refine Kd.C_drew ?_))) (Kd.R_reads' HO0.out).2.1 hp.hnum hp.hlen hp.hcmp).mono ?_; rintro e w2 ⟨hb, hA1, hA2, hA3⟩; obtain ⟨Be, Bn, Ae, ce, rfl, hCE, hce, hBe, hBn⟩ := hA3 h2 h16 hr2; refine ⟨_, rfl, ?_⟩; have n2_ := Aside0.mk (Kd.R_below (by (with_reducible repeat (first | apply Kd.R_alloc | apply Kd.R_drewN | apply Kd.R_drew)); exact HO0.out) hb); have n3_ := Aside0.mk (Kd.R_below (by (with_reducible repeat (first | apply Kd.R_alloc | apply Kd.R_drewN | apply Kd.R_drew)); exact HO1.out) hb); clear HO0 HO1; have HO0 := n2_; have HO1 := n3_; clear n2_ n3_; have n1_ := Aside0.mk (below_step (by repeat (first | (with_reducible first | exact HB.out | apply below_alloc | apply pw_below_drewN | apply below_drew1) | exact HB.out)) hb); clear HB; have HB := n1_; clear n1_; clear hb) | ((with_reducible refine gate_callee (f := 16) rfl ?_); refine goesL_ (some 27) rfl rfl Tryd.func16 (by kernel_rfl) rfl #[.slice A0 l.length c0, .int .i64 n, .int .i64 0] rfl (by (try simp only [List.map_toArray, List.map_cons, List.map_nil]); first | done | rfl | (simp only [List.length_drop, List.length_take]; rfl)) ?_; refine (refAll_calls k A0 c0 l n 0 (by omega) weirref26_names rfl q1 ok [] _ ?side1 hc0 ?side2 hp.href hp.hg0).mono ?_; (case side1 => repeat (first | exact (Kd.C_below HR0.out HB.out) | (with_reducible refine Kd.C_alloc ?_ _) | (with_reducible refine Kd.C_drewN ?_ _) | (with_reducible refine Kd.C_drew ?_))); (case side2 => repeat (first | exact (Kd.C_below HR5.out HB.out) | (with_reducible refine Kd.C_alloc ?_ _) | (with_reducible refine Kd.C_drewN ?_ _) | (with_reducible refine Kd.C_drew ?_))); rintro e w3 ⟨hb, hB1, hB2, hB3⟩; obtain ⟨vr, rfl, hLr⟩ := hB3 h2 h16 hok1; obtain ⟨Ar, cr, er, _, _⟩ := hLr.reads; subst er; refine ⟨_, rfl, ?_⟩; have n2_ := Aside0.mk (Kd.R_below (by (with_reducible repeat (first | apply Kd.R_alloc | apply Kd.R_drewN | apply Kd.R_drew)); exact HO0.out) hb); have n3_ := Aside0.mk (Kd.R_below (by (with_reducible repeat (first | apply Kd.R_alloc | apply Kd.R_drewN | apply Kd.R_drew)); exact HO1.out) hb); clear HO0 HO1; have HO0 := n2_; have HO1 := n3_; clear n2_ n3_; skip; have n1_ := Aside0.mk (below_step (by repeat (first | (with_reducible first | exact HB.out | apply below_alloc | apply pw_below_drewN | apply below_drew1) | exact HB.out)) hb); clear HB; have HB := n1_; clear n1_; clear hb) | (go_at_call 11; (with_reducible refine (weirlaw26_num.calls 0 0 _ rfl).mono ?_); rintro e w' ⟨rfl, ⟨nd, rfl⟩⟩) | (go_at_call 13; (with_reducible refine (weirlaw26_back.calls k Aw cw l A0 c0 l Ax cx (l ++ [weirlaw26_holder]) true _ ?side1 (Kd.R_reads' HO0.out).2.1 ?side3 hc0 ?side5 HL.out hp.hback).mono ?_); (case side1 => have h_ := (Kd.R_reads' HO0.out).2.2; repeat (first | exact h_ | (with_reducible refine Kd.C_alloc ?_ _) | (with_reducible refine Kd.C_drewN ?_ _) | (with_reducible refine Kd.C_drew ?_))); (case side3 => repeat (first | exact (Kd.C_below HR0.out HB.out) | (with_reducible refine Kd.C_alloc ?_ _) | (with_reducible refine Kd.C_drewN ?_ _) | (with_reducible refine Kd.C_drew ?_))); (case side5 => have h_ := (Kd.R_reads' HO1.out).2.2; repeat (first | exact h_ | (with_reducible refine Kd.C_alloc ?_ _) | (with_reducible refine Kd.C_drewN ?_ _) | (with_reducible refine Kd.C_drew ?_))); rintro e w' ⟨rfl, ⟨nd2, rfl⟩⟩))
  go_ret
  exact ⟨rfl, by repeat (first | (with_reducible first | exact HB.out | apply below_alloc | apply pw_below_drewN | apply below_drew1) | exact HB.out)⟩
set_option maxHeartbeats 16000000 in
set_option maxRecDepth 100000 in
theorem law_few (k : Nat) (A0 : Option Addr) (c0 : Nat) (l : List ByteArray) (n m : Int) (r1 : List Int) (r2 : Int) (q1 : List Int) (ok : Bool) (w : World) (hr0 : Kd.C Kd.string w A0 l.length l) (hc0 : l.length ≤ c0) (hr5 : Kd.C Kd.string w (some ⟨0, 0, none⟩) weirref26_names.length weirref26_names) (hp : LawPure k l n r1 r2 q1 ok) (h2 : 2 ≤ n) (hr2 : r2 < 0) (h5 : n ≤ 5) (hLl : l.length < 9223372036854775807) :
    Calls Tryd.prog 4 #[.slice A0 l.length c0, .int .i64 n, .int .i64 m] w fun e w' => e = .returned (.bool true) ∧ Below w.heap.size w w' := by
  have HR0 := Aside0.mk hr0
  have HR5 := Aside0.mk hr5
  have HB := Aside0.mk (Below.refl w.heap.size w)
  have h16 : n ≤ 16 := by omega
  have hok1 : ok = true := hp.hok.2 hr2
  have h5b : decide (5 < n) = false := decide_eq_false (by omega)
  go_enter Tryd.func4, Tryd.ntmps4
  go_wp2_with (first | ((with_reducible refine gate_callee (f := 6) rfl ?_); refine goesL_ (some 17) rfl rfl Tryd.func6 (by kernel_rfl) rfl #[.slice A0 l.length c0] rfl (by (try simp only [List.map_toArray, List.map_cons, List.map_nil]); first | done | rfl | (simp only [List.length_drop, List.length_take]; rfl)) ?_; refine (weirlaw26_lent.calls A0 c0 l l (l ++ [weirlaw26_holder]) _ ?side1 hc0 hp.hlent).mono ?_; (case side1 => repeat (first | exact (Kd.C_below HR0.out HB.out) | (with_reducible refine Kd.C_alloc ?_ _) | (with_reducible refine Kd.C_drewN ?_ _) | (with_reducible refine Kd.C_drew ?_))); rintro e w1 ⟨v0, v1, rfl, ho0, ho1, hb, hLent⟩; refine ⟨_, rfl, ?_⟩; obtain ⟨Aw, cw, ew⟩ := Kd.R_slice ho0; obtain ⟨Ax, cx, ex⟩ := Kd.R_slice ho1; subst ew; subst ex; have HO0 := Aside0.mk (Kd.R_lower ho0 (below_size (by repeat (first | (with_reducible first | exact HB.out | apply below_alloc | apply pw_below_drewN | apply below_drew1) | exact HB.out)))); have HO1 := Aside0.mk (Kd.R_lower ho1 (below_size (by repeat (first | (with_reducible first | exact HB.out | apply below_alloc | apply pw_below_drewN | apply below_drew1) | exact HB.out)))); have HL := Aside0.mk hLent; have n1_ := Aside0.mk (below_step (by repeat (first | (with_reducible first | exact HB.out | apply below_alloc | apply pw_below_drewN | apply below_drew1) | exact HB.out)) hb); clear HB; have HB := n1_; clear n1_; clear hb ho0 ho1 hLent) | ((with_reducible refine gate_callee (f := 15) rfl ?_); refine goesL_ (some 21) rfl rfl Tryd.func15 (by kernel_rfl) rfl #[.slice Aw l.length cw, .int .i64 n] rfl (by (try simp only [List.map_toArray, List.map_cons, List.map_nil]); first | done | rfl | (simp only [List.length_drop, List.length_take]; rfl)) ?_; refine (All_calls k Aw cw l n r1 r2 _ (by have h_ := (Kd.R_reads' HO0.out).2.2; repeat (first | exact h_ | (with_reducible refine Kd.C_alloc ?_ _) | (with_reducible refine Kd.C_drewN ?_ _) | (with_reducible refine Kd.C_drew ?_))) (Kd.R_reads' HO0.out).2.1 hp.hnum hp.hlen hp.hcmp).mono ?_; rintro e w2 ⟨hb, hA1, hA2, hA3⟩; obtain ⟨Be, Bn, Ae, ce, rfl, hCE, hce, hBe, hBn⟩ := hA3 h2 h16 hr2; refine ⟨_, rfl, ?_⟩; have n2_ := Aside0.mk (Kd.R_below (by (with_reducible repeat (first | apply Kd.R_alloc | apply Kd.R_drewN | apply Kd.R_drew)); exact HO0.out) hb); have n3_ := Aside0.mk (Kd.R_below (by (with_reducible repeat (first | apply Kd.R_alloc | apply Kd.R_drewN | apply Kd.R_drew)); exact HO1.out) hb); clear HO0 HO1; have HO0 := n2_; have HO1 := n3_; clear n2_ n3_; have n1_ := Aside0.mk (below_step (by repeat (first | (with_reducible first | exact HB.out | apply below_alloc | apply pw_below_drewN | apply below_drew1) | exact HB.out)) hb); clear HB; have HB := n1_; clear n1_; clear hb) | ((with_reducible refine gate_callee (f := 16) rfl ?_); refine goesL_ (some 27) rfl rfl Tryd.func16 (by kernel_rfl) rfl #[.slice A0 l.length c0, .int .i64 n, .int .i64 0] rfl (by (try simp only [List.map_toArray, List.map_cons, List.map_nil]); first | done | rfl | (simp only [List.length_drop, List.length_take]; rfl)) ?_; refine (refAll_calls k A0 c0 l n 0 (by omega) weirref26_names rfl q1 ok [] _ ?side1 hc0 ?side2 hp.href hp.hg0).mono ?_; (case side1 => repeat (first | exact (Kd.C_below HR0.out HB.out) | (with_reducible refine Kd.C_alloc ?_ _) | (with_reducible refine Kd.C_drewN ?_ _) | (with_reducible refine Kd.C_drew ?_))); (case side2 => repeat (first | exact (Kd.C_below HR5.out HB.out) | (with_reducible refine Kd.C_alloc ?_ _) | (with_reducible refine Kd.C_drewN ?_ _) | (with_reducible refine Kd.C_drew ?_))); rintro e w3 ⟨hb, hB1, hB2, hB3⟩; obtain ⟨vr, rfl, hLr⟩ := hB3 h2 h16 hok1; obtain ⟨Ar, cr, er, _, _⟩ := hLr.reads; subst er; refine ⟨_, rfl, ?_⟩; have n2_ := Aside0.mk (Kd.R_below (by (with_reducible repeat (first | apply Kd.R_alloc | apply Kd.R_drewN | apply Kd.R_drew)); exact HO0.out) hb); have n3_ := Aside0.mk (Kd.R_below (by (with_reducible repeat (first | apply Kd.R_alloc | apply Kd.R_drewN | apply Kd.R_drew)); exact HO1.out) hb); clear HO0 HO1; have HO0 := n2_; have HO1 := n3_; clear n2_ n3_; have HBe3 := Aside0.mk (show Boxed w3 Be 59 (.slice Ae (Lib.compact (sortI r1)).length ce) from (hb.block _ hBe.lt).trans hBe); have HBn3 := Aside0.mk (show Boxed w3 Bn 3 (.int .i64 n) from (hb.block _ hBn.lt).trans hBn); have HCE3 := Aside0.mk (hCE.below hb); have n1_ := Aside0.mk (below_step (by repeat (first | (with_reducible first | exact HB.out | apply below_alloc | apply pw_below_drewN | apply below_drew1) | exact HB.out)) hb); clear HB; have HB := n1_; clear n1_; clear hb) | (go_at_call 11; (with_reducible refine (weirlaw26_num.calls 0 0 _ rfl).mono ?_); rintro e w' ⟨rfl, ⟨nd, rfl⟩⟩) | (go_at_call 13; (with_reducible refine (weirlaw26_back.calls k Aw cw l A0 c0 l Ax cx (l ++ [weirlaw26_holder]) true _ ?side1 (Kd.R_reads' HO0.out).2.1 ?side3 hc0 ?side5 HL.out hp.hback).mono ?_); (case side1 => have h_ := (Kd.R_reads' HO0.out).2.2; repeat (first | exact h_ | (with_reducible refine Kd.C_alloc ?_ _) | (with_reducible refine Kd.C_drewN ?_ _) | (with_reducible refine Kd.C_drew ?_))); (case side3 => repeat (first | exact (Kd.C_below HR0.out HB.out) | (with_reducible refine Kd.C_alloc ?_ _) | (with_reducible refine Kd.C_drewN ?_ _) | (with_reducible refine Kd.C_drew ?_))); (case side5 => have h_ := (Kd.R_reads' HO1.out).2.2; repeat (first | exact h_ | (with_reducible refine Kd.C_alloc ?_ _) | (with_reducible refine Kd.C_drewN ?_ _) | (with_reducible refine Kd.C_drew ?_))); rintro e w' ⟨rfl, ⟨nd2, rfl⟩⟩))
  obtain ⟨items, hgw, hnd, hsp, hsm⟩ := hp.hmain h2 h5 hok1
  obtain ⟨want, hwant_⟩ : ∃ x, x = items.take 60 := ⟨_, rfl⟩
  rw [← hwant_] at hgw
  obtain ⟨mm, hM1⟩ : ∃ mm : Int, (if 60 < m then (60 : Int) else m) = mm := ⟨_, rfl⟩
  obtain ⟨M, hM2⟩ : ∃ M : Int, (if 0 < mm then mm else 0) = M := ⟨_, rfl⟩
  obtain ⟨itM, hitM_⟩ : ∃ x, x = items.take M.toNat := ⟨_, rfl⟩
  obtain ⟨q, hM3⟩ : ∃ q : Int, (if (want.length : Int) < M then (want.length : Int) else M) = q := ⟨_, rfl⟩
  have hM60 : M ≤ 60 := by rw [← hM2, ← hM1]; split <;> (try split) <;> omega
  have hM0 : 0 ≤ M := by rw [← hM2]; split <;> omega
  have hwl : want.length = min 60 items.length := by rw [hwant_, List.length_take]
  have hil : itM.length = min M.toNat items.length := by rw [hitM_, List.length_take]
  have hq0 : 0 ≤ q := by rw [← hM3]; split <;> omega
  have hqn : Aside0 (q.toNat ≤ want.length) := ⟨by rw [← hM3]; split <;> omega⟩
  have hqm : q.toNat = min M.toNat want.length := by rw [← hM3]; split <;> omega
  have hql : Aside0 (want.take q.toNat = itM) := ⟨by rw [hwant_, List.take_take, hitM_, List.take_eq_take_iff]; omega⟩
  have hqe : itM.length = q.toNat := by omega
  have hqw : Aside0 (itM.length ≤ want.length) := ⟨by omega⟩
  have hqi : Aside0 (q ≤ (want.length : Int)) := ⟨by rw [← hM3]; split <;> omega⟩
  have hs1 : weirlaw26_sameAll.f k itM itM = some true := by rw [hitM_]; exact hsm _ (by omega)
  have hs2 : weirlaw26_sameAll.f k want want = some true := by rw [hwant_]; exact hsm _ (by omega)
  have hS1 : ∀ (W : World) (A : Option Addr) (c : Nat) (A' : Option Addr) (c' : Nat), itM.length ≤ c → itM.length ≤ c' → Kd.C (Kd.slice 9 Kd.string) W A itM.length itM → Kd.C (Kd.slice 9 Kd.string) W A' itM.length itM → Calls Tryd.prog 18 #[.slice A itM.length c, .slice A' q.toNat c'] W fun e w' => e = .returned (.bool true) ∧ Drawn0 W w' := fun W A c A' c' h1 h2 h3 h4 => by rw [← hqe]; exact weirlaw26_sameAll.calls k A c itM A' c' itM true W h3 h1 h4 h2 hs1
  have hS2 : ∀ (W : World) (A : Option Addr) (c : Nat) (A' : Option Addr) (c' : Nat), want.length ≤ c → want.length ≤ c' → Kd.C (Kd.slice 9 Kd.string) W A want.length want → Kd.C (Kd.slice 9 Kd.string) W A' want.length want → Calls Tryd.prog 18 #[.slice A want.length c, .slice A' want.length c'] W fun e w' => e = .returned (.bool true) ∧ Drawn0 W w' := fun W A c A' c' h1 h2 h3 h4 => weirlaw26_sameAll.calls k A c want A' c' want true W h3 h1 h4 h2 hs2
  have hwant := Aside0.mk hwant_
  have hitM := Aside0.mk hitM_
  have hIM : Aside0 (∀ x ∈ itM, x ∈ items) := ⟨fun x hx => by rw [hitM_] at hx; exact List.mem_of_mem_take hx⟩
  have hwl60 : Aside0 (want.length ≤ 60) := ⟨by omega⟩
  clear hwant_ hitM_ hwl hil hqm hqe hs1 hs2 hsm
  go_loopg [12] l.length (fun kq v12 w' => ∃ (x12 : Int) (xs : List ByteArray), v12 = .int .i64 x12 ∧ Aside0 (0 ≤ x12) ∧ Aside0 (x12 + (kq : Int) = (l.length : Int)) ∧ Aside0 (xs.length = l.length) ∧ Aside0 (Kd.R Kd.string 9 w' w.heap.size (fun _ => True) (.slice Aw l.length cw) xs) ∧ Aside0 (Boxed w' Be 59 (.slice Ae (Lib.compact (sortI r1)).length ce)) ∧ Aside0 (Boxed w' Bn 3 (.int .i64 n)) ∧ Aside0 (CT (Kd.int .i64) 3 w' Ae (Lib.compact (sortI r1)).length (Lib.compact (sortI r1))) ∧ Aside0 (Below w.heap.size w w'))
  case atStart => exact ⟨0, l, rfl, ⟨by omega⟩, ⟨by omega⟩, ⟨rfl⟩, ⟨(by (with_reducible repeat (first | apply Kd.R_alloc | apply Kd.R_drewN | apply Kd.R_drew)); exact HO0.out)⟩, ⟨HBe3.out⟩, ⟨HBn3.out⟩, ⟨HCE3.out.below (by first | exact Below.refl _ _ | exact pw_below_drewN (Below.refl _ _) _)⟩, ⟨by repeat (first | (with_reducible first | exact HB.out | apply below_alloc | apply pw_below_drewN | apply below_drew1) | exact HB.out)⟩⟩
  case round =>
    clear HO0 HO1 HL HBe3 HBn3 HCE3 HB
    obtain ⟨x12, xs, rfl, HA0, HA1, HXL, HO0, HBe, HBn, HCE, HB⟩ := hrel
    by_cases c2 : x12 < (l.length : Int)
    · have c2b0 : decide (x12 < (l.length : Int)) = true := decide_eq_true c2
      obtain ⟨k1, rfl⟩ : ∃ k1, gk = k1 + 1 := ⟨gk - 1, by have := HA1.out; omega⟩
      obtain ⟨go4, co4, eo4, gb4, gl4, cl4, HG4⟩ := Kd.R_form HO0.out (by have := HXL.out; have := HA0.out; omega)
      injection eo4 with ea_ en_ ec_
      subst ea_
      subst ec_
      have p4 : 0 ≤ x12 := HA0.out
      have q4 : x12 < (l.length : Int) := c2
      obtain ⟨hx4_0, hf4_0⟩ := Kd.R_celln (⟨#[]⟩ : ByteArray) HO0.out x12 p4 q4
      have HP6 := Kd.R_putg HO0.out x12 (⟨#[115, 112, 111, 105, 108, 116]⟩ : ByteArray)
      have hne : ∀ (B t : Nat) (v : Value), Boxed wr B t v → t ≠ 9 → B ≠ go4 := fun B t v hB ht e => by
        subst e
        rw [show wr.heap[B]? = _ from hB] at HG4
        injection HG4 with HG4
        injection HG4 with _ e2
        exact ht e2
      have hnc : ∀ {ad : Addr} {cells : Array Value}, wr.heap[ad.block]? = some (Obj.cells cells 3 (0, 0)) → ad.block ≠ go4 := fun {ad cells} hB e => by
        rw [e, HG4] at hB
        injection hB with hB
        injection hB with _ e2
        exact absurd e2 (by decide)
      have HSC := HA0.out
      replace p4 := eq_true p4
      replace q4 := eq_true q4
      go_wp2
      go_roundg k1
      case measure => omega
      case rel => exact ⟨x12 + 1, xs.set x12.toNat (⟨#[115, 112, 111, 105, 108, 116]⟩ : ByteArray), rfl, ⟨by have h_ := HA1.out; omega⟩, ⟨by have h_ := HA1.out; omega⟩, ⟨by rw [List.length_set]; exact HXL.out⟩, ⟨HP6.1⟩,
        ⟨(Below.heap_setCell _ _ _ _ (hne _ _ _ HBe.out (by decide))).trans HBe.out⟩, ⟨(Below.heap_setCell _ _ _ _ (hne _ _ _ HBn.out (by decide))).trans HBn.out⟩, ⟨CT_set HCE.out (fun ad cells _ hB => hnc hB)⟩, ⟨HB.out.setCell (p := ⟨go4, x12.toNat, none⟩) gb4 _⟩⟩
    · have c2b0 : decide (x12 < (l.length : Int)) = false := decide_eq_false c2
      have hq0' := eq_true hq0
      go_wp2_with (first | ((with_reducible refine gate_callee (f := 16) rfl ?_); refine goesL_ (some 68) rfl rfl Tryd.func16 (by kernel_rfl) rfl #[.slice A0 l.length c0, .int .i64 n, .int .i64 60] rfl (by (try simp only [List.map_toArray, List.map_cons, List.map_nil]); first | done | rfl | (simp only [List.length_drop, List.length_take]; rfl)) ?_; refine (refAll_calls k A0 c0 l n 60 (by omega) weirref26_names rfl q1 ok want _ ?side1 hc0 ?side2 hp.href (fun _ _ _ => hgw)).mono ?_; (case side1 => repeat (first | exact (Kd.C_below HR0.out HB.out) | (with_reducible refine Kd.C_alloc ?_ _) | (with_reducible refine Kd.C_drewN ?_ _) | (with_reducible refine Kd.C_drew ?_))); (case side2 => repeat (first | exact (Kd.C_below HR5.out HB.out) | (with_reducible refine Kd.C_alloc ?_ _) | (with_reducible refine Kd.C_drewN ?_ _) | (with_reducible refine Kd.C_drew ?_))); rintro e w6 ⟨hb, _, _, hB3⟩; obtain ⟨vr, rfl, hLw⟩ := hB3 h2 h16 hok1; obtain ⟨Ar, cr, er, hcr, _⟩ := hLw.reads; subst er; refine ⟨_, rfl, ?_⟩; have HBe6 : Boxed w6 Be _ _ := (hb.block _ HBe.out.lt).trans HBe.out; have HBn6 : Boxed w6 Bn _ _ := (hb.block _ HBn.out.lt).trans HBn.out; have HCE6 := HCE.out.below hb; have n1_ := Aside0.mk (below_step (by repeat (first | (with_reducible first | exact HB.out | apply below_alloc | apply pw_below_drewN | apply below_drew1) | exact HB.out)) hb); clear HB; have HB := n1_; clear n1_; have HB60 := HB; clear hb) | ((with_reducible refine gate_callee (f := 17) rfl ?_); refine goesL_ (some 73) rfl rfl Tryd.func17 (by kernel_rfl) rfl #[.func (.func 36) #[] #[.pointer (some ⟨Be, 0, none⟩), .pointer (some ⟨Bn, 0, none⟩)], .int .i64 M] rfl (by (try simp only [List.map_toArray, List.map_cons, List.map_nil]); first | done | rfl | (simp only [List.length_drop, List.length_take]; rfl)) ?_; refine (first_calls k Ae ce _ n items Be Bn M w6 hM60 HCE6 hce HBe6.cell HBn6.cell hnd).mono ?_; rintro e w7 ⟨hb7, va, rfl, hCa⟩; rw [← hitM.out] at hCa; refine ⟨_, rfl, ?_⟩; obtain ⟨Aa, ca, ea, hca, _⟩ := hCa.lists.reads; subst ea; have HBe7 : Boxed w7 Be _ _ := (hb7.block _ HBe6.lt).trans HBe6; have HBn7 : Boxed w7 Bn _ _ := (hb7.block _ HBn6.lt).trans HBn6; have HCE7 := HCE6.below hb7; have n1_ := Aside0.mk (below_step HB.out hb7); clear HB; have HB := n1_; clear n1_) | ((with_reducible refine gate_callee (f := 17) rfl ?_); refine goesL_ (some 75) rfl rfl Tryd.func17 (by kernel_rfl) rfl #[.func (.func 36) #[] #[.pointer (some ⟨Be, 0, none⟩), .pointer (some ⟨Bn, 0, none⟩)], .int .i64 60] rfl (by (try simp only [List.map_toArray, List.map_cons, List.map_nil]); first | done | rfl | (simp only [List.length_drop, List.length_take]; rfl)) ?_; refine (first_calls k Ae ce _ n items Be Bn 60 w7 (by omega) HCE7 hce HBe7.cell HBn7.cell hnd).mono ?_; rintro e w8 ⟨hb8, vb, rfl, hCb⟩; rw [show (60 : Int).toNat = 60 from rfl, ← hwant.out] at hCb; refine ⟨_, rfl, ?_⟩; obtain ⟨Ab, cb, eb, hcb, hCb8⟩ := hCb.lists.reads; subst eb; obtain ⟨Aa_, ca_, ea_, _, hCa8⟩ := (hCa.lists.below hb8).reads; obtain ⟨Ar_, cr_, er_, _, hCr8⟩ := (hLw.below (hb7.trans (hb8.mono hb7.size))).reads; injection ea_ with ea1_ _ ea2_; subst ea1_; subst ea2_; injection er_ with er1_ _ er2_; subst er1_; subst er2_; have hCq8 : Kd.C (Kd.slice 9 Kd.string) w8 Ar itM.length itM := (by have h_ := Kd.C_take hCr8 hqn.out; rw [hql.out] at h_; exact h_); have n1_ := Aside0.mk (below_step HB.out hb8); clear HB; have HB := n1_; clear n1_) | (go_at_call 18; (with_reducible refine (hS1 _ _ _ _ _ hca (Nat.le_trans hqw.out hcr) ?c1 ?c2).mono ?_); (case c1 => exact (by have h_ := hCa8; repeat (first | exact h_ | (with_reducible refine Kd.C_drewN ?_ _) | (with_reducible refine Kd.C_drew ?_)))); (case c2 => exact (by have h_ := hCq8; repeat (first | exact h_ | (with_reducible refine Kd.C_drewN ?_ _) | (with_reducible refine Kd.C_drew ?_)))); rintro e w' ⟨rfl, ⟨nd3, rfl⟩⟩) | (go_at_call 18; (with_reducible refine (hS2 _ _ _ _ _ hcb hcr ?c1 ?c2).mono ?_); (case c1 => exact (by have h_ := hCb8; repeat (first | exact h_ | (with_reducible refine Kd.C_drewN ?_ _) | (with_reducible refine Kd.C_drew ?_)))); (case c2 => exact (by have h_ := hCr8; repeat (first | exact h_ | (with_reducible refine Kd.C_drewN ?_ _) | (with_reducible refine Kd.C_drew ?_)))); rintro e w' ⟨rfl, ⟨nd4, rfl⟩⟩))
      obtain ⟨vs, hrowA, helA, hneA⟩ := hCa
      have hlt7 : ∀ (j : Nat) (u : Value) (x : List ByteArray), vs[j]? = some u → itM[j]? = some x → ∀ k_, u.ownBlock = some k_ → k_ < w7.heap.size ∧ w6.heap.size ≤ k_ := fun j u x hu hx k_ hk_ => by
        obtain ⟨inn, ho⟩ := Kd.R_own (helA j u x hu hx)
        exact ⟨own_lt ho k_ hk_, own_base ho k_ hk_⟩
      have hvl : vs.length = itM.length := by have := hrowA.1; omega
      have HLT := Aside0.mk hlt7
      have HVL := Aside0.mk hvl
      clear hvl hlt7
      go_loopg [15] itM.length (fun kq v15 w' => ∃ (x15 : Int), v15 = .int .i64 x15 ∧ Aside0 (0 ≤ x15) ∧ Aside0 (x15 + (kq : Int) = (itM.length : Int)) ∧ Aside0 (Below w6.heap.size w6 w') ∧ Aside0 (w8.heap.size ≤ w'.heap.size ∧ ∀ k_, w7.heap.size ≤ k_ → k_ < w8.heap.size → w'.heap[k_]? = w8.heap[k_]?) ∧ Aside0 (w'.ownsRow w6.heap.size 22 1 (.slice Aa itM.length ca) itM.length vs) ∧ Aside0 (∀ (j : Nat) (u : Value) (x : List ByteArray), x15.toNat ≤ j → vs[j]? = some u → itM[j]? = some x → Kd.R Kd.string 9 w' w6.heap.size (fun _ => True) u x) ∧ Aside0 (Below w.heap.size w w'))
      case atStart => exact ⟨0, rfl, ⟨by omega⟩, ⟨by omega⟩, ⟨pw_below_drewN (hb7.trans (hb8.mono hb7.size)) _⟩, ⟨Nat.le_refl _, fun _ _ _ => rfl⟩, ⟨pw_own_drewN (own_move hrowA (fun k_ hk_ => hb8.block k_ (own_lt hrowA k_ hk_))) _⟩, ⟨fun j u x _ hu hx => Kd.R_drewN (Kd.R_below (helA j u x hu hx) hb8) _⟩, ⟨pw_below_drewN HB.out _⟩⟩
      case round =>
        clear HB
        obtain ⟨x15, rfl, HA0, HA1, HB6, HK8, HRW, HEL, HB⟩ := hrel
        by_cases c5 : x15 < (itM.length : Int)
        · have c5b0 : decide (x15 < (itM.length : Int)) = true := decide_eq_true c5
          obtain ⟨k1, rfl⟩ : ∃ k1, gk = k1 + 1 := ⟨gk - 1, by have := HA1.out; omega⟩
          have hx0 := HA0.out
          have hji : x15.toNat < itM.length := by omega
          have hjv : x15.toNat < vs.length := by have := HVL.out; omega
          have hxj : itM[x15.toNat]? = some itM[x15.toNat] := List.getElem?_eq_getElem hji
          have huj : vs[x15.toNat]? = some vs[x15.toNat] := List.getElem?_eq_getElem hjv
          obtain ⟨x, hxx⟩ : ∃ x, x = itM[x15.toNat] := ⟨_, rfl⟩
          rw [← hxx] at hxj
          have hxm : x ∈ items := hIM.out x (List.mem_of_getElem? hxj)
          have hru0 := HEL.out x15.toNat _ x (Nat.le_refl _) huj hxj
          obtain ⟨Au, cu, eu⟩ := Kd.R_slice hru0
          rw [eu] at huj hru0
          obtain ⟨ga, capa, ea⟩ : ∃ ga capa, Value.slice Aa itM.length ca = .slice (some ⟨ga, 0, none⟩) itM.length capa := by
            rcases HRW.out.2 with ⟨_, h0⟩ | ⟨g, cap, cur, e, _⟩
            · omega
            · exact ⟨g, cap, e⟩
          injection ea with ea1 _ ea2
          subst ea1
          subst ea2
          have hcell : wr.cell? ⟨ga, x15.toNat, none⟩ = some (.slice Au x.length cu) := by rw [HRW.out.cellAt x15.toNat (by omega)]; exact huj
          have hown : ∀ k_, (Value.slice Au x.length cu).ownBlock = some k_ → k_ < w7.heap.size ∧ w6.heap.size ≤ k_ := HLT.out x15.toNat _ x huj hxj
          have hnr : ∀ k_, (Value.slice Au x.length cu).ownBlock = some k_ → k_ ≠ ga := fun k_ hk_ e => by
            obtain ⟨inn, ho⟩ := Kd.R_own hru0
            obtain ⟨cells, hc⟩ := own_typed ho k_ hk_
            obtain ⟨cells', hc'⟩ := own_typed HRW.out ga (by simp [Value.ownBlock])
            rw [e, hc'] at hc
            injection hc with hc
            injection hc with _ e2
            exact absurd e2 (by decide)
          have HU := Aside0.mk (And.intro huj hxj)
          have HRU := Aside0.mk hru0
          have HOW := Aside0.mk hown
          have HNR := Aside0.mk hnr
          have p5 := eq_true hx0
          have q5 := eq_true c5
          have HJ := Aside0.mk hji
          clear hxx huj hxj hru0 hown hnr eu
          go_wp2_with (first | (go_at_call 14; (refine (weirlaw26_spoil.calls k (fun k_ => (Value.slice Au x.length cu).ownBlock = some k_) _ x w6 _ ?sb ?so (hsp x hxm)).mono ?_; (case sb => exact HB6.out); (case so => exact Kd.R_mono (R_self HRU.out) (fun _ h_ => h_)); rintro e w9 ⟨rfl, hb9, hk9⟩)))
          go_roundg k1
          case measure => omega
          case rel =>
            have hl60 : itM.length ≤ 60 := Nat.le_trans hqw.out hwl60.out
            have hx1 : wrap64 (x15 + 1) = x15 + 1 := by unfold wrap64; omega
            refine ⟨wrap64 (x15 + 1), rfl, ⟨by rw [hx1]; omega⟩, ⟨by rw [hx1]; have := HA1.out; omega⟩, ⟨hb9⟩, ⟨Nat.le_trans HK8.out.1 hk9.1, fun k_ h1_ h2_ => ?_⟩, ⟨own_move HRW.out (fun k_ hk_ => hk9.2 k_ (own_lt HRW.out k_ hk_) (fun ho_ => HNR.out k_ ho_ (by simpa [Value.ownBlock] using hk_.symm)))⟩, ⟨fun j u' y hj hu hy => ?_⟩, ⟨HB60.out.trans (hb9.mono HB60.out.size)⟩⟩
            · exact (hk9.2 k_ (Nat.lt_of_lt_of_le h2_ HK8.out.1) (fun ho_ => by have := (HOW.out k_ ho_).1; omega)).trans (HK8.out.2 k_ h1_ h2_)
            · rw [hx1] at hj
              have hr_ := HEL.out j u' y (by omega) hu hy
              exact Kd.R_mono (Kd.R_step (R_self hr_) (fun k_ ho_ hl_ => hk9.2 k_ hl_ (fun h_ => hneA x15.toNat j _ u' (by omega) HU.out.1 hu k_ h_ ho_))) (fun _ _ => trivial)
        · have c5b0 : decide (x15 < (itM.length : Int)) = false := decide_eq_false c5
          have HBe9 : Boxed wr Be 59 _ := (HB6.out.block _ HBe6.lt).trans HBe6
          have HBn9 : Boxed wr Bn 3 _ := (HB6.out.block _ HBn6.lt).trans HBn6
          have HCE9 := HCE6.below HB6.out
          obtain ⟨vsb, hCVb⟩ := hCb
          have hCb9' : Coll w7.heap.size wr (.slice Ab want.length cb) want := ⟨vsb, hCVb.move fun k_ cells t hk_ hc_ _ => HK8.out.2 k_ hk_ (Array.getElem?_eq_some_iff.1 hc_).1⟩
          obtain ⟨Ab_, cb_, eb_, _, hCb9⟩ := hCb9'.lists.reads
          injection eb_ with eb1_ _ eb2_
          subst eb1_
          subst eb2_
          obtain ⟨Ar9, cr9, er9, _, hCr9⟩ := (hLw.below HB6.out).reads
          injection er9 with er91 _ er92
          subst er91
          subst er92
          go_wp2_with (first | (go_at_call 18; (with_reducible refine (hS2 _ _ _ _ _ hcb hcr ?c1 ?c2).mono ?_); (case c1 => exact (by have h_ := hCb9; repeat (first | exact h_ | (with_reducible refine Kd.C_drewN ?_ _) | (with_reducible refine Kd.C_drew ?_)))); (case c2 => exact (by have h_ := hCr9; repeat (first | exact h_ | (with_reducible refine Kd.C_drewN ?_ _) | (with_reducible refine Kd.C_drew ?_)))); rintro e w' ⟨rfl, ⟨nd5, rfl⟩⟩) | (go_at_call 17; (refine (first_calls k Ae ce _ n items Be Bn 60 (wr.drewN nd5) (by omega) (HCE9.below (pw_below_drewN (Below.refl _ _) _)) hce HBe9.cell HBn9.cell hnd).mono ?_); rintro e w10 ⟨hb10, vc, rfl, hCc⟩; rw [show (60 : Int).toNat = 60 from rfl, ← hwant.out] at hCc; obtain ⟨Ac, cc, ec, hcc, hCc10⟩ := hCc.lists.reads; subst ec; have hCr10 := Kd.C_below (show Kd.C (Kd.slice 9 Kd.string) (wr.drewN nd5) Ar want.length want from (Kd.C_drewN hCr9 _)) hb10; have n1_ := Aside0.mk (below_step (pw_below_drewN HB.out nd5) hb10); clear HB; have HB := n1_; clear n1_) | (go_at_call 18; (with_reducible refine (hS2 _ _ _ _ _ hcc hcr ?c1 ?c2).mono ?_); (case c1 => exact (by have h_ := hCc10; repeat (first | exact h_ | (with_reducible refine Kd.C_drewN ?_ _) | (with_reducible refine Kd.C_drew ?_)))); (case c2 => exact (by have h_ := hCr10; repeat (first | exact h_ | (with_reducible refine Kd.C_drewN ?_ _) | (with_reducible refine Kd.C_drew ?_)))); rintro e w' ⟨rfl, ⟨nd6, rfl⟩⟩))
          go_ret
          exact ⟨rfl, by repeat (first | (with_reducible first | exact HB.out | apply below_alloc | apply pw_below_drewN | apply below_drew1) | exact HB.out)⟩
theorem law_calls (k : Nat) (A0 : Option Addr) (c0 : Nat) (l : List ByteArray) (n m : Int) (r1 : List Int) (r2 : Int) (q1 : List Int) (ok : Bool) (w : World) (hr0 : Kd.C Kd.string w A0 l.length l) (hc0 : l.length ≤ c0) (hr5 : Kd.C Kd.string w (some ⟨0, 0, none⟩) weirref26_names.length weirref26_names) (hp : LawPure k l n r1 r2 q1 ok) (hl : l.length < 9223372036854775807) :
    Calls Tryd.prog 4 #[.slice A0 l.length c0, .int .i64 n, .int .i64 m] w fun e w' => e = .returned (.bool true) ∧ Below w.heap.size w w' := by
  by_cases h1 : n < 2 ∨ 16 < n
  · exact law_range k A0 c0 l n m r1 r2 q1 ok w hr0 hc0 hr5 hp h1
  by_cases h2 : 0 ≤ r2
  · exact law_names k A0 c0 l n m r1 r2 q1 ok w hr0 hc0 hr5 hp (by omega) (by omega) h2
  by_cases h3 : 5 < n
  · exact law_many k A0 c0 l n m r1 r2 q1 ok w hr0 hc0 hr5 hp (by omega) (by omega) (by omega) h3
  · exact law_few k A0 c0 l n m r1 r2 q1 ok w hr0 hc0 hr5 hp (by omega) (by omega) (by omega) hl
end Go.Proofs.YtjclpkddfpbdcaaDoor.Lay
