/- weirlaw30.HistTexts: part of the proof (a value semantics for the model's code, and the functions told by it). -/
import Derived.Test.YtdfajmeabnmhjaaGreatDoorA20
import Derived.Test.YtdfajmeabnmhjaaGreatDoorProg
import Derived.KernelRfl
import Derived.Lib.ItoaNum
import Derived.Shelf.Strings.Builder1
import Derived.Shelf.Strings.Builder2
import Derived.Shelf.Strings.OnBuilder
import Derived.Shelf.Small.Bits
import Derived.Shelf.Small.Strs
import Derived.Shelf.Strings.BuilderF
import Derived.Shelf.Strings.BuilderK
import Derived.Shelf.Strconv.Itoa0
import Derived.Shelf.Strconv.Itoa1
import Derived.Shelf.LaysM
import Derived.Shelf.Strconv.Itoa2
import Derived.Shelf.Strconv.Itoa3
import Derived.Shelf.Strconv.Itoa4
import Derived.Shelf.Strings.Prefix
import Derived.Shelf.Bits.Mul64
import Derived.Shelf.Strings.Repeat
set_option linter.unusedSimpArgs false
set_option linter.unusedVariables false
set_option linter.deprecated false
set_option linter.unusedSectionVars false
set_option linter.defProp false
section
set_option maxRecDepth 10000
namespace Go.Ve.H
open Go Go.Proofs Go.Ve
def G0 : Nat → Option (List PV) := fun g => if g = 1 then some (Lib.pow10Tab.map fun z => .val (.int .u64 z)) else none
noncomputable def E0 : Env := ⟨Tryz.prog, G0, none, none, 0, [], false⟩
theorem E0_vc : E0.vc = [] := rfl
noncomputable def E1 : Env := ⟨Tryz.prog, G0, none, none, 0, [], true⟩
theorem mixed : Tryz.prog.follows .mixedOrders = true := by kernel_rfl
def DN : FuncId → Option CB := fun _ => none
theorem DN_ok : AllB E0 DN := fun g c h => by simp [DN] at h
theorem fa27_3 (v : PV) : faP Tryz.prog 27 3 v = faQ 1 3 v := fa_q (ty := 23) (by kernel_rfl) (by kernel_rfl) v
theorem ag23 : aggT Tryz.prog 23 = some false := by kernel_rfl
theorem sz23 : sz Tryz.prog 23 = 1 := by kernel_rfl
theorem zd23 : zD Tryz.prog 23 = (.sl 0 [] true) := by kernel_rfl
theorem ag27 : aggT Tryz.prog 27 = some true := by kernel_rfl
theorem sz27 : sz Tryz.prog 27 = 5 := by kernel_rfl
theorem zp27 : zeroP Tryz.prog 27 = some (.agg (.val (.string { data := #[] }) :: (.val (.int .i64 0) :: (.sl 0 [] true :: (.sl 0 [] true :: (.sl 0 [] true :: [])))))) := by kernel_rfl
theorem ld27 (M : List Blk) (cs : List PV) (o : Nat) : loadP Tryz.prog M 27 (.vptr cs o) = if o + 5 ≤ cs.length then some (.agg ((cs.drop o).take 5)) else none := ld_t (by kernel_rfl) (by kernel_rfl) M cs o
theorem sz45 : sz Tryz.prog 45 = 2 := by kernel_rfl
theorem zs45 : zsz Tryz.prog 45 = some 2 := by kernel_rfl
theorem fa27_2 (v : PV) : faP Tryz.prog 27 2 v = faQ 1 2 v := fa_q (ty := 22) (by kernel_rfl) (by kernel_rfl) v
theorem ag22 : aggT Tryz.prog 22 = some false := by kernel_rfl
theorem sz22 : sz Tryz.prog 22 = 1 := by kernel_rfl
theorem zd22 : zD Tryz.prog 22 = (.sl 0 [] true) := by kernel_rfl
theorem by45 : byt Tryz.prog 45 = 24 := by kernel_rfl
theorem bu45 (ps : List (Nat × PV)) : buildP Tryz.prog 45 ps = (fillP (fun i => ([(0, 1), (1, 1)] : List (Nat × Nat))[i]?) (.val (.int .i64 0) :: (.val (.string { data := #[] }) :: [])) ps).map .agg := by kernel_rfl
theorem zd45 : zD Tryz.prog 45 = (.agg (.val (.int .i64 0) :: (.val (.string { data := #[] }) :: []))) := by kernel_rfl
theorem sz50 : sz Tryz.prog 50 = 50 := by kernel_rfl
theorem zs50 : zsz Tryz.prog 50 = some 50 := by kernel_rfl
theorem by50 : byt Tryz.prog 50 = 400 := by kernel_rfl
theorem bu50 (ps : List (Nat × PV)) : buildP Tryz.prog 50 ps = (fillP (fun i => ([(0, 1), (1, 49)] : List (Nat × Nat))[i]?) (List.replicate 50 (.val (.int .i64 0))) ps).map .agg := by kernel_rfl
theorem zd50 : zD Tryz.prog 50 = (.agg (List.replicate 50 (.val (.int .i64 0)))) := by kernel_rfl
theorem sz52 : sz Tryz.prog 52 = 6 := by kernel_rfl
theorem zs52 : zsz Tryz.prog 52 = some 6 := by kernel_rfl
theorem fa27_4 (v : PV) : faP Tryz.prog 27 4 v = faQ 1 4 v := fa_q (ty := 25) (by kernel_rfl) (by kernel_rfl) v
theorem ag25 : aggT Tryz.prog 25 = some false := by kernel_rfl
theorem sz25 : sz Tryz.prog 25 = 1 := by kernel_rfl
theorem zd25 : zD Tryz.prog 25 = (.sl 0 [] true) := by kernel_rfl
theorem by52 : byt Tryz.prog 52 = 56 := by kernel_rfl
theorem bu52 (ps : List (Nat × PV)) : buildP Tryz.prog 52 ps = (fillP (fun i => ([(0, 1), (1, 1), (2, 1), (3, 2), (5, 1)] : List (Nat × Nat))[i]?) (.val (.int .i64 0) :: (.val (.int .i64 0) :: (.val (.int .i64 0) :: (.val (.int .i64 0) :: (.val (.string { data := #[] }) :: (.val (.int .i64 0) :: [])))))) ps).map .agg := by kernel_rfl
theorem zd52 : zD Tryz.prog 52 = (.agg (.val (.int .i64 0) :: (.val (.int .i64 0) :: (.val (.int .i64 0) :: (.val (.int .i64 0) :: (.val (.string { data := #[] }) :: (.val (.int .i64 0) :: []))))))) := by kernel_rfl
theorem ag50 : aggT Tryz.prog 50 = some true := by kernel_rfl
theorem zp50 : zeroP Tryz.prog 50 = some (.agg (List.replicate 50 (.val (.int .i64 0)))) := by kernel_rfl
theorem fa50_1 (v : PV) : faP Tryz.prog 50 1 v = faQ 49 1 v := fa_q (ty := 48) (by kernel_rfl) (by kernel_rfl) v
theorem ag48 : aggT Tryz.prog 48 = some true := by kernel_rfl
theorem sz48 : sz Tryz.prog 48 = 49 := by kernel_rfl
theorem fa50_0 (v : PV) : faP Tryz.prog 50 0 v = faQ 1 0 v := fa_q (ty := 2) (by kernel_rfl) (by kernel_rfl) v
theorem ag2 : aggT Tryz.prog 2 = some false := by kernel_rfl
theorem sz2 : sz Tryz.prog 2 = 1 := by kernel_rfl
theorem zd2 : zD Tryz.prog 2 = (.val (.int .i64 0)) := by kernel_rfl
theorem fa27_0 (v : PV) : faP Tryz.prog 27 0 v = faQ 1 0 v := fa_q (ty := 9) (by kernel_rfl) (by kernel_rfl) v
theorem ag9 : aggT Tryz.prog 9 = some false := by kernel_rfl
theorem sz9 : sz Tryz.prog 9 = 1 := by kernel_rfl
theorem zd9 : zD Tryz.prog 9 = (.val (.string { data := #[] })) := by kernel_rfl
theorem fa27_1 (v : PV) : faP Tryz.prog 27 1 v = faQ 1 1 v := fa_q (ty := 3) (by kernel_rfl) (by kernel_rfl) v
theorem ag3 : aggT Tryz.prog 3 = some false := by kernel_rfl
theorem sz3 : sz Tryz.prog 3 = 1 := by kernel_rfl
theorem zd3 : zD Tryz.prog 3 = (.val (.int .i64 0)) := by kernel_rfl
theorem ag45 : aggT Tryz.prog 45 = some true := by kernel_rfl
theorem zp45 : zeroP Tryz.prog 45 = some (.agg (.val (.int .i64 0) :: (.val (.string { data := #[] }) :: []))) := by kernel_rfl
theorem fa45_0 (v : PV) : faP Tryz.prog 45 0 v = faQ 1 0 v := fa_q (ty := 3) (by kernel_rfl) (by kernel_rfl) v
theorem fa45_1 (v : PV) : faP Tryz.prog 45 1 v = faQ 1 1 v := fa_q (ty := 9) (by kernel_rfl) (by kernel_rfl) v
theorem fa48_0 (v : PV) : faP Tryz.prog 48 0 v = faQ 1 0 v := fa_q (ty := 3) (by kernel_rfl) (by kernel_rfl) v
theorem fa52_0 (v : PV) : faP Tryz.prog 52 0 v = faQ 1 0 v := fa_q (ty := 3) (by kernel_rfl) (by kernel_rfl) v
theorem fa48_1 (v : PV) : faP Tryz.prog 48 1 v = faQ 48 1 v := fa_q (ty := 46) (by kernel_rfl) (by kernel_rfl) v
theorem zp79 : zeroP Tryz.prog 79 = some (.agg (.val (.pointer none) :: (.sl 0 [] true :: []))) := by kernel_rfl
theorem bu91 (ps : List (Nat × PV)) : buildP Tryz.prog 91 ps = (fillP (fun i => some (i * 1, 1)) (.val (.string { data := #[] }) :: (.val (.string { data := #[] }) :: [])) ps).map .agg := by kernel_rfl
theorem bu92 (ps : List (Nat × PV)) : buildP Tryz.prog 92 ps = (fillP (fun i => some (i * 2, 2)) (List.replicate 8 (.val (.string { data := #[] }))) ps).map .agg := by kernel_rfl
theorem zp92 : zeroP Tryz.prog 92 = some (.agg (List.replicate 8 (.val (.string { data := #[] })))) := by kernel_rfl
theorem sz92 : sz Tryz.prog 92 = 8 := by kernel_rfl
theorem sz91 : sz Tryz.prog 91 = 2 := by kernel_rfl
theorem zd91 : zD Tryz.prog 91 = (.agg (.val (.string { data := #[] }) :: (.val (.string { data := #[] }) :: []))) := by kernel_rfl
theorem sz5 : sz Tryz.prog 5 = 1 := by kernel_rfl
theorem zs5 : zsz Tryz.prog 5 = some 1 := by kernel_rfl
theorem by5 : byt Tryz.prog 5 = 1 := by kernel_rfl
theorem ag52 : aggT Tryz.prog 52 = some true := by kernel_rfl
theorem zp52 : zeroP Tryz.prog 52 = some (.agg (.val (.int .i64 0) :: (.val (.int .i64 0) :: (.val (.int .i64 0) :: (.val (.int .i64 0) :: (.val (.string { data := #[] }) :: (.val (.int .i64 0) :: []))))))) := by kernel_rfl
theorem fa52_3 (v : PV) : faP Tryz.prog 52 3 v = faQ 2 3 v := fa_q (ty := 45) (by kernel_rfl) (by kernel_rfl) v
theorem sz4 : sz Tryz.prog 4 = 1 := by kernel_rfl
theorem zs4 : zsz Tryz.prog 4 = some 1 := by kernel_rfl
theorem by4 : byt Tryz.prog 4 = 1 := by kernel_rfl
theorem zp4 : zeroP Tryz.prog 4 = some (.val (.bool false)) := by kernel_rfl
theorem zd4 : zD Tryz.prog 4 = (.val (.bool false)) := by kernel_rfl
theorem fa52_4 (v : PV) : faP Tryz.prog 52 4 v = faQ 1 5 v := fa_q (ty := 2) (by kernel_rfl) (by kernel_rfl) v
theorem fa52_1 (v : PV) : faP Tryz.prog 52 1 v = faQ 1 1 v := fa_q (ty := 3) (by kernel_rfl) (by kernel_rfl) v
theorem ag4 : aggT Tryz.prog 4 = some false := by kernel_rfl
theorem fa52_2 (v : PV) : faP Tryz.prog 52 2 v = faQ 1 2 v := fa_q (ty := 3) (by kernel_rfl) (by kernel_rfl) v
theorem bu108 (ps : List (Nat × PV)) : buildP Tryz.prog 108 ps = (fillP (fun i => ([(0, 1), (1, 2)] : List (Nat × Nat))[i]?) (.sl 0 [] true :: (.val (.pointer none) :: (.sl 0 [] true :: []))) ps).map .agg := by kernel_rfl
theorem fa108_1 (v : PV) : faP Tryz.prog 108 1 v = faQ 2 1 v := fa_q (ty := 79) (by kernel_rfl) (by kernel_rfl) v
theorem zs9 : zsz Tryz.prog 9 = some 1 := by kernel_rfl
theorem by9 : byt Tryz.prog 9 = 16 := by kernel_rfl
theorem zs3 : zsz Tryz.prog 3 = some 1 := by kernel_rfl
theorem by3 : byt Tryz.prog 3 = 8 := by kernel_rfl
theorem zp3 : zeroP Tryz.prog 3 = some (.val (.int .i64 0)) := by kernel_rfl
theorem wk_sl (k : Nat) (xs : List PV) (o : Bool) : wk1 (.sl k xs o) (.sl k xs false) = True := eq_true (.inr (.inr (.inl rfl)))
theorem ltL_vI (n : Nat) (l : List Int) : ltL n (l.map vI) = true := by
 induction l with
 | nil => rfl
 | cons x l ih => simp only [List.map_cons, ltL, ih]; rfl
theorem Wk_rfl : ∀ l : List PV, Wk l l = True
 | [] => rfl
 | x :: l => by rw [wk_c, Wk_rfl l, wk_s]; simp
end Go.Ve.H
end
section
set_option maxRecDepth 10000
set_option maxHeartbeats 2000000
namespace Go.Ve.H
open Go Go.Proofs Go.Ve
def isLetter (c : Int) : Bool := decide (97 ≤ c ∧ c ≤ 122) || decide (65 ≤ c ∧ c ≤ 90) || decide (c = 95)
def isDigit (c : Int) : Bool := decide (48 ≤ c ∧ c ≤ 57)
def u8F (f : Int → Bool) : List PV → Option (List Prop × PV)
 | [.val (.int .u8 c)] => some ([], vT (f c))
 | _ => none
def pLetterF := u8F isLetter
def rLetterF := u8F isLetter
def pDigitF := u8F isDigit
def rDigitF := u8F isDigit
theorem pLetterE (c : Int) : pLetterF [.val (.int .u8 c)] = some ([], vT (isLetter c)) := rfl
theorem rLetterE (c : Int) : rLetterF [.val (.int .u8 c)] = some ([], vT (isLetter c)) := rfl
theorem pDigitE (c : Int) : pDigitF [.val (.int .u8 c)] = some ([], vT (isDigit c)) := rfl
theorem rDigitE (c : Int) : rDigitF [.val (.int .u8 c)] = some ([], vT (isDigit c)) := rfl
theorem u8_inv {f : Int → Bool} {args : List PV} {ps : List Prop} {r : PV} (h : u8F f args = some (ps, r)) : ∃ c, args = [.val (.int .u8 c)] ∧ r = vT (f c) := by
 unfold u8F at h
 split at h
 ·injection h with h; injection h with h1 h2; exact ⟨_, rfl, h2.symm⟩
 ·cases h
theorem pLetter_ok : Sound Tryz.prog G0 67 (conT (CB.fn pLetterF).toCon) := by
 refine fn_of DN_ok mixed true Tryz.func67 (by decide) rfl _ ?_
 intro args ps r hq hp
 obtain ⟨c, rfl, rfl⟩ := u8_inv hq
 refine ⟨rfl, ?_⟩
 simp only [awpBFn, Tryz.ntmps67, List.length_cons, List.length_nil, Nat.reduceAdd, Nat.reduceSub, List.replicate_succ, List.replicate_zero, List.cons_append, List.nil_append, List.map_cons, List.map_nil]
 simp -implicitDefEqProofs (maxSteps := 2000000) only [R0, R1, R2, R3, R4, R5, R6, R7, R8, R9, R10, R11, R12, R13, R14, R15, R16, PV.strip, stripL, PV.noref, ri, feedL, feeds, Nat.reduceBEq, Array.toList, ↓reduceIte, forall_const, implies_true, Nat.reduceEqDiff, reduceCtorEq, alP, bxP, bsP, ifP, quiet, riD, bs_l, PV.isRef, plainCell, norefL, PV.scalar, scalarL, PV.cells, PV.solid, PV.one, PV.free, freeL, fillP, splice, Nat.reduceAdd, Nat.reduceMul, Nat.reduceSub, Nat.reduceLeDiff, Nat.reduceLT, Int.reduceToNat, Int.reduceEq, Int.reduceLT, Int.reduceLE, Int.reduceNeg, E0_vc, vaN, PV.avoid, avoidL, Nat.reduceGT, Tryz.results67]
 (repeat' (first | apply And.intro | intro _)) <;> grind [isLetter]
theorem rLetter_ok : Sound Tryz.prog G0 76 (conT (CB.fn rLetterF).toCon) := by
 refine fn_of DN_ok mixed true Tryz.func76 (by decide) rfl _ ?_
 intro args ps r hq hp
 obtain ⟨c, rfl, rfl⟩ := u8_inv hq
 refine ⟨rfl, ?_⟩
 simp only [awpBFn, Tryz.ntmps76, List.length_cons, List.length_nil, Nat.reduceAdd, Nat.reduceSub, List.replicate_succ, List.replicate_zero, List.cons_append, List.nil_append, List.map_cons, List.map_nil]
 simp -implicitDefEqProofs (maxSteps := 2000000) only [R0, R1, R2, R3, R4, R5, R6, R7, R8, R9, R10, R11, R12, R13, R14, R15, R16, PV.strip, stripL, PV.noref, ri, feedL, feeds, Nat.reduceBEq, Array.toList, ↓reduceIte, forall_const, implies_true, Nat.reduceEqDiff, reduceCtorEq, alP, bxP, bsP, ifP, quiet, riD, bs_l, PV.isRef, plainCell, norefL, PV.scalar, scalarL, PV.cells, PV.solid, PV.one, PV.free, freeL, fillP, splice, Nat.reduceAdd, Nat.reduceMul, Nat.reduceSub, Nat.reduceLeDiff, Nat.reduceLT, Int.reduceToNat, Int.reduceEq, Int.reduceLT, Int.reduceLE, Int.reduceNeg, E0_vc, vaN, PV.avoid, avoidL, Nat.reduceGT, Tryz.results76]
 (repeat' (first | apply And.intro | intro _)) <;> grind [isLetter]
theorem pDigit_ok : Sound Tryz.prog G0 69 (conT (CB.fn pDigitF).toCon) := by
 refine fn_of DN_ok mixed true Tryz.func69 (by decide) rfl _ ?_
 intro args ps r hq hp
 obtain ⟨c, rfl, rfl⟩ := u8_inv hq
 refine ⟨rfl, ?_⟩
 simp only [awpBFn, Tryz.ntmps69, List.length_cons, List.length_nil, Nat.reduceAdd, Nat.reduceSub, List.replicate_succ, List.replicate_zero, List.cons_append, List.nil_append, List.map_cons, List.map_nil]
 simp -implicitDefEqProofs (maxSteps := 2000000) only [R0, R1, R2, R3, R4, R5, R6, R7, R8, R9, R10, R11, R12, R13, R14, R15, R16, PV.strip, stripL, PV.noref, ri, feedL, feeds, Nat.reduceBEq, Array.toList, ↓reduceIte, forall_const, implies_true, Nat.reduceEqDiff, reduceCtorEq, alP, bxP, bsP, ifP, quiet, riD, bs_l, PV.isRef, plainCell, norefL, PV.scalar, scalarL, PV.cells, PV.solid, PV.one, PV.free, freeL, fillP, splice, Nat.reduceAdd, Nat.reduceMul, Nat.reduceSub, Nat.reduceLeDiff, Nat.reduceLT, Int.reduceToNat, Int.reduceEq, Int.reduceLT, Int.reduceLE, Int.reduceNeg, E0_vc, vaN, PV.avoid, avoidL, Nat.reduceGT, Tryz.results69]
 simp [isDigit, Bool.decide_and]
theorem rDigit_ok : Sound Tryz.prog G0 77 (conT (CB.fn rDigitF).toCon) := by
 refine fn_of DN_ok mixed true Tryz.func77 (by decide) rfl _ ?_
 intro args ps r hq hp
 obtain ⟨c, rfl, rfl⟩ := u8_inv hq
 refine ⟨rfl, ?_⟩
 simp only [awpBFn, Tryz.ntmps77, List.length_cons, List.length_nil, Nat.reduceAdd, Nat.reduceSub, List.replicate_succ, List.replicate_zero, List.cons_append, List.nil_append, List.map_cons, List.map_nil]
 simp -implicitDefEqProofs (maxSteps := 2000000) only [R0, R1, R2, R3, R4, R5, R6, R7, R8, R9, R10, R11, R12, R13, R14, R15, R16, PV.strip, stripL, PV.noref, ri, feedL, feeds, Nat.reduceBEq, Array.toList, ↓reduceIte, forall_const, implies_true, Nat.reduceEqDiff, reduceCtorEq, alP, bxP, bsP, ifP, quiet, riD, bs_l, PV.isRef, plainCell, norefL, PV.scalar, scalarL, PV.cells, PV.solid, PV.one, PV.free, freeL, fillP, splice, Nat.reduceAdd, Nat.reduceMul, Nat.reduceSub, Nat.reduceLeDiff, Nat.reduceLT, Int.reduceToNat, Int.reduceEq, Int.reduceLT, Int.reduceLE, Int.reduceNeg, E0_vc, vaN, PV.avoid, avoidL, Nat.reduceGT, Tryz.results77]
 simp [isDigit, Bool.decide_and]
theorem bt_end {s : ByteArray} {i : Int} (h : s.size ≤ i) : bt s i = 0 := by
 have h1 : s.data.toList.length ≤ i.toNat := by
  have : s.data.toList.length = s.size := by rw [Array.length_toList]; rfl
  omega
 unfold bt
 rw [List.getD, List.getElem?_eq_none h1]; rfl
def pByteAtF : List PV → Option (List Prop × PV)
 | [.val (.string s), .val (.int .i64 a)] => some ([0 ≤ a], vB (bt s a))
 | _ => none
theorem pByteAtE (s : ByteArray) (a : Int) : pByteAtF [.val (.string s), .val (.int .i64 a)] = some ([0 ≤ a], vB (bt s a)) := rfl
theorem pByteAt_ok : Sound Tryz.prog G0 68 (conT (CB.fn pByteAtF).toCon) := by
 refine fn_of DN_ok mixed true Tryz.func68 (by decide) rfl _ ?_
 intro args ps r hq hp
 unfold pByteAtF at hq
 split at hq <;> simp only [reduceCtorEq, Option.some.injEq, Prod.mk.injEq] at hq
 rename_i s a
 obtain ⟨rfl, rfl⟩ := hq
 have ha := hp (0 ≤ a) (by simp)
 refine ⟨rfl, ?_⟩
 simp only [awpBFn, Tryz.ntmps68, List.length_cons, List.length_nil, Nat.reduceAdd, Nat.reduceSub, List.replicate_succ, List.replicate_zero, List.cons_append, List.nil_append, List.map_cons, List.map_nil]
 simp -implicitDefEqProofs (maxSteps := 2000000) only [R0, R1, R2, R3, R4, R5, R6, R7, R8, R9, R10, R11, R12, R13, R14, R15, R16, PV.strip, stripL, PV.noref, ri, feedL, feeds, Nat.reduceBEq, Array.toList, ↓reduceIte, forall_const, implies_true, Nat.reduceEqDiff, reduceCtorEq, alP, bxP, bsP, ifP, quiet, riD, bs_l, PV.isRef, plainCell, norefL, PV.scalar, scalarL, PV.cells, PV.solid, PV.one, PV.free, freeL, fillP, splice, Nat.reduceAdd, Nat.reduceMul, Nat.reduceSub, Nat.reduceLeDiff, Nat.reduceLT, Int.reduceToNat, Int.reduceEq, Int.reduceLT, Int.reduceLE, Int.reduceNeg, E0_vc, vaN, PV.avoid, avoidL, Nat.reduceGT, Tryz.results68, Tryz.underlying9]
 exact ⟨fun h => ⟨ha, h⟩, fun h => by rw [bt_end (by omega)]⟩
def more (s : ByteArray) (i : Int) : Bool :=
 if (bt s i = 43 ∨ bt s i = 45) ∧ i + 1 < s.size then isLetter (bt s (i + 1)) || isDigit (bt s (i + 1)) else isLetter (bt s i) || isDigit (bt s i) || decide (bt s i = 46)
def run (s : ByteArray) (a : Int) : Nat → Int → Int
 | 0, n => n
 | k + 1, n => if a + n < s.size ∧ more s (a + n) = true then run s a k (n + 1) else n
def nameN (s : ByteArray) (a : Int) : Int := if s.size ≤ a ∨ isLetter (bt s a) = false then 0 else run s a (s.size - (a + 1)).toNat 1
theorem run_stop {s : ByteArray} {a : Int} {k : Nat} {n : Int} (h : ¬ (a + n < s.size ∧ more s (a + n) = true)) : run s a k n = n := by
 cases k with
 | zero => rfl
 | succ k => simp only [run, if_neg h]
theorem run_go {s : ByteArray} {a n : Int} (h : a + n < s.size) (hm : more s (a + n) = true) : run s a (s.size - (a + n)).toNat n = run s a (s.size - (a + (n + 1))).toNat (n + 1) := by
 have : (s.size - (a + n)).toNat = (s.size - (a + (n + 1))).toNat + 1 := by omega
 rw [this]; simp only [run, if_pos (And.intro h hm)]
def rnameF : List PV → Option (List Prop × PV)
 | [.val (.string s), .val (.int .i64 a)] => some ([0 ≤ a, s.size ≤ 1099511627776], vI (nameN s a))
 | _ => none
theorem rnameE (s : ByteArray) (a : Int) : rnameF [.val (.string s), .val (.int .i64 a)] = some ([0 ≤ a, s.size ≤ 1099511627776], vI (nameN s a)) := rfl
def D54 : FuncId → Option CB
 | 76 => some (.fn rLetterF)
 | 77 => some (.fn rDigitF)
 | _ => none
theorem D54_ok : AllB E0 D54 := fun g c h => by
 unfold D54 at h
 split at h <;> simp at h <;> subst h
 ·exact rLetter_ok
 ·exact rDigit_ok
theorem rname_ok : Sound Tryz.prog G0 54 (conT (CB.fn rnameF).toCon) := by
  refine fn_of D54_ok mixed true Tryz.func54 (by decide) rfl _ ?_
  intro args ps r hq hp
  unfold rnameF at hq
  split at hq <;> simp only [reduceCtorEq, Option.some.injEq, Prod.mk.injEq] at hq
  rename_i s a
  obtain ⟨rfl, rfl⟩ := hq
  have ha0 := hp (0 ≤ a) (by simp)
  have hs1 := hp (s.size ≤ 1099511627776) (by simp)
  refine ⟨rfl, ?_⟩
  simp only [awpBFn, Tryz.ntmps54, List.length_cons, List.length_nil, Nat.reduceAdd, Nat.reduceSub, List.replicate_succ, List.replicate_zero, List.cons_append, List.nil_append, List.map_cons, List.map_nil]
  simp -implicitDefEqProofs (maxSteps := 2000000) only [R0, R1, R2, R3, R4, R5, R6, R7, R8, R9, R10, R11, R12, R13, R14, R15, R16, PV.strip, stripL, PV.noref, ri, feedL, feeds, Nat.reduceBEq, Array.toList, ↓reduceIte, forall_const, implies_true, Nat.reduceEqDiff, reduceCtorEq, alP, bxP, bsP, ifP, quiet, riD, bs_l, PV.isRef, plainCell, norefL, PV.scalar, scalarL, PV.cells, PV.solid, PV.one, PV.free, freeL, fillP, splice, Nat.reduceAdd, Nat.reduceMul, Nat.reduceSub, Nat.reduceLeDiff, Nat.reduceLT, Int.reduceToNat, Int.reduceEq, Int.reduceLT, Int.reduceLE, Int.reduceNeg, E0_vc, vaN, PV.avoid, avoidL, Nat.reduceGT, Tryz.results54, Tryz.underlying9, D54, rLetterE, rDigitE]
  refine ⟨fun h => ⟨ha0, by omega⟩, fun h => ?_, fun h => ?_⟩
  · simp only [nameN, if_pos h]
  have hlt : a < s.size ∧ isLetter (bt s a) = true := by simpa using h
  refine loopB_ov [2, 3, 4, 6, 7, 8, 9, 10, 11, 12, 13, 14, 15, 16, 17, 18, 19, 20, 21, 22, 23, 24, 25, 26, 27, 28, 29, 30, 31, 32, 33, 34, 35, 36, 37, 38, 39, 40, 41, 42, 43, 44, 45, 46, 47, 48, 49, 50, 51, 52, 53, 54, 55, 56, 57, 58, 59, 60, 61, 62, 63, 64, 65, 66, 67, 68, 69, 70, 71, 72, 73, 74, 75] (fun n : Int => [(5, vI n)]) 0 (fun _ => []) (fun n => 1 ≤ n ∧ a + n ≤ s.size ∧ run s a (s.size - (a + n)).toNat n = nameN s a) (fun n => (s.size - (a + n)).toNat) 1 ?_ ?_ ?_
  · simp only [RG0, RG1, Nat.reduceAdd, ltL, PV.lt, Blk.lt, Nat.reduceLT, Nat.reduceLeDiff, Wk_rfl, ltL_vI]
  · refine ⟨by omega, by omega, ?_⟩
    have hn : ¬ (s.size ≤ a ∨ isLetter (bt s a) = false) := by simp; omega
    simp only [nameN, if_neg hn]
  intro n hP
  have h1 := hP.1; have h2 := hP.2.1; have h3 := hP.2.2
  simp -implicitDefEqProofs (maxSteps := 2000000) only [R0, R1, R2, R3, R4, R5, R6, R7, R8, R9, R10, R11, R12, R13, R14, R15, R16, PV.strip, stripL, PV.noref, ri, feedL, feeds, Nat.reduceBEq, Array.toList, ↓reduceIte, forall_const, implies_true, Nat.reduceEqDiff, reduceCtorEq, alP, bxP, bsP, ifP, quiet, riD, bs_l, PV.isRef, plainCell, norefL, PV.scalar, scalarL, PV.cells, PV.solid, PV.one, PV.free, freeL, fillP, splice, Nat.reduceAdd, Nat.reduceMul, Nat.reduceSub, Nat.reduceLeDiff, Nat.reduceLT, Int.reduceToNat, Int.reduceEq, Int.reduceLT, Int.reduceLE, Int.reduceNeg, E0_vc, vaN, PV.avoid, avoidL, Nat.reduceGT, Tryz.results54, Tryz.underlying9, D54, rLetterE, rDigitE]
  have hstop : ¬ (a + n < s.size ∧ more s (a + n) = true) → vI n = vI (nameN s a) := fun hs => by rw [← h3, run_stop hs]
  have hgo : a + n < s.size → more s (a + n) = true → run s a (s.size - (a + (n + 1))).toNat (n + 1) = nameN s a := fun hl hm => by rw [← h3, run_go hl hm]
  (repeat' (first | apply And.intro | intro _)) <;> (try simp only [inI64]) <;> (try omega)
  all_goals first
    | (refine ⟨n + 1, ⟨by omega, by omega, hgo (by omega) ?_⟩, by omega, ?_⟩
       · grind [more]
       · simp only [RG0, RG1, Nat.reduceAdd, ltL, PV.lt, Blk.lt, Nat.reduceLT, Nat.reduceLeDiff, Wk_rfl, ltL_vI])
    | (apply hstop; grind [more])
def isName (s : ByteArray) : Bool := decide (0 < (s.size : Int)) && decide ((s.size : Int) ≤ 64) && decide (nameN s 0 = s.size)
theorem sz0 {s : ByteArray} : s = { data := #[] } ↔ s.size = 0 := by
 constructor
 ·rintro rfl; rfl
 ·intro h
  obtain ⟨⟨l⟩⟩ := s
  have : l.length = 0 := h
  rw [List.length_eq_zero_iff] at this
  rw [this]
def nmF : List PV → Option (List Prop × PV)
 | [.val (.string s)] => some ([s.size ≤ 1099511627776], vT (isName s))
 | _ => none
def rNameF := nmF
def pNameF := nmF
theorem rNameE (s : ByteArray) : rNameF [.val (.string s)] = some ([s.size ≤ 1099511627776], vT (isName s)) := rfl
theorem pNameE (s : ByteArray) : pNameF [.val (.string s)] = some ([s.size ≤ 1099511627776], vT (isName s)) := rfl
def D23 : FuncId → Option CB
 | 54 => some (.fn rnameF)
 | _ => none
theorem D23_ok : AllB E0 D23 := fun g c h => by
 unfold D23 at h
 split at h <;> simp at h <;> subst h
 ·exact rname_ok
theorem rName_ok : Sound Tryz.prog G0 23 (conT (CB.fn rNameF).toCon) := by
 refine fn_of D23_ok mixed true Tryz.func23 (by decide) rfl _ ?_
 intro args ps r hq hp
 unfold rNameF nmF at hq
 split at hq <;> simp only [reduceCtorEq, Option.some.injEq, Prod.mk.injEq] at hq
 rename_i s
 obtain ⟨rfl, rfl⟩ := hq
 have hs1 := hp (s.size ≤ 1099511627776) (by simp)
 refine ⟨rfl, ?_⟩
 simp only [awpBFn, Tryz.ntmps23, List.length_cons, List.length_nil, Nat.reduceAdd, Nat.reduceSub, List.replicate_succ, List.replicate_zero, List.cons_append, List.nil_append, List.map_cons, List.map_nil]
 simp -implicitDefEqProofs (maxSteps := 2000000) only [R0, R1, R2, R3, R4, R5, R6, R7, R8, R9, R10, R11, R12, R13, R14, R15, R16, PV.strip, stripL, PV.noref, ri, feedL, feeds, Nat.reduceBEq, Array.toList, ↓reduceIte, forall_const, implies_true, Nat.reduceEqDiff, reduceCtorEq, alP, bxP, bsP, ifP, quiet, riD, bs_l, PV.isRef, plainCell, norefL, PV.scalar, scalarL, PV.cells, PV.solid, PV.one, PV.free, freeL, fillP, splice, Nat.reduceAdd, Nat.reduceMul, Nat.reduceSub, Nat.reduceLeDiff, Nat.reduceLT, Int.reduceToNat, Int.reduceEq, Int.reduceLT, Int.reduceLE, Int.reduceNeg, E0_vc, vaN, PV.avoid, avoidL, Nat.reduceGT, Tryz.results23, Tryz.underlying9, D23, rnameE]
 (repeat' (first | apply And.intro | intro _)) <;> (try omega)
 rfl
def pnameF : List PV → Option (List Prop × PV)
 | [.val (.string s)] => some ([s.size ≤ 1099511627776], vI (nameN s 0))
 | _ => none
theorem pnameE (s : ByteArray) : pnameF [.val (.string s)] = some ([s.size ≤ 1099511627776], vI (nameN s 0)) := rfl
def D46 : FuncId → Option CB
 | 67 => some (.fn pLetterF)
 | 68 => some (.fn pByteAtF)
 | 69 => some (.fn pDigitF)
 | _ => none
theorem D46_ok : AllB E0 D46 := fun g c h => by
 unfold D46 at h
 split at h <;> simp at h <;> subst h
 ·exact pLetter_ok
 ·exact pByteAt_ok
 ·exact pDigit_ok
theorem pname_ok : Sound Tryz.prog G0 46 (conT (CB.fn pnameF).toCon) := by
  refine fn_of D46_ok mixed true Tryz.func46 (by decide) rfl _ ?_
  intro args ps r hq hp
  unfold pnameF at hq
  split at hq <;> simp only [reduceCtorEq, Option.some.injEq, Prod.mk.injEq] at hq
  rename_i s
  obtain ⟨rfl, rfl⟩ := hq
  have hs1 := hp (s.size ≤ 1099511627776) (by simp)
  refine ⟨rfl, ?_⟩
  simp only [awpBFn, Tryz.ntmps46, List.length_cons, List.length_nil, Nat.reduceAdd, Nat.reduceSub, List.replicate_succ, List.replicate_zero, List.cons_append, List.nil_append, List.map_cons, List.map_nil]
  simp -implicitDefEqProofs (maxSteps := 2000000) only [R0, R1, R2, R3, R4, R5, R6, R7, R8, R9, R10, R11, R12, R13, R14, R15, R16, PV.strip, stripL, PV.noref, ri, feedL, feeds, Nat.reduceBEq, Array.toList, ↓reduceIte, forall_const, implies_true, Nat.reduceEqDiff, reduceCtorEq, alP, bxP, bsP, ifP, quiet, riD, bs_l, PV.isRef, plainCell, norefL, PV.scalar, scalarL, PV.cells, PV.solid, PV.one, PV.free, freeL, fillP, splice, Nat.reduceAdd, Nat.reduceMul, Nat.reduceSub, Nat.reduceLeDiff, Nat.reduceLT, Int.reduceToNat, Int.reduceEq, Int.reduceLT, Int.reduceLE, Int.reduceNeg, E0_vc, vaN, PV.avoid, avoidL, Nat.reduceGT, Tryz.results46, Tryz.underlying9, D46, pLetterE, pByteAtE, pDigitE]
  refine ⟨fun h => ?_, fun h => ?_, fun h => ?_⟩
  · have : ¬ s.size = 0 := fun h0 => h (sz0.2 h0)
    omega
  · have h' : (s.size : Int) ≤ 0 ∨ isLetter (bt s 0) = false := h.imp (fun h => by have := sz0.1 h; omega) id
    simp only [nameN, if_pos h']
  have h0 : ¬ ((s.size : Int) ≤ 0 ∨ isLetter (bt s 0) = false) := by
    intro hc
    rcases hc with hc | hc
    · have : s = { data := #[] } := sz0.2 (by omega)
      simp [this] at h
    · simp [hc] at h
  have hlt : 0 < s.size := by have := fun h => h0 (.inl h); omega
  refine loopB_ov [1, 2, 4, 5, 6, 7, 8, 9, 10, 11, 12, 13, 14, 15, 16, 17, 18, 19, 20, 21, 22, 23, 24, 25, 26, 27, 28, 29, 30, 31, 32, 33, 34, 35, 36, 37, 38, 39, 40, 41, 42, 43, 44, 45, 46, 47, 48, 49, 50, 51] (fun n : Int => [(3, vI n)]) 0 (fun _ => []) (fun n => 1 ≤ n ∧ n ≤ s.size ∧ run s 0 (s.size - (0 + n)).toNat n = nameN s 0) (fun n => (s.size - n).toNat) 1 ?_ ?_ ?_
  · simp only [RG0, RG1, Nat.reduceAdd, ltL, PV.lt, Blk.lt, Nat.reduceLT, Nat.reduceLeDiff, Wk_rfl, ltL_vI]
  · refine ⟨by omega, by omega, ?_⟩
    simp only [nameN, if_neg h0]
  intro n hP
  have h1 := hP.1; have h2 := hP.2.1; have h3 := hP.2.2
  simp -implicitDefEqProofs (maxSteps := 2000000) only [R0, R1, R2, R3, R4, R5, R6, R7, R8, R9, R10, R11, R12, R13, R14, R15, R16, PV.strip, stripL, PV.noref, ri, feedL, feeds, Nat.reduceBEq, Array.toList, ↓reduceIte, forall_const, implies_true, Nat.reduceEqDiff, reduceCtorEq, alP, bxP, bsP, ifP, quiet, riD, bs_l, PV.isRef, plainCell, norefL, PV.scalar, scalarL, PV.cells, PV.solid, PV.one, PV.free, freeL, fillP, splice, Nat.reduceAdd, Nat.reduceMul, Nat.reduceSub, Nat.reduceLeDiff, Nat.reduceLT, Int.reduceToNat, Int.reduceEq, Int.reduceLT, Int.reduceLE, Int.reduceNeg, E0_vc, vaN, PV.avoid, avoidL, Nat.reduceGT, Tryz.results46, Tryz.underlying9, D46, pLetterE, pByteAtE, pDigitE]
  have hstop : ¬ (0 + n < s.size ∧ more s (0 + n) = true) → vI n = vI (nameN s 0) := fun hs => by rw [← h3, run_stop hs]
  have hgo : 0 + n < s.size → more s (0 + n) = true → run s 0 (s.size - (0 + (n + 1))).toNat (n + 1) = nameN s 0 := fun hl hm => by rw [← h3, run_go hl hm]
  have he : n + 1 ≥ s.size → isLetter (bt s (n + 1)) = false ∧ isDigit (bt s (n + 1)) = false := fun h => by rw [bt_end h]; exact ⟨rfl, rfl⟩
  (repeat' (first | apply And.intro | intro _)) <;> (try simp only [inI64]) <;> (try omega)
  all_goals first
    | (refine ⟨n + 1, ⟨by omega, by omega, hgo (by omega) ?_⟩, by omega, ?_⟩
       · rw [Int.zero_add]; grind [more, isLetter, isDigit]
       · simp only [RG0, RG1, Nat.reduceAdd, ltL, PV.lt, Blk.lt, Nat.reduceLT, Nat.reduceLeDiff, Wk_rfl, ltL_vI])
    | (apply hstop; rw [Int.zero_add]; first | (intro hc; have := hc.1; omega) | grind [more, isLetter, isDigit] | (rename_i q1 q2 q3 q4 q5; intro hc; replace hc := hc.2; simp only [more] at hc; simp only [Bool.and_eq_false_iff, Bool.or_eq_false_iff, decide_eq_false_iff_not] at q5; split at hc <;> simp_all <;> grind))
def lnumF : List PV → Option (List Prop × PV)
 | [.val (.int .i64 n)] => some ([], vI n)
 | _ => none
theorem lnumE (n : Int) : lnumF [.val (.int .i64 n)] = some ([], vI n) := rfl
theorem lnum_ok : Sound Tryz.prog G0 10 (conT (CB.fn lnumF).toCon) := by
 refine fn_of DN_ok mixed true Tryz.func10 (by decide) rfl _ ?_
 intro args ps r hq hp
 unfold lnumF at hq
 split at hq <;> simp only [reduceCtorEq, Option.some.injEq, Prod.mk.injEq] at hq
 obtain ⟨rfl, rfl⟩ := hq
 refine ⟨rfl, ?_⟩
 simp only [awpBFn, Tryz.ntmps10, List.length_cons, List.length_nil, Nat.reduceAdd, Nat.reduceSub, List.replicate_succ, List.replicate_zero, List.cons_append, List.nil_append, List.map_cons, List.map_nil]
 simp -implicitDefEqProofs (maxSteps := 2000000) only [R0, R1, R2, R3, R4, R5, R6, R7, R8, R9, R10, R11, R12, R13, R14, R15, R16, PV.strip, stripL, PV.noref, ri, feedL, feeds, Nat.reduceBEq, Array.toList, ↓reduceIte, forall_const, implies_true, Nat.reduceEqDiff, reduceCtorEq, alP, bxP, bsP, ifP, quiet, riD, bs_l, PV.isRef, plainCell, norefL, PV.scalar, scalarL, PV.cells, PV.solid, PV.one, PV.free, freeL, fillP, splice, Nat.reduceAdd, Nat.reduceMul, Nat.reduceSub, Nat.reduceLeDiff, Nat.reduceLT, Int.reduceToNat, Int.reduceEq, Int.reduceLT, Int.reduceLE, Int.reduceNeg, E0_vc, vaN, PV.avoid, avoidL, Nat.reduceGT, Tryz.results10]
def D18 : FuncId → Option CB
 | 46 => some (.fn pnameF)
 | _ => none
theorem D18_ok : AllB E0 D18 := fun g c h => by
 unfold D18 at h
 split at h <;> simp at h <;> subst h
 ·exact pname_ok
theorem pName_ok : Sound Tryz.prog G0 18 (conT (CB.fn pNameF).toCon) := by
 refine fn_of D18_ok mixed true Tryz.func18 (by decide) rfl _ ?_
 intro args ps r hq hp
 unfold pNameF nmF at hq
 split at hq <;> simp only [reduceCtorEq, Option.some.injEq, Prod.mk.injEq] at hq
 rename_i s
 obtain ⟨rfl, rfl⟩ := hq
 have hs1 := hp (s.size ≤ 1099511627776) (by simp)
 refine ⟨rfl, ?_⟩
 simp only [awpBFn, Tryz.ntmps18, List.length_cons, List.length_nil, Nat.reduceAdd, Nat.reduceSub, List.replicate_succ, List.replicate_zero, List.cons_append, List.nil_append, List.map_cons, List.map_nil]
 simp -implicitDefEqProofs (maxSteps := 2000000) only [R0, R1, R2, R3, R4, R5, R6, R7, R8, R9, R10, R11, R12, R13, R14, R15, R16, PV.strip, stripL, PV.noref, ri, feedL, feeds, Nat.reduceBEq, Array.toList, ↓reduceIte, forall_const, implies_true, Nat.reduceEqDiff, reduceCtorEq, alP, bxP, bsP, ifP, quiet, riD, bs_l, PV.isRef, plainCell, norefL, PV.scalar, scalarL, PV.cells, PV.solid, PV.one, PV.free, freeL, fillP, splice, Nat.reduceAdd, Nat.reduceMul, Nat.reduceSub, Nat.reduceLeDiff, Nat.reduceLT, Int.reduceToNat, Int.reduceEq, Int.reduceLT, Int.reduceLE, Int.reduceNeg, E0_vc, vaN, PV.avoid, avoidL, Nat.reduceGT, Tryz.results18, Tryz.underlying9, D18, pnameE]
 refine ⟨fun _ => hs1, ?_⟩
 have h := @sz0 s
 have h2 : (!decide (s = { data := #[] })) = decide (0 < (s.size : Int)) := by
  rw [← decide_not]; apply decide_eq_decide.2; rw [sz0]; omega
 rw [h2]; rfl
end Go.Ve.H
end
section
set_option maxRecDepth 10000
set_option maxHeartbeats 2000000
namespace Go.Ve.H
open Go Go.Proofs Go.Ve
structure Ref where
 t : Int
 n : ByteArray
 deriving DecidableEq
def refP (r : Ref) : PV := .agg [vI r.t, vS r.n]
def refD : PV → Option Ref
 | .agg [.val (.int .i64 t), .val (.string n)] => some ⟨t, n⟩
 | _ => none
theorem refD_P (r : Ref) : refD (refP r) = some r := rfl
theorem refD_inv {p : PV} {r : Ref} (h : refD p = some r) : p = refP r := by
 unfold refD at h
 split at h
 ·injection h with h; subst h; rfl
 ·cases h
def noRef : Ref := ⟨0, { data := #[] }⟩
structure Node where
 op : Int
 a : Int
 b : Int
 ref : Ref
 val : Int
 deriving DecidableEq
def nodeP (x : Node) : PV := .agg [vI x.op, vI x.a, vI x.b, vI x.ref.t, vS x.ref.n, vI x.val]
def nodeD : PV → Option Node
 | .agg [.val (.int .i64 o), .val (.int .i64 a), .val (.int .i64 b), .val (.int .i64 t), .val (.string n), .val (.int .i64 v)] => some ⟨o, a, b, ⟨t, n⟩, v⟩
 | _ => none
theorem nodeD_P (r : Node) : nodeD (nodeP r) = some r := rfl
theorem nodeD_inv {p : PV} {r : Node} (h : nodeD p = some r) : p = nodeP r := by
 unfold nodeD at h
 split at h
 ·injection h with h; subst h; rfl
 ·cases h
def decL {α : Type} (d : PV → Option α) : List PV → Option (List α)
 | [] => some []
 | p :: ps => match d p, decL d ps with
  | some x, some xs => some (x :: xs)
  | _, _ => none
theorem decL_map {α : Type} {d : PV → Option α} {e : α → PV} (h : ∀ x, d (e x) = some x) : ∀ l : List α, decL d (l.map e) = some l
 | [] => rfl
 | x :: l => by simp [decL, h, decL_map h l]
theorem decL_inv {α : Type} {d : PV → Option α} {e : α → PV} (h : ∀ p x, d p = some x → p = e x) : ∀ {ps : List PV} {l : List α}, decL d ps = some l → ps = l.map e
 | [], l, hd => by simp [decL] at hd; subst hd; rfl
 | p :: ps, l, hd => by
  unfold decL at hd
  split at hd
  ·rename_i x xs h1 h2
   injection hd with hd; subst hd
   rw [h p x h1, decL_inv h h2]; rfl
  ·cases hd
def intD : PV → Option Int
 | .val (.int .i64 n) => some n
 | _ => none
theorem intD_P (n : Int) : intD (vI n) = some n := rfl
theorem intD_inv {p : PV} {n : Int} (h : intD p = some n) : p = vI n := by
 unfold intD at h
 split at h
 ·injection h with h; subst h; rfl
 ·cases h
structure Fin where
 n : Int
 v : List Int
 hl : v.length = 48
theorem Fin.ext' {a b : Fin} (h1 : a.n = b.n) (h2 : a.v = b.v) : a = b := by
 cases a; cases b; simp at h1 h2; subst h1; subst h2; rfl
instance : DecidableEq Fin := fun a b => if h : a.n = b.n ∧ a.v = b.v then .isTrue (Fin.ext' h.1 h.2) else .isFalse (fun e => h (by subst e; exact ⟨rfl, rfl⟩))
def finP (f : Fin) : PV := .agg (vI f.n :: f.v.map vI)
def finD : PV → Option Fin
 | .agg (.val (.int .i64 n) :: vs) => match decL intD vs with
  | some v => if h : v.length = 48 then some ⟨n, v, h⟩ else none
  | none => none
 | _ => none
theorem finD_P (f : Fin) : finD (finP f) = some f := by
 simp only [finD, finP]
 rw [decL_map intD_P]
 simp only [f.hl, ↓reduceDIte]
theorem finD_inv {p : PV} {f : Fin} (h : finD p = some f) : p = finP f := by
 unfold finD at h
 split at h
 ·split at h
  ·rename_i v hv
   split at h
   ·injection h with h; subst h
    rw [decL_inv (fun p x => intD_inv) hv]; rfl
   ·cases h
  ·cases h
 ·cases h
structure Row where
 c : Int
 f : Fin
 deriving DecidableEq
def rowP (r : Row) : PV := .agg (vI r.c :: vI r.f.n :: r.f.v.map vI)
def rowD : PV → Option Row
 | .agg (.val (.int .i64 c) :: vs) => match finD (.agg vs) with
  | some f => some ⟨c, f⟩
  | none => none
 | _ => none
theorem rowD_P (r : Row) : rowD (rowP r) = some r := by
 show (match finD (finP r.f) with | some f => some ⟨r.c, f⟩ | none => none) = some r
 rw [finD_P]
theorem rowD_inv {p : PV} {r : Row} (h : rowD p = some r) : p = rowP r := by
 unfold rowD at h
 split at h
 ·split at h
  ·rename_i f hf
   injection h with h; subst h
   have := finD_inv hf
   simp only [finP, PV.agg.injEq] at this
   rw [this]; rfl
  ·cases h
 ·cases h
structure Hist where
 name : ByteArray
 quant : Int
 refs : List Ref
 rows : List Row
 cond : List Node
def slD {α : Type} (k : Nat) (d : PV → Option α) : PV → Option (List α)
 | .sl j xs _ => if j = k ∨ xs = [] then decL d xs else none
 | _ => none
theorem slD_P {α : Type} {k : Nat} {d : PV → Option α} {e : α → PV} (h : ∀ x, d (e x) = some x) (l : List α) (o : Bool) : slD k d (.sl k (l.map e) o) = some l := by
 simp [slD, decL_map h]
theorem slD_inv {α : Type} {k : Nat} {d : PV → Option α} {e : α → PV} (h : ∀ p x, d p = some x → p = e x) {p : PV} {l : List α} (hd : slD k d p = some l) : ∃ j o, p = .sl j (l.map e) o ∧ (j = k ∨ l = []) := by
 unfold slD at hd
 split at hd
 ·rename_i j xs o
  split at hd
  ·rename_i hc
   have := decL_inv h hd
   subst this
   exact ⟨j, o, rfl, by simpa using hc⟩
  ·cases hd
 ·cases hd
theorem gd_m (l : List Int) (k : Nat) : (l.map vI).getD k (.val (.int .i64 0)) = vI (l.getD k 0) := by
 rw [List.getD_eq_getElem?_getD, List.getD_eq_getElem?_getD, List.getElem?_map]; cases l[k]? <;> rfl
theorem gd_c (a : Int) (l : List Int) (k : Nat) : (vI a :: l.map vI).getD k (.val (.int .i64 0)) = vI ((a :: l).getD k 0) := gd_m (a :: l) k
theorem gd_s (a : Int) (l : List Int) (i : Nat) (d : Int) : (a :: l).getD (1 + i) d = l.getD i d := by rw [Nat.add_comm]; rfl
end Go.Ve.H
end
section
set_option maxRecDepth 10000
set_option maxHeartbeats 2000000
namespace Go.Ve.H
open Go Go.Proofs Go.Ve
def fieldsOk (n : Node) : Bool :=
 if n.op = 2 then decide (n.a = 0) && decide (n.b = 0) && decide (-1 ≤ n.ref.t) && decide (n.ref.t ≤ 9999) && isName n.ref.n
 else if n.op = 1 then decide (n.a = 0) && decide (n.b = 0) && decide (n.ref = noRef) && decide (n.val = 0)
 else if n.op = 3 then decide (n.b = 0) && decide (n.ref = noRef) && decide (n.val = 0)
 else if n.op = 4 ∨ n.op = 5 then decide (n.ref = noRef) && decide (n.val = 0)
 else false
def stepS (i : Int) (n : Node) (st : List Int) : Option (List Int) :=
 if n.op = 3 then match st with
  | x :: r => if n.a = x then some (i :: r) else none
  | [] => none
 else if n.op = 4 ∨ n.op = 5 then match st with
  | y :: x :: r => if n.a = x ∧ n.b = y then some (i :: r) else none
  | _ => none
 else some (i :: st)
def runS (i : Int) : List Node → List Int → Bool
 | [], st => decide (st.length = 1)
 | n :: c, st => fieldsOk n && match stepS i n st with
  | some st' => runS (i + 1) c st'
  | none => false
def makesC (c : List Node) : Bool := decide (1 ≤ (c.length : Int)) && decide ((c.length : Int) ≤ 1024) && runS 0 c []
theorem runS_go {c : List Node} {i : Nat} (h : i < c.length) (st : List Int) : runS i (c.drop i) st = (fieldsOk c[i] && match stepS i c[i] st with
  | some st' => runS ((i : Int) + 1) (c.drop (i + 1)) st'
  | none => false) := by
 rw [List.drop_eq_getElem_cons h]; rfl
def wfN (i : Int) (n : Node) : Prop := (n.op = 3 → 0 ≤ n.a ∧ n.a < i) ∧ (n.op = 4 ∨ n.op = 5 → (0 ≤ n.a ∧ n.a < i) ∧ (0 ≤ n.b ∧ n.b < i))
def wfC (c : List Node) : Prop := ∀ (i : Nat) (n : Node), c[i]? = some n → wfN i n
theorem stepS_lt {i : Int} {n : Node} {st st' : List Int} (hi : 0 ≤ i) (h : stepS i n st = some st') (hs : ∀ x ∈ st, 0 ≤ x ∧ x < i) : wfN i n ∧ ∀ x ∈ st', 0 ≤ x ∧ x < i + 1 := by
 unfold stepS at h
 split at h
 ·rename_i h3
  split at h
  ·rename_i x r
   split at h
   ·rename_i ha
    injection h with h; subst h
    have h1 := hs x (by simp)
    refine ⟨⟨fun _ => by rw [ha]; exact h1, fun h4 => by omega⟩, ?_⟩
    intro y hy
    rcases List.mem_cons.1 hy with rfl | hy
    ·omega
    ·have := hs y (by simp [hy]); omega
   ·cases h
  ·cases h
 ·rename_i h3
  split at h
  ·split at h
   ·rename_i y x r
    split at h
    ·rename_i ha
     injection h with h; subst h
     have h1 := hs x (by simp)
     have h2 := hs y (by simp)
     refine ⟨⟨fun h => absurd h h3, fun _ => by rw [ha.1, ha.2]; exact ⟨h1, h2⟩⟩, ?_⟩
     intro z hz
     rcases List.mem_cons.1 hz with rfl | hz
     ·omega
     ·have := hs z (by simp [hz]); omega
    ·cases h
   ·cases h
  ·rename_i h4
   injection h with h; subst h
   refine ⟨⟨fun h => absurd h h3, fun h => absurd h h4⟩, ?_⟩
   intro z hz
   rcases List.mem_cons.1 hz with rfl | hz
   ·omega
   ·have := hs z hz; omega
theorem runS_wf : ∀ (c : List Node) (i : Int) (st : List Int), 0 ≤ i → (∀ x ∈ st, 0 ≤ x ∧ x < i) → runS i c st = true → ∀ (j : Nat) (n : Node), c[j]? = some n → wfN (i + j) n
 | [], _, _, _, _, _, j, n, h => by simp at h
 | m :: c, i, st, hi, hs, hr, j, n, h => by
  simp only [runS, Bool.and_eq_true] at hr
  obtain ⟨_, hr⟩ := hr
  split at hr
  ·rename_i st' hst
   obtain ⟨h1, h2⟩ := stepS_lt hi hst hs
   cases j with
   | zero => simp at h; subst h; simpa using h1
   | succ j =>
    have := runS_wf c (i + 1) st' (by omega) h2 hr j n (by simpa using h)
    have e : i + 1 + (j : Int) = i + ((j + 1 : Nat) : Int) := by push_cast; omega
    rwa [e] at this
  ·cases hr
theorem makesC_wf {c : List Node} (h : makesC c = true) : wfC c := by
 simp only [makesC, Bool.and_eq_true] at h
 intro i n hn
 have := runS_wf c 0 [] (by omega) (by simp) h.2 i n hn
 simpa using this
def brack (op part : Int) (second : Bool) : Bool :=
 if op = 3 then decide (part = 4) || decide (part = 5) else if op = 4 then decide (part = 5) || (decide (part = 4) && second) else decide (part = 5) && second
def ndOp (c : List Node) (i : Int) : Int := match c[i.toNat]? with | some n => n.op | none => 0
def deepN (c : List Node) : Nat → Int → Int
 | 0, _ => 0
 | k + 1, i => match c[i.toNat]? with
  | none => 0
  | some n =>
   let part := fun (j : Int) (s : Bool) => deepN c k j + if brack n.op (ndOp c j) s = true then 1 else 0
   if n.op = 3 then 1 + part n.a false else if n.op = 4 ∨ n.op = 5 then max (part n.a false) (part n.b true) else 0
theorem deepN_le (c : List Node) : ∀ (k : Nat) (i : Int), 0 ≤ deepN c k i ∧ deepN c k i ≤ 2 * k
 | 0, _ => by simp [deepN]
 | k + 1, i => by
  simp only [deepN]
  split
  ·omega
  ·rename_i n _
   have ha := deepN_le c k n.a
   have hb := deepN_le c k n.b
   split
   ·split <;> omega
   ·split
    ·split <;> split <;> omega
    ·omega
theorem deepN_fuel {c : List Node} (hw : wfC c) : ∀ (k : Nat) (i : Nat), i < k → deepN c k i = deepN c (i + 1) i
 | 0, _, h => by omega
 | k + 1, i, h => by
  have ih := deepN_fuel hw k
  simp only [deepN]
  rw [show ((i : Int)).toNat = i from rfl]
  cases hc : c[i]? with
  | none => rfl
  | some n =>
   have hn := hw i n hc
   have e : ∀ x : Int, 0 ≤ x → x < i → deepN c k x = deepN c i x := by
    intro x h0 h1
    obtain ⟨m, rfl⟩ := Int.eq_ofNat_of_zero_le h0
    rw [ih m (by omega)]
    exact (deepN_fuel hw i m (by omega)).symm
   simp only
   by_cases h3 : n.op = 3
   ·rw [if_pos h3, if_pos h3, e _ (hn.1 h3).1 (hn.1 h3).2]
   ·by_cases h4 : n.op = 4 ∨ n.op = 5
    ·rw [if_neg h3, if_neg h3, if_pos h4, if_pos h4, e _ (hn.2 h4).1.1 (hn.2 h4).1.2, e _ (hn.2 h4).2.1 (hn.2 h4).2.2]
    ·rw [if_neg h3, if_neg h3, if_neg h4, if_neg h4]
termination_by k i => k
def depth (c : List Node) (i : Int) : Int := deepN c (i.toNat + 1) i
def checkC (c : List Node) : Int := if makesC c = true then (if 64 < depth c ((c.length : Int) - 1) then 2 else 0) else 60
def chain (F : List Int) : List Int → Prop
 | [] => True
 | [x] => F.getD x.toNat 0 = 0
 | y :: x :: r => F.getD y.toNat 0 = x + 1 ∧ chain F (x :: r)
theorem chain_congr {F G : List Int} : ∀ st : List Int, (∀ x ∈ st, F.getD x.toNat 0 = G.getD x.toNat 0) → chain F st → chain G st
 | [], _, _ => trivial
 | [x], h, hc => by simp only [chain] at hc ⊢; rw [← h x (by simp)]; exact hc
 | y :: x :: r, h, hc => by
  simp only [chain] at hc ⊢
  exact ⟨by rw [← h y (by simp)]; exact hc.1, chain_congr (x :: r) (fun z hz => h z (List.mem_cons_of_mem _ hz)) hc.2⟩
theorem chain_tail {F : List Int} {y : Int} {r : List Int} (h : chain F (y :: r)) : chain F r := by
 cases r with
 | nil => trivial
 | cons x r => exact h.2
theorem chain_put {F : List Int} {i : Nat} {v : Int} {st : List Int} (hi : i < F.length) (hs : ∀ x ∈ st, 0 ≤ x ∧ x < i) (hc : chain F st) (hv : match st with | [] => v = 0 | x :: _ => v = x + 1) : chain (F.set i v) ((i : Int) :: st) := by
 have hg : (F.set i v).getD ((i : Int)).toNat 0 = v := by
  rw [show ((i : Int)).toNat = i from rfl, List.getD_eq_getElem?_getD, List.getElem?_set_self hi]; rfl
 have h2 : chain (F.set i v) st := chain_congr st (fun x hx => by
  have := hs x hx
  rw [List.getD_eq_getElem?_getD, List.getD_eq_getElem?_getD, List.getElem?_set_ne (by omega)]) hc
 cases st with
 | nil => simp only [chain]; rw [hg]; exact hv
 | cons x r => exact ⟨by rw [hg]; exact hv, h2⟩
theorem chain_rep {F : List Int} {i : Nat} {x : Int} {r : List Int} (hi : i < F.length) (hs : ∀ y ∈ r, 0 ≤ y ∧ y < i) (hc : chain F (x :: r)) : chain (F.set i (F.getD x.toNat 0)) ((i : Int) :: r) := by
 refine chain_put hi hs (chain_tail hc) ?_
 cases r with
 | nil => exact hc
 | cons y r => exact hc.1
def topIs (i : Nat) : List Int → Prop
 | [] => i = 0
 | x :: _ => x + 1 = i
theorem step3 {i : Nat} {n : Node} {st : List Int} (h3 : n.op = 3) (ht : topIs i st) (hb : ∀ x ∈ st, 0 ≤ x ∧ x < i) :
  ((i : Int) = 0 ∨ ¬ n.a = (i : Int) - 1 → stepS i n st = none) ∧ (¬ ((i : Int) = 0 ∨ ¬ n.a = (i : Int) - 1) → ∃ r, st = n.a :: r ∧ stepS i n st = some ((i : Int) :: r)) := by
 cases st with
 | nil =>
  have h0 : i = 0 := ht
  refine ⟨fun _ => by unfold stepS; rw [if_pos h3], fun h => absurd (.inl (by omega)) h⟩
 | cons x r =>
  have h0 : x + 1 = (i : Int) := ht
  have h1 := hb x (by simp)
  refine ⟨fun h => ?_, fun h => ⟨r, ?_, ?_⟩⟩
  ·unfold stepS; rw [if_pos h3]
   exact if_neg (by omega)
  ·rw [show x = n.a by omega]
  ·unfold stepS; rw [if_pos h3]
   exact if_pos (by omega)
theorem step45 {i : Nat} {n : Node} {st F : List Int} (h45 : n.op = 4 ∨ n.op = 5) (ht : topIs i st) (hb : ∀ x ∈ st, 0 ≤ x ∧ x < i) (hc : chain F st) :
  ((((i : Int) = 0 ∨ ¬ n.b = (i : Int) - 1) ∨ F.getD n.b.toNat 0 = 0) ∨ ¬ n.a = F.getD n.b.toNat 0 - 1 → stepS i n st = none) ∧
  (¬ ((((i : Int) = 0 ∨ ¬ n.b = (i : Int) - 1) ∨ F.getD n.b.toNat 0 = 0) ∨ ¬ n.a = F.getD n.b.toNat 0 - 1) → ∃ r, st = n.b :: n.a :: r ∧ stepS i n st = some ((i : Int) :: r)) ∧
  (¬ ((i : Int) = 0 ∨ ¬ n.b = (i : Int) - 1) → 0 ≤ F.getD n.b.toNat 0 ∧ F.getD n.b.toNat 0 ≤ i) := by
 have h3 : ¬ n.op = 3 := by omega
 match st, ht, hb, hc with
 | [], ht, hb, hc =>
  have h0 : i = 0 := ht
  exact ⟨fun _ => by unfold stepS; rw [if_neg h3, if_pos h45], fun h => absurd (.inl (.inl (.inl (by omega)))) h, fun h => absurd (.inl (by omega)) h⟩
 | [y], ht, hb, hc =>
  have h0 : y + 1 = (i : Int) := ht
  have h1 := hb y (by simp)
  have hF : F.getD y.toNat 0 = 0 := hc
  refine ⟨fun _ => by unfold stepS; rw [if_neg h3, if_pos h45], fun h => ?_, fun h => ?_⟩
  ·exfalso
   have hy : n.b = y := by omega
   rw [hy, hF] at h
   omega
  ·have hy : n.b = y := by omega
   rw [hy, hF]; omega
 | y :: x :: r, ht, hb, hc =>
  have h0 : y + 1 = (i : Int) := ht
  have h1 := hb y (by simp)
  have h2 := hb x (by simp)
  have hF : F.getD y.toNat 0 = x + 1 := hc.1
  refine ⟨fun h => ?_, fun h => ⟨r, ?_, ?_⟩, fun h => ?_⟩
  ·unfold stepS; rw [if_neg h3, if_pos h45]
   refine if_neg ?_
   rintro ⟨ha, hy⟩
   rw [hy, hF] at h
   omega
  ·have hy : n.b = y := by omega
   rw [hy, hF] at h
   rw [hy, show x = n.a by omega]
  ·have hy : n.b = y := by omega
   rw [hy, hF] at h
   unfold stepS; rw [if_neg h3, if_pos h45]
   exact if_pos ⟨by omega, hy⟩
  ·have hy : n.b = y := by omega
   rw [hy, hF]; omega
theorem stepO {i : Nat} {n : Node} {st : List Int} (h3 : ¬ n.op = 3) (h4 : ¬ n.op = 4) (h5 : ¬ n.op = 5) : stepS i n st = some ((i : Int) :: st) := by
 unfold stepS; rw [if_neg h3, if_neg (by omega)]
theorem topIs_cons (i : Nat) (r : List Int) : topIs (i + 1) ((i : Int) :: r) := by
 show (i : Int) + 1 = ((i + 1 : Nat) : Int); omega
theorem chain_last {F st : List Int} {i : Nat} (h0 : 0 < i) (ht : topIs i st) (hb : ∀ x ∈ st, 0 ≤ x ∧ x < i) (hc : chain F st) : decide (F.getD (i - 1) 0 = 0) = decide (st.length = 1) := by
 match st, ht, hb, hc with
 | [], ht, _, _ => have : i = 0 := ht; omega
 | [y], ht, hb, hc =>
  have h0 : y + 1 = (i : Int) := ht
  have hF : F.getD y.toNat 0 = 0 := hc
  rw [show i - 1 = y.toNat by omega]
  rw [decide_eq_true hF]; rfl
 | y :: x :: r, ht, hb, hc =>
  have h0 : y + 1 = (i : Int) := ht
  have h2 := hb x (by simp)
  have hF : F.getD y.toNat 0 = x + 1 := hc.1
  rw [show i - 1 = y.toNat by omega]
  rw [decide_eq_false (by rw [hF]; omega)]; simp
theorem put_m {F : List Int} {i : Nat} (h : i < F.length) (v : Int) : (F.map vI).take i ++ [vI v] ++ (F.map vI).drop (i + 1) = (F.set i v).map vI := by
 rw [List.set_eq_take_append_cons_drop, if_pos h, List.map_append, List.map_cons, List.map_take, List.map_drop, List.append_assoc]; rfl
end Go.Ve.H
end
namespace Go.Proofs
open Go.Shelf
def Tryz.lays156_ren : Go.Shelf.Ren := ⟨fun | 156 => 61 | 165 => 83 | 166 => 36 | 169 => 42 | 240 => 59 | 241 => 107 | 276 => 81 | 277 => 122 | n => n, fun | 31 => 110 | 9 => 9 | 3 => 3 | 4 => 4 | 0 => 0 | 20 => 20 | 72 => 79 | 76 => 82 | 70 => 76 | 37 => 77 | 75 => 81 | 127 => 114 | 164 => 128 | 5 => 5 | 80 => 89 | n => n, fun | n => n⟩
theorem Tryz.lays156 : Go.Proofs.Lays.n156 Tryz.prog Tryz.lays156_ren := {
 mixed := by kernel_rfl
 f156 := Tryz.func61.trans (congrArg some (by kernel_rfl))
 f165 := Tryz.func83.trans (congrArg some (by kernel_rfl))
 f166 := Tryz.func36.trans (congrArg some (by kernel_rfl))
 f169 := Tryz.func42.trans (congrArg some (by kernel_rfl))
 f240 := Tryz.func59.trans (congrArg some (by kernel_rfl))
 f241 := Tryz.func107.trans (congrArg some (by kernel_rfl))
 f276 := Tryz.func81.trans (congrArg some (by kernel_rfl))
 f277 := Tryz.func122.trans (congrArg some (by kernel_rfl))
 t0 := Tryz.underlying0
 a0 := Tryz.isAgg0
 z0 := Tryz.sizeOf0
 v0 := Tryz.zeroValue0
 t3 := Tryz.underlying3
 a3 := Tryz.isAgg3
 z3 := Tryz.sizeOf3
 v3 := Tryz.zeroValue3
 t4 := Tryz.underlying4
 a4 := Tryz.isAgg4
 z4 := Tryz.sizeOf4
 v4 := Tryz.zeroValue4
 t9 := Tryz.underlying9
 a9 := Tryz.isAgg9
 z9 := Tryz.sizeOf9
 v9 := Tryz.zeroValue9
 t20 := Tryz.underlying20
 a20 := Tryz.isAgg20
 z20 := Tryz.sizeOf20
 v20 := Tryz.zeroValue20
 t31 := Tryz.underlying110
 a31 := Tryz.isAgg110
 z31 := Tryz.sizeOf110
 v31 := Tryz.zeroValue110
 t37 := Tryz.underlying77
 a37 := Tryz.isAgg77
 z37 := Tryz.sizeOf77
 v37 := Tryz.zeroValue77
 t70 := Tryz.underlying76
 a70 := Tryz.isAgg76
 z70 := Tryz.sizeOf76
 v70 := Tryz.zeroValue76
 t72 := Tryz.underlying79
 a72 := Tryz.isAgg79
 z72 := Tryz.sizeOf79
 v72 := Tryz.zeroValue79
 t75 := Tryz.underlying81
 a75 := Tryz.isAgg81
 z75 := Tryz.sizeOf81
 v75 := Tryz.zeroValue81
 t76 := Tryz.underlying82
 a76 := Tryz.isAgg82
 z76 := Tryz.sizeOf82
 v76 := Tryz.zeroValue82
 t127 := Tryz.underlying114
 a127 := Tryz.isAgg114
 z127 := Tryz.sizeOf114
 v127 := Tryz.zeroValue114
 t164 := Tryz.underlying128
 a164 := Tryz.isAgg128
 z164 := Tryz.sizeOf128
 v164 := Tryz.zeroValue128 }
theorem Tryz.Builder_Extra_156 : Builder.Extra Tryz.prog Tryz.lays156_ren := {
 sizeBuilder := by kernel_rfl
 liesBuilder := by kernel_rfl
 t5 := Tryz.underlying5
 a5 := Tryz.isAgg5
 z5 := Tryz.sizeOf5
 v5 := Tryz.zeroValue5
 infoByte := by kernel_rfl
 cellsByte := by kernel_rfl
 sizeByte := by kernel_rfl
 neB5 := by decide }
open Go.RowKit in
theorem Tryz.strings_Join_none (a : Option Addr) (c : Nat) (sep : ByteArray) (w : World) :
  Calls Tryz.prog 61 #[.slice a 0 c, .string sep] w fun e w' => e = .returned (.string ⟨#[]⟩) ∧ w' = w := Any.strings_Join_none Tryz.lays156 Tryz.Builder_Extra_156 a c sep w
open Go.RowKit in
theorem Tryz.strings_Join (bk o c : Nat) (xs : List ByteArray) (sep : ByteArray) (w : World) (hcells : ∀ (j : Nat) x, xs[j]? = some x → w.cell? ⟨bk, o + j, none⟩ = some (.string x)) (hbk : bk < w.heap.size) (hN : xs.length ≤ 140737488355328) (hcap : xs.length ≤ c) (hlen : (Lib.join (xs.map (·.data.toList)) sep.data.toList).length ≤ 140737488355328) :
  Calls Tryz.prog 61 #[.slice (some ⟨bk, o, none⟩) xs.length c, .string sep] w fun e w' => e = .returned (.string ⟨(Lib.join (xs.map (·.data.toList)) sep.data.toList).toArray⟩) ∧ Below w.heap.size w w' := Any.strings_Join Tryz.lays156 Tryz.Builder_Extra_156 bk o c xs sep w hcells hbk hN hcap hlen
def Tryz.lays106_ren : Go.Shelf.Ren := ⟨fun | 106 => 70 | 213 => 88 | 265 => 111 | n => n, fun | 9 => 9 | 3 => 3 | n => n, fun | n => n⟩
theorem Tryz.lays106 : Go.Proofs.Lays.n106 Tryz.prog Tryz.lays106_ren := {
 mixed := by kernel_rfl
 f106 := Tryz.func70.trans (congrArg some (by kernel_rfl))
 f213 := Tryz.func88.trans (congrArg some (by kernel_rfl))
 f265 := Tryz.func111.trans (congrArg some (by kernel_rfl))
 t3 := Tryz.underlying3
 a3 := Tryz.isAgg3
 z3 := Tryz.sizeOf3
 v3 := Tryz.zeroValue3
 t9 := Tryz.underlying9
 a9 := Tryz.isAgg9
 z9 := Tryz.sizeOf9
 v9 := Tryz.zeroValue9 }
open Go.RowKit in
theorem Tryz.strings_Compare (a b : ByteArray) (w : World) :
  Calls Tryz.prog 70 #[.string a, .string b] w fun e w' => e = .returned (.int .i64 (Lib.compareBytes a.data.toList b.data.toList)) ∧ w' = w := Any.strings_Compare Tryz.lays106 a b w
def Tryz.laysM171_ren : Go.Shelf.Ren := ⟨fun | 171 => 37 | 243 => 60 | 246 => 82 | 283 => 103 | 284 => 104 | 285 => 105 | 286 => 106 | 129 => 102 | 317 => 118 | 318 => 119 | 319 => 120 | 320 => 121 | 337 => 124 | 338 => 125 | n => n, fun | 3 => 3 | 9 => 9 | 2 => 2 | 4 => 4 | 171 => 149 | 0 => 0 | 53 => 116 | 37 => 77 | 5 => 5 | 173 => 151 | 212 => 166 | 51 => 147 | 20 => 20 | 213 => 167 | 46 => 125 | 232 => 172 | 233 => 173 | n => n, fun | 17 => 1 | 18 => 2 | 19 => 3 | n => n⟩
theorem Tryz.laysM171 : Go.Proofs.LaysM.n171 Tryz.prog Tryz.laysM171_ren := {
 mixed := by kernel_rfl
 f129 := Tryz.func102.trans (congrArg some (by kernel_rfl))
 f171 := Tryz.func37.trans (congrArg some (by kernel_rfl))
 f243 := Tryz.func60.trans (congrArg some (by kernel_rfl))
 f246 := Tryz.func82.trans (congrArg some (by kernel_rfl))
 f283 := Tryz.func103.trans (congrArg some (by kernel_rfl))
 f284 := Tryz.func104.trans (congrArg some (by kernel_rfl))
 f285 := Tryz.func105.trans (congrArg some (by kernel_rfl))
 f286 := Tryz.func106.trans (congrArg some (by kernel_rfl))
 f317 := Tryz.func118.trans (congrArg some (by kernel_rfl))
 f318 := Tryz.func119.trans (congrArg some (by kernel_rfl))
 f319 := Tryz.func120.trans (congrArg some (by kernel_rfl))
 f320 := Tryz.func121.trans (congrArg some (by kernel_rfl))
 f337 := Tryz.func124.trans (congrArg some (by kernel_rfl))
 f338 := Tryz.func125.trans (congrArg some (by kernel_rfl))
 t0 := Tryz.underlying0
 a0 := Tryz.isAgg0
 z0 := Tryz.sizeOf0
 v0 := Tryz.zeroValue0
 t2 := Tryz.underlying2
 a2 := Tryz.isAgg2
 z2 := Tryz.sizeOf2
 v2 := Tryz.zeroValue2
 t3 := Tryz.underlying3
 a3 := Tryz.isAgg3
 z3 := Tryz.sizeOf3
 v3 := Tryz.zeroValue3
 t4 := Tryz.underlying4
 a4 := Tryz.isAgg4
 z4 := Tryz.sizeOf4
 v4 := Tryz.zeroValue4
 t5 := Tryz.underlying5
 a5 := Tryz.isAgg5
 z5 := Tryz.sizeOf5
 v5 := Tryz.zeroValue5
 t9 := Tryz.underlying9
 a9 := Tryz.isAgg9
 z9 := Tryz.sizeOf9
 v9 := Tryz.zeroValue9
 t20 := Tryz.underlying20
 a20 := Tryz.isAgg20
 z20 := Tryz.sizeOf20
 v20 := Tryz.zeroValue20
 t37 := Tryz.underlying77
 a37 := Tryz.isAgg77
 z37 := Tryz.sizeOf77
 v37 := Tryz.zeroValue77
 t46 := Tryz.underlying125
 a46 := Tryz.isAgg125
 z46 := Tryz.sizeOf125
 v46 := Tryz.zeroValue125
 t51 := Tryz.underlying147
 a51 := Tryz.isAgg147
 z51 := Tryz.sizeOf147
 v51 := Tryz.zeroValue147
 t53 := Tryz.underlying116
 a53 := Tryz.isAgg116
 z53 := Tryz.sizeOf116
 v53 := Tryz.zeroValue116
 t171 := Tryz.underlying149
 a171 := Tryz.isAgg149
 z171 := Tryz.sizeOf149
 v171 := Tryz.zeroValue149
 t173 := Tryz.underlying151
 a173 := Tryz.isAgg151
 z173 := Tryz.sizeOf151
 v173 := Tryz.zeroValue151
 t212 := Tryz.underlying166
 a212 := Tryz.isAgg166
 z212 := Tryz.sizeOf166
 v212 := Tryz.zeroValue166
 t213 := Tryz.underlying167
 a213 := Tryz.isAgg167
 z213 := Tryz.sizeOf167
 t232 := Tryz.underlying172
 a232 := Tryz.isAgg172
 z232 := Tryz.sizeOf172
 v232 := Tryz.zeroValue172
 t233 := Tryz.underlying173
 a233 := Tryz.isAgg173
 z233 := Tryz.sizeOf173
 v233 := Tryz.zeroValue173
 g17 := by kernel_rfl
 g18 := by kernel_rfl
 g19 := by kernel_rfl
 i0 := by kernel_rfl
 i2 := by kernel_rfl
 i3 := by kernel_rfl
 i4 := by kernel_rfl
 i5 := by kernel_rfl
 i9 := by kernel_rfl
 i20 := by kernel_rfl
 i37 := by kernel_rfl
 i46 := by kernel_rfl
 i51 := by kernel_rfl
 i53 := by kernel_rfl
 i171 := by kernel_rfl
 i173 := by kernel_rfl
 i212 := by kernel_rfl
 i232 := by kernel_rfl
 i233 := by kernel_rfl
 m17 := by kernel_rfl
 m18 := by kernel_rfl
 m19 := by kernel_rfl }
open Go.RowKit Go.Sort Go.Lib in
theorem Tryz.strconv_Itoa (n : Int) (h0 : -9223372036854775808 ≤ n) (h1 : n ≤ 9223372036854775807) (w : World) (htab : Lib.TabIs Tryz.prog w "internal/strconv.uint64pow10" .u64 Lib.pow10Tab) :
  Calls Tryz.prog 37 #[.int .i64 n] w fun e w' => e = .returned (.string ⟨(Lib.itoa n).toArray⟩) ∧ ∃ k os, w' = grow (w.drewN k) os := Any.strconv_Itoa Tryz.laysM171 n h0 h1 w htab
def Tryz.laysM173_ren : Go.Shelf.Ren := ⟨fun | 173 => 63 | 246 => 82 | 283 => 103 | 284 => 104 | 285 => 105 | 286 => 106 | 129 => 102 | 317 => 118 | 318 => 119 | 319 => 120 | 320 => 121 | 337 => 124 | 338 => 125 | n => n, fun | 2 => 2 | 3 => 3 | 9 => 9 | 4 => 4 | 171 => 149 | 0 => 0 | 53 => 116 | 37 => 77 | 5 => 5 | 173 => 151 | 212 => 166 | 51 => 147 | 20 => 20 | 213 => 167 | 46 => 125 | 232 => 172 | 233 => 173 | n => n, fun | 17 => 1 | 18 => 2 | 19 => 3 | n => n⟩
theorem Tryz.laysM173 : Go.Proofs.LaysM.n173 Tryz.prog Tryz.laysM173_ren := {
 mixed := by kernel_rfl
 f129 := Tryz.func102.trans (congrArg some (by kernel_rfl))
 f173 := Tryz.func63.trans (congrArg some (by kernel_rfl))
 f246 := Tryz.func82.trans (congrArg some (by kernel_rfl))
 f283 := Tryz.func103.trans (congrArg some (by kernel_rfl))
 f284 := Tryz.func104.trans (congrArg some (by kernel_rfl))
 f285 := Tryz.func105.trans (congrArg some (by kernel_rfl))
 f286 := Tryz.func106.trans (congrArg some (by kernel_rfl))
 f317 := Tryz.func118.trans (congrArg some (by kernel_rfl))
 f318 := Tryz.func119.trans (congrArg some (by kernel_rfl))
 f319 := Tryz.func120.trans (congrArg some (by kernel_rfl))
 f320 := Tryz.func121.trans (congrArg some (by kernel_rfl))
 f337 := Tryz.func124.trans (congrArg some (by kernel_rfl))
 f338 := Tryz.func125.trans (congrArg some (by kernel_rfl))
 t0 := Tryz.underlying0
 a0 := Tryz.isAgg0
 z0 := Tryz.sizeOf0
 v0 := Tryz.zeroValue0
 t2 := Tryz.underlying2
 a2 := Tryz.isAgg2
 z2 := Tryz.sizeOf2
 v2 := Tryz.zeroValue2
 t3 := Tryz.underlying3
 a3 := Tryz.isAgg3
 z3 := Tryz.sizeOf3
 v3 := Tryz.zeroValue3
 t4 := Tryz.underlying4
 a4 := Tryz.isAgg4
 z4 := Tryz.sizeOf4
 v4 := Tryz.zeroValue4
 t5 := Tryz.underlying5
 a5 := Tryz.isAgg5
 z5 := Tryz.sizeOf5
 v5 := Tryz.zeroValue5
 t9 := Tryz.underlying9
 a9 := Tryz.isAgg9
 z9 := Tryz.sizeOf9
 v9 := Tryz.zeroValue9
 t20 := Tryz.underlying20
 a20 := Tryz.isAgg20
 z20 := Tryz.sizeOf20
 v20 := Tryz.zeroValue20
 t37 := Tryz.underlying77
 a37 := Tryz.isAgg77
 z37 := Tryz.sizeOf77
 v37 := Tryz.zeroValue77
 t46 := Tryz.underlying125
 a46 := Tryz.isAgg125
 z46 := Tryz.sizeOf125
 v46 := Tryz.zeroValue125
 t51 := Tryz.underlying147
 a51 := Tryz.isAgg147
 z51 := Tryz.sizeOf147
 v51 := Tryz.zeroValue147
 t53 := Tryz.underlying116
 a53 := Tryz.isAgg116
 z53 := Tryz.sizeOf116
 v53 := Tryz.zeroValue116
 t171 := Tryz.underlying149
 a171 := Tryz.isAgg149
 z171 := Tryz.sizeOf149
 v171 := Tryz.zeroValue149
 t173 := Tryz.underlying151
 a173 := Tryz.isAgg151
 z173 := Tryz.sizeOf151
 v173 := Tryz.zeroValue151
 t212 := Tryz.underlying166
 a212 := Tryz.isAgg166
 z212 := Tryz.sizeOf166
 v212 := Tryz.zeroValue166
 t213 := Tryz.underlying167
 a213 := Tryz.isAgg167
 z213 := Tryz.sizeOf167
 t232 := Tryz.underlying172
 a232 := Tryz.isAgg172
 z232 := Tryz.sizeOf172
 v232 := Tryz.zeroValue172
 t233 := Tryz.underlying173
 a233 := Tryz.isAgg173
 z233 := Tryz.sizeOf173
 v233 := Tryz.zeroValue173
 g17 := by kernel_rfl
 g18 := by kernel_rfl
 g19 := by kernel_rfl
 i0 := by kernel_rfl
 i2 := by kernel_rfl
 i3 := by kernel_rfl
 i4 := by kernel_rfl
 i5 := by kernel_rfl
 i9 := by kernel_rfl
 i20 := by kernel_rfl
 i37 := by kernel_rfl
 i46 := by kernel_rfl
 i51 := by kernel_rfl
 i53 := by kernel_rfl
 i171 := by kernel_rfl
 i173 := by kernel_rfl
 i212 := by kernel_rfl
 i232 := by kernel_rfl
 i233 := by kernel_rfl
 m17 := by kernel_rfl
 m18 := by kernel_rfl
 m19 := by kernel_rfl }
open Go.RowKit Go.Sort Go.Lib in
theorem Tryz.strconv_FormatInt_10 (n : Int) (h0 : -9223372036854775808 ≤ n) (h1 : n ≤ 9223372036854775807) (w : World) (htab : Lib.TabIs Tryz.prog w "internal/strconv.uint64pow10" .u64 Lib.pow10Tab) :
  Calls Tryz.prog 63 #[.int .i64 n, .int .i64 10] w fun e w' => e = .returned (.string ⟨(Lib.itoa n).toArray⟩) ∧ ∃ k os, w' = grow (w.drewN k) os := Any.strconv_FormatInt_10 Tryz.laysM173 n h0 h1 w htab
def Tryz.lays105_ren : Go.Shelf.Ren := ⟨fun | 105 => 62 | 212 => 84 | 99 => 85 | 165 => 83 | 166 => 36 | 170 => 86 | 169 => 42 | 263 => 108 | 264 => 109 | 206 => 110 | 240 => 59 | 241 => 107 | 276 => 81 | 277 => 122 | n => n, fun | 9 => 9 | 3 => 3 | 4 => 4 | 20 => 20 | 0 => 0 | 46 => 125 | 109 => 130 | 5 => 5 | 72 => 79 | 76 => 82 | 51 => 147 | 146 => 153 | 53 => 116 | 148 => 155 | 70 => 76 | 37 => 77 | 75 => 81 | 127 => 114 | 164 => 128 | 80 => 89 | n => n, fun | n => n⟩
theorem Tryz.lays105 : Go.Proofs.Lays.n105 Tryz.prog Tryz.lays105_ren := {
 mixed := by kernel_rfl
 f99 := Tryz.func85.trans (congrArg some (by kernel_rfl))
 f105 := Tryz.func62.trans (congrArg some (by kernel_rfl))
 f165 := Tryz.func83.trans (congrArg some (by kernel_rfl))
 f166 := Tryz.func36.trans (congrArg some (by kernel_rfl))
 f169 := Tryz.func42.trans (congrArg some (by kernel_rfl))
 f170 := Tryz.func86.trans (congrArg some (by kernel_rfl))
 f206 := Tryz.func110.trans (congrArg some (by kernel_rfl))
 f212 := Tryz.func84.trans (congrArg some (by kernel_rfl))
 f240 := Tryz.func59.trans (congrArg some (by kernel_rfl))
 f241 := Tryz.func107.trans (congrArg some (by kernel_rfl))
 f263 := Tryz.func108.trans (congrArg some (by kernel_rfl))
 f264 := Tryz.func109.trans (congrArg some (by kernel_rfl))
 f276 := Tryz.func81.trans (congrArg some (by kernel_rfl))
 f277 := Tryz.func122.trans (congrArg some (by kernel_rfl))
 t0 := Tryz.underlying0
 a0 := Tryz.isAgg0
 z0 := Tryz.sizeOf0
 v0 := Tryz.zeroValue0
 t3 := Tryz.underlying3
 a3 := Tryz.isAgg3
 z3 := Tryz.sizeOf3
 v3 := Tryz.zeroValue3
 t4 := Tryz.underlying4
 a4 := Tryz.isAgg4
 z4 := Tryz.sizeOf4
 v4 := Tryz.zeroValue4
 t5 := Tryz.underlying5
 a5 := Tryz.isAgg5
 z5 := Tryz.sizeOf5
 v5 := Tryz.zeroValue5
 t9 := Tryz.underlying9
 a9 := Tryz.isAgg9
 z9 := Tryz.sizeOf9
 v9 := Tryz.zeroValue9
 t20 := Tryz.underlying20
 a20 := Tryz.isAgg20
 z20 := Tryz.sizeOf20
 v20 := Tryz.zeroValue20
 t37 := Tryz.underlying77
 a37 := Tryz.isAgg77
 z37 := Tryz.sizeOf77
 v37 := Tryz.zeroValue77
 t46 := Tryz.underlying125
 a46 := Tryz.isAgg125
 z46 := Tryz.sizeOf125
 v46 := Tryz.zeroValue125
 t51 := Tryz.underlying147
 a51 := Tryz.isAgg147
 z51 := Tryz.sizeOf147
 v51 := Tryz.zeroValue147
 t53 := Tryz.underlying116
 a53 := Tryz.isAgg116
 z53 := Tryz.sizeOf116
 v53 := Tryz.zeroValue116
 t70 := Tryz.underlying76
 a70 := Tryz.isAgg76
 z70 := Tryz.sizeOf76
 v70 := Tryz.zeroValue76
 t72 := Tryz.underlying79
 a72 := Tryz.isAgg79
 z72 := Tryz.sizeOf79
 v72 := Tryz.zeroValue79
 t75 := Tryz.underlying81
 a75 := Tryz.isAgg81
 z75 := Tryz.sizeOf81
 v75 := Tryz.zeroValue81
 t76 := Tryz.underlying82
 a76 := Tryz.isAgg82
 z76 := Tryz.sizeOf82
 v76 := Tryz.zeroValue82
 t109 := Tryz.underlying130
 a109 := Tryz.isAgg130
 z109 := Tryz.sizeOf130
 v109 := Tryz.zeroValue130
 t127 := Tryz.underlying114
 a127 := Tryz.isAgg114
 z127 := Tryz.sizeOf114
 v127 := Tryz.zeroValue114
 t146 := Tryz.underlying153
 a146 := Tryz.isAgg153
 z146 := Tryz.sizeOf153
 v146 := Tryz.zeroValue153
 t148 := Tryz.underlying155
 a148 := Tryz.isAgg155
 z148 := Tryz.sizeOf155
 v148 := Tryz.zeroValue155
 t164 := Tryz.underlying128
 a164 := Tryz.isAgg128
 z164 := Tryz.sizeOf128
 v164 := Tryz.zeroValue128 }
theorem Tryz.Builder_Extra_105 : Builder.Extra Tryz.prog Tryz.lays105_ren := {
 sizeBuilder := by kernel_rfl
 liesBuilder := by kernel_rfl
 t5 := Tryz.underlying5
 a5 := Tryz.isAgg5
 z5 := Tryz.sizeOf5
 v5 := Tryz.zeroValue5
 infoByte := by kernel_rfl
 cellsByte := by kernel_rfl
 sizeByte := by kernel_rfl
 neB5 := by decide }
open Go.RowKit Go.Lib in
theorem Tryz.strings_Repeat (s : ByteArray) (c : Nat) (w : World) (hc : c ≤ 9223372036854775807) (hlen : s.size * c ≤ 140737488355328) :
  Calls Tryz.prog 62 #[.string s, .int .i64 c] w fun e w' => e = .returned (.string ⟨(Lib.repeatL s.data.toList c).toArray⟩) ∧ Below w.heap.size w w' := Any.strings_Repeat Tryz.lays105 Tryz.Builder_Extra_105 s c w hc hlen
end Go.Proofs
section
set_option maxRecDepth 10000
set_option maxHeartbeats 2000000
namespace Go.Ve.H
open Go Go.Proofs Go.Ve
def scmp (a b : ByteArray) : Int := Lib.compareBytes a.data.toList b.data.toList
def sCompareF : List PV → Option (List Prop × PV)
 | [.val (.string a), .val (.string b)] => some ([], vI (scmp a b))
 | _ => none
theorem sCompareE (a b : ByteArray) : sCompareF [.val (.string a), .val (.string b)] = some ([], vI (scmp a b)) := rfl
theorem sCompare_ok : Sound Tryz.prog G0 70 (conT (CB.fn sCompareF).toCon) := by
 refine Sound.vals ⟨_, Tryz.func70, by decide, rfl⟩ _ ?_
 intro args ps r hq hp
 unfold sCompareF at hq
 split at hq
 ·rename_i a b
  injection hq with hq
  obtain ⟨rfl, rfl⟩ := Prod.mk.inj hq
  exact ⟨[.string a, .string b], _, rfl, rfl, rfl, fun w => Tryz.strings_Compare a b w⟩
 ·cases hq
theorem sCompare_okS : SoundD true Tryz.prog G0 [] 70 (conT (CB.fn sCompareF).toCon) := by
 refine Sound.vals ⟨_, Tryz.func70, by decide, rfl⟩ _ ?_
 intro args ps r hq hp
 unfold sCompareF at hq
 split at hq
 ·rename_i a b
  injection hq with hq
  obtain ⟨rfl, rfl⟩ := Prod.mk.inj hq
  exact ⟨[.string a, .string b], _, rfl, rfl, rfl, fun w => Tryz.strings_Compare a b w⟩
 ·cases hq
def cmpRef (a b : Ref) : Int := if (decide (a.t < 0)) ≠ (decide (b.t < 0)) then (if a.t < 0 then 1 else -1) else if a.t ≠ b.t then a.t - b.t else scmp a.n b.n
def refref (f : Ref → Ref → List Prop × PV) : List PV → Option (List Prop × PV)
 | [p, q] => match refD p, refD q with
  | some a, some b => some (f a b)
  | _, _ => none
 | _ => none
theorem refref_inv {f : Ref → Ref → List Prop × PV} {args : List PV} {x : List Prop × PV} (h : refref f args = some x) : ∃ a b, args = [refP a, refP b] ∧ x = f a b := by
 unfold refref at h
 split at h
 ·split at h
  ·rename_i h1 h2
   injection h with h
   exact ⟨_, _, by rw [refD_inv h1, refD_inv h2], h.symm⟩
  ·cases h
 ·cases h
def pBeforeF := refref fun a b => ([inI64 a.t, inI64 b.t], vI (cmpRef a b))
def pBelowF := refref fun a b => ([inI64 a.t, inI64 b.t], vI (cmpRef a b))
theorem pBeforeE (a b : Ref) : pBeforeF [refP a, refP b] = some ([inI64 a.t, inI64 b.t], vI (cmpRef a b)) := rfl
theorem pBelowE (a b : Ref) : pBelowF [refP a, refP b] = some ([inI64 a.t, inI64 b.t], vI (cmpRef a b)) := rfl
theorem cmpRef_law {a b : Ref} (ha : inI64 a.t) (hb : inI64 b.t) : (¬decide (a.t < 0) = decide (b.t < 0) → (a.t < 0 → PV.val (Value.int IntKind.i64 1) = vI (cmpRef a b)) ∧ (¬a.t < 0 → PV.val (Value.int IntKind.i64 (-1)) = vI (cmpRef a b))) ∧ (decide (a.t < 0) = decide (b.t < 0) → (¬a.t = b.t → inI64 (a.t - b.t) ∧ PV.val (Value.int IntKind.i64 (a.t - b.t)) = vI (cmpRef a b)) ∧ (a.t = b.t → vI (scmp a.n b.n) = vI (cmpRef a b))) := by
 unfold cmpRef
 refine ⟨fun h => ?_, fun h => ?_⟩
 ·rw [if_pos h]
  exact ⟨fun h1 => by rw [if_pos h1], fun h1 => by rw [if_neg h1]⟩
 ·rw [if_neg (fun hn => hn h)]
  refine ⟨fun h1 => ⟨?_, by rw [if_pos h1]⟩, fun h1 => by rw [if_neg (fun hn => hn h1)]⟩
  have h2 := decide_eq_decide.1 h
  unfold inI64 at *
  by_cases h3 : a.t < 0
  ·have := h2.1 h3; omega
  ·have : ¬ b.t < 0 := fun h4 => h3 (h2.2 h4)
   omega
def D47 : FuncId → Option CB
 | 70 => some (.fn sCompareF)
 | _ => none
theorem D47_ok : AllB E0 D47 := fun g c h => by
 unfold D47 at h
 split at h <;> simp at h <;> subst h
 ·exact sCompare_ok
theorem pBefore_ok : Sound Tryz.prog G0 47 (conT (CB.fn pBeforeF).toCon) := by
 refine fn_of D47_ok mixed true Tryz.func47 (by decide) rfl _ ?_
 intro args ps r hq hp
 obtain ⟨a, b, rfl, hx⟩ := refref_inv hq
 obtain ⟨rfl, rfl⟩ := Prod.mk.inj hx
 have ha := hp (inI64 a.t) (by simp)
 have hb := hp (inI64 b.t) (by simp)
 refine ⟨rfl, ?_⟩
 simp only [awpBFn, Tryz.ntmps47, List.length_cons, List.length_nil, Nat.reduceAdd, Nat.reduceSub, List.replicate_succ, List.replicate_zero, List.cons_append, List.nil_append, List.map_cons, List.map_nil]
 simp only [refP]
 simp -implicitDefEqProofs (maxSteps := 2000000) only [R0, R1, R2, R3, R4, R5, R6, R7, R8, R9, R10, R11, R12, R13, R14, R15, R16, PV.strip, stripL, PV.noref, ri, feedL, feeds, Nat.reduceBEq, Array.toList, ↓reduceIte, forall_const, implies_true, Nat.reduceEqDiff, reduceCtorEq, alP, bxP, bsP, ifP, quiet, riD, bs_l, PV.isRef, plainCell, norefL, PV.scalar, scalarL, PV.cells, PV.solid, PV.one, PV.free, freeL, fillP, splice, Nat.reduceAdd, Nat.reduceMul, Nat.reduceSub, Nat.reduceLeDiff, Nat.reduceLT, Int.reduceToNat, Int.reduceEq, Int.reduceLT, Int.reduceLE, Int.reduceNeg, E0_vc, vaN, PV.avoid, avoidL, Nat.reduceGT, Tryz.results47, fa45_0, ag3, sz3, zd3, Tryz.underlying4, fa45_1, ag9, sz9, zd9, D47, sCompareE]
 exact cmpRef_law ha hb
def D52 : FuncId → Option CB
 | 70 => some (.fn sCompareF)
 | _ => none
theorem D52_ok : AllB E0 D52 := fun g c h => by
 unfold D52 at h
 split at h <;> simp at h <;> subst h
 ·exact sCompare_ok
theorem pBelow_ok : Sound Tryz.prog G0 52 (conT (CB.fn pBelowF).toCon) := by
 refine fn_of D52_ok mixed true Tryz.func52 (by decide) rfl _ ?_
 intro args ps r hq hp
 obtain ⟨a, b, rfl, hx⟩ := refref_inv hq
 obtain ⟨rfl, rfl⟩ := Prod.mk.inj hx
 have ha := hp (inI64 a.t) (by simp)
 have hb := hp (inI64 b.t) (by simp)
 refine ⟨rfl, ?_⟩
 simp only [awpBFn, Tryz.ntmps52, List.length_cons, List.length_nil, Nat.reduceAdd, Nat.reduceSub, List.replicate_succ, List.replicate_zero, List.cons_append, List.nil_append, List.map_cons, List.map_nil]
 simp only [refP]
 simp -implicitDefEqProofs (maxSteps := 2000000) only [R0, R1, R2, R3, R4, R5, R6, R7, R8, R9, R10, R11, R12, R13, R14, R15, R16, PV.strip, stripL, PV.noref, ri, feedL, feeds, Nat.reduceBEq, Array.toList, ↓reduceIte, forall_const, implies_true, Nat.reduceEqDiff, reduceCtorEq, alP, bxP, bsP, ifP, quiet, riD, bs_l, PV.isRef, plainCell, norefL, PV.scalar, scalarL, PV.cells, PV.solid, PV.one, PV.free, freeL, fillP, splice, Nat.reduceAdd, Nat.reduceMul, Nat.reduceSub, Nat.reduceLeDiff, Nat.reduceLT, Int.reduceToNat, Int.reduceEq, Int.reduceLT, Int.reduceLE, Int.reduceNeg, E0_vc, vaN, PV.avoid, avoidL, Nat.reduceGT, Tryz.results52, fa45_0, ag3, sz3, zd3, Tryz.underlying4, fa45_1, ag9, sz9, zd9, D52, sCompareE]
 refine ⟨.inl (by decide), ?_⟩
 exact cmpRef_law ha hb
theorem D52_okS : AllB E1 D52 := fun g c h => by
 unfold D52 at h
 split at h <;> simp at h <;> subst h
 ·exact sCompare_okS
theorem pBelow_okS : SoundD true Tryz.prog G0 [] 52 (conT (CB.fn pBelowF).toCon) := by
 refine fn_of (dk := true) D52_okS mixed true Tryz.func52 (by decide) rfl _ ?_
 intro args ps r hq hp
 obtain ⟨a, b, rfl, hx⟩ := refref_inv hq
 obtain ⟨rfl, rfl⟩ := Prod.mk.inj hx
 have ha := hp (inI64 a.t) (by simp)
 have hb := hp (inI64 b.t) (by simp)
 refine ⟨rfl, ?_⟩
 simp only [awpBFn, Tryz.ntmps52, List.length_cons, List.length_nil, Nat.reduceAdd, Nat.reduceSub, List.replicate_succ, List.replicate_zero, List.cons_append, List.nil_append, List.map_cons, List.map_nil]
 simp only [refP]
 simp -implicitDefEqProofs (maxSteps := 2000000) only [R0, R1, R2, R3, R4, R5, R6, R7, R8, R9, R10, R11, R12, R13, R14, R15, R16, PV.strip, stripL, PV.noref, ri, feedL, feeds, Nat.reduceBEq, Array.toList, ↓reduceIte, forall_const, implies_true, Nat.reduceEqDiff, reduceCtorEq, alP, bxP, bsP, ifP, quiet, riD, bs_l, PV.isRef, plainCell, norefL, PV.scalar, scalarL, PV.cells, PV.solid, PV.one, PV.free, freeL, fillP, splice, Nat.reduceAdd, Nat.reduceMul, Nat.reduceSub, Nat.reduceLeDiff, Nat.reduceLT, Int.reduceToNat, Int.reduceEq, Int.reduceLT, Int.reduceLE, Int.reduceNeg, E0_vc, vaN, PV.avoid, avoidL, Nat.reduceGT, Tryz.results52, fa45_0, ag3, sz3, zd3, Tryz.underlying4, fa45_1, ag9, sz9, zd9, D52, sCompareE]
 refine ⟨.inl (by decide), ?_⟩
 exact cmpRef_law ha hb
theorem less_cmp : ∀ x y : List UInt8, Op.bytesLess x y = decide (Lib.compareBytes x y < 0)
 | [], [] => by simp [Op.bytesLess, Lib.compareBytes]
 | [], _ :: _ => by simp [Op.bytesLess, Lib.compareBytes]
 | _ :: _, [] => by simp [Op.bytesLess, Lib.compareBytes]
 | a :: xs, b :: ys => by
  unfold Op.bytesLess Lib.compareBytes
  have := less_cmp xs ys
  by_cases h : a < b
  ·simp [h]
  ·by_cases h' : b < a
   ·have hne : a ≠ b := by rintro rfl; exact h h'
    simp [h, h', hne]
   ·have he : a = b := UInt8.le_antisymm (UInt8.not_lt.1 h') (UInt8.not_lt.1 h)
    simp [h, h', he, this]
def rBelowF := refref fun a b => ([-1 ≤ a.t, -1 ≤ b.t], vT (decide (cmpRef a b < 0)))
theorem rBelowE (a b : Ref) : rBelowF [refP a, refP b] = some ([-1 ≤ a.t, -1 ≤ b.t], vT (decide (cmpRef a b < 0))) := rfl
theorem rBelow_ok : Sound Tryz.prog G0 25 (conT (CB.fn rBelowF).toCon) := by
 refine fn_of DN_ok mixed true Tryz.func25 (by decide) rfl _ ?_
 intro args ps r hq hp
 obtain ⟨a, b, rfl, hx⟩ := refref_inv hq
 obtain ⟨rfl, rfl⟩ := Prod.mk.inj hx
 have ha := hp (-1 ≤ a.t) (by simp)
 have hb := hp (-1 ≤ b.t) (by simp)
 refine ⟨rfl, ?_⟩
 simp only [awpBFn, Tryz.ntmps25, List.length_cons, List.length_nil, Nat.reduceAdd, Nat.reduceSub, List.replicate_succ, List.replicate_zero, List.cons_append, List.nil_append, List.map_cons, List.map_nil]
 simp only [refP]
 simp -implicitDefEqProofs (maxSteps := 2000000) only [R0, R1, R2, R3, R4, R5, R6, R7, R8, R9, R10, R11, R12, R13, R14, R15, R16, PV.strip, stripL, PV.noref, ri, feedL, feeds, Nat.reduceBEq, Array.toList, ↓reduceIte, forall_const, implies_true, Nat.reduceEqDiff, reduceCtorEq, alP, bxP, bsP, ifP, quiet, riD, bs_l, PV.isRef, plainCell, norefL, PV.scalar, scalarL, PV.cells, PV.solid, PV.one, PV.free, freeL, fillP, splice, Nat.reduceAdd, Nat.reduceMul, Nat.reduceSub, Nat.reduceLeDiff, Nat.reduceLT, Int.reduceToNat, Int.reduceEq, Int.reduceLT, Int.reduceLE, Int.reduceNeg, E0_vc, vaN, PV.avoid, avoidL, Nat.reduceGT, Tryz.results25, fa45_0, ag3, sz3, zd3, Tryz.underlying4, fa45_1, ag9, sz9, zd9]
 rw [less_cmp]
 have e1 : (a.t < 0) = (a.t = -1) := by apply propext; omega
 have e2 : (b.t < 0) = (b.t = -1) := by apply propext; omega
 simp only [cmpRef, e1, e2, scmp]
 by_cases h1 : a.t = -1 <;> by_cases h2 : b.t = -1 <;> by_cases h3 : a.t = b.t <;> simp_all <;> omega
end Go.Ve.H
end
section
set_option maxRecDepth 10000
set_option maxHeartbeats 2000000
namespace Go.Ve.H
open Go Go.Proofs Go.Ve
def finOk (f : Fin) : Bool := decide (0 ≤ f.n) && decide (f.n ≤ 48) && (f.v.drop f.n.toNat).all (fun x => decide (x = 0))
def onfin (g : Fin → List Prop × PV) : List PV → Option (List Prop × PV)
 | [p] => match finD p with
  | some f => some (g f)
  | none => none
 | _ => none
theorem onfin_P (g : Fin → List Prop × PV) (f : Fin) : onfin g [finP f] = some (g f) := by simp only [onfin, finD_P]
theorem onfin_inv {g : Fin → List Prop × PV} {args : List PV} {x : List Prop × PV} (h : onfin g args = some x) : ∃ f, args = [finP f] ∧ x = g f := by
 unfold onfin at h
 split at h
 ·split at h
  ·rename_i h1
   injection h with h
   exact ⟨_, by rw [finD_inv h1], h.symm⟩
  ·cases h
 ·cases h
theorem nr_fin (f : Fin) : (finP f).noref = true := by simp [finP, PV.noref, norefL, norefL_eq]
def pFCheckF := onfin fun f => ([], vI (if finOk f = true then 0 else 4))
def rFCheckF := onfin fun f => ([], vI (if finOk f = true then 0 else 4))
def zt (f : Fin) (k : Nat) : Bool := (f.v.drop k).all fun x => decide (x = 0)
theorem zt_go {f : Fin} {k : Nat} (h : k < 48) : zt f k = (decide (f.v.getD k 0 = 0) && zt f (k + 1)) := by
 have h' : k < f.v.length := by rw [f.hl]; exact h
 unfold zt
 rw [List.drop_eq_getElem_cons h', List.all_cons, List.getD_eq_getElem?_getD, List.getElem?_eq_getElem h']; rfl
theorem zt_end (f : Fin) : zt f 48 = true := by
 unfold zt; rw [List.drop_eq_nil_of_le (by rw [f.hl]; exact Nat.le_refl _)]; rfl
theorem finOk_bad {f : Fin} (h : f.n < 0 ∨ 48 < f.n) : finOk f = false := by
 unfold finOk; rcases h with h | h <;> simp [show ¬ 0 ≤ f.n ∨ True from .inr trivial] <;> omega
theorem finOk_in {f : Fin} (h0 : 0 ≤ f.n) (h1 : f.n ≤ 48) : finOk f = zt f f.n.toNat := by
 unfold finOk zt; simp [h0, h1]
theorem zt_bad {f : Fin} {k : Nat} (h : k < 48) (hv : ¬ f.v.getD k 0 = 0) : zt f k = false := by rw [zt_go h, decide_eq_false hv]; rfl
theorem zt_good {f : Fin} {k : Nat} (h : k < 48) (hv : f.v.getD k 0 = 0) : zt f k = zt f (k + 1) := by rw [zt_go h, decide_eq_true hv]; rfl
def W48 := And.intro @Tryz.results48 (And.intro @fa48_0 (And.intro @ag3 (And.intro @sz3 (And.intro @zd3 (And.intro @fa48_1 (And.intro @Tryz.underlying46 (And.intro @sz2 (And.intro @zd2 (And.intro @Tryz.underlying72 (@ag2))))))))))
theorem pFCheck_ok : Sound Tryz.prog G0 48 (conT (CB.fn pFCheckF).toCon) := by
 refine fn_of DN_ok mixed true Tryz.func48 (by decide) rfl _ ?_
 intro args ps r hq hp
 obtain ⟨f, rfl, hx⟩ := onfin_inv hq
 obtain ⟨rfl, rfl⟩ := Prod.mk.inj hx
 have hl : (f.v.map vI).length = 48 := by rw [List.length_map]; exact f.hl
 refine ⟨by simp only [norefL, nr_fin, Bool.and_self], ?_⟩
 simp only [awpBFn, Tryz.ntmps48, List.length_cons, List.length_nil, Nat.reduceAdd, Nat.reduceSub, List.replicate_succ, List.replicate_zero, List.cons_append, List.nil_append, List.map_cons, List.map_nil]
 simp only [finP]
 have hbad : f.n < 0 ∨ 48 < f.n → PV.val (Value.int IntKind.i64 4) = vI (if finOk f = true then 0 else 4) := fun h => by rw [finOk_bad h]; rfl
 by_cases h48 : f.n.toNat = 48
 ·simp -implicitDefEqProofs (maxSteps := 2000000) only [R0, R1, R2, R3, R4, R5, R6, R7, R8, R9, R10, R11, R12, R13, R14, R15, R16, PV.strip, stripL, PV.noref, ri, feedL, feeds, Nat.reduceBEq, Array.toList, ↓reduceIte, forall_const, implies_true, Nat.reduceEqDiff, reduceCtorEq, alP, bxP, bsP, ifP, quiet, riD, bs_l, PV.isRef, plainCell, norefL, PV.scalar, scalarL, PV.cells, PV.solid, PV.one, PV.free, freeL, fillP, splice, Nat.reduceAdd, Nat.reduceMul, Nat.reduceSub, Nat.reduceLeDiff, Nat.reduceLT, Int.reduceToNat, Int.reduceEq, Int.reduceLT, Int.reduceLE, Int.reduceNeg, E0_vc, vaN, PV.avoid, avoidL, Nat.reduceGT, W48, hl, h48]
  refine ⟨hbad, fun hin => ⟨by simp at hin; omega, ?_⟩⟩
  have hin' : 0 ≤ f.n ∧ f.n ≤ 48 := by simp at hin; omega
  refine loopB_ov [0, 1, 2, 3, 4, 5, 6, 7, 8, 9, 10, 11, 12, 13, 14, 15, 19, 20, 21, 22, 23, 24] (fun _ : Unit => []) 1 (fun _ => []) (fun _ => True) (fun _ => 0) () ?_ trivial ?_
  ·simp only [RG0, RG1, Nat.reduceAdd, ltL, PV.lt, Blk.lt, Nat.reduceLT, Nat.reduceLeDiff, Wk_rfl, ltL_vI]
  intro _ _
  simp -implicitDefEqProofs (maxSteps := 2000000) only [R0, R1, R2, R3, R4, R5, R6, R7, R8, R9, R10, R11, R12, R13, R14, R15, R16, PV.strip, stripL, PV.noref, ri, feedL, feeds, Nat.reduceBEq, Array.toList, ↓reduceIte, forall_const, implies_true, Nat.reduceEqDiff, reduceCtorEq, alP, bxP, bsP, ifP, quiet, riD, bs_l, PV.isRef, plainCell, norefL, PV.scalar, scalarL, PV.cells, PV.solid, PV.one, PV.free, freeL, fillP, splice, Nat.reduceAdd, Nat.reduceMul, Nat.reduceSub, Nat.reduceLeDiff, Nat.reduceLT, Int.reduceToNat, Int.reduceEq, Int.reduceLT, Int.reduceLE, Int.reduceNeg, E0_vc, vaN, PV.avoid, avoidL, Nat.reduceGT, W48, hl, h48]
  rw [finOk_in hin'.1 hin'.2, h48, zt_end]; rfl
 ·simp -implicitDefEqProofs (maxSteps := 2000000) only [R0, R1, R2, R3, R4, R5, R6, R7, R8, R9, R10, R11, R12, R13, R14, R15, R16, PV.strip, stripL, PV.noref, ri, feedL, feeds, Nat.reduceBEq, Array.toList, ↓reduceIte, forall_const, implies_true, Nat.reduceEqDiff, reduceCtorEq, alP, bxP, bsP, ifP, quiet, riD, bs_l, PV.isRef, plainCell, norefL, PV.scalar, scalarL, PV.cells, PV.solid, PV.one, PV.free, freeL, fillP, splice, Nat.reduceAdd, Nat.reduceMul, Nat.reduceSub, Nat.reduceLeDiff, Nat.reduceLT, Int.reduceToNat, Int.reduceEq, Int.reduceLT, Int.reduceLE, Int.reduceNeg, E0_vc, vaN, PV.avoid, avoidL, Nat.reduceGT, W48, hl, h48]
  refine ⟨hbad, fun hin => ⟨by simp at hin; omega, ?_⟩⟩
  have hin' : 0 ≤ f.n ∧ f.n ≤ 48 := by simp at hin; omega
  refine loopB_ov [0, 1, 2, 3, 4, 5, 6, 7, 8, 9, 10, 11, 12, 13, 14, 15, 19, 20, 21, 22, 23, 24] (fun i : Nat => [(18, vI i)]) 1 (fun _ => []) (fun i => i ≤ 48 - f.n.toNat ∧ zt f (f.n.toNat + i) = finOk f) (fun i => 48 - f.n.toNat - i) 0 ?_ ?_ ?_
  ·simp only [RG0, RG1, Nat.reduceAdd, ltL, PV.lt, Blk.lt, Nat.reduceLT, Nat.reduceLeDiff, Wk_rfl, ltL_vI]
  ·exact ⟨Nat.zero_le _, (finOk_in hin'.1 hin'.2).symm⟩
  intro i hP
  have h1 := hP.1; have h2 := hP.2
  simp -implicitDefEqProofs (maxSteps := 2000000) only [R0, R1, R2, R3, R4, R5, R6, R7, R8, R9, R10, R11, R12, R13, R14, R15, R16, PV.strip, stripL, PV.noref, ri, feedL, feeds, Nat.reduceBEq, Array.toList, ↓reduceIte, forall_const, implies_true, Nat.reduceEqDiff, reduceCtorEq, alP, bxP, bsP, ifP, quiet, riD, bs_l, PV.isRef, plainCell, norefL, PV.scalar, scalarL, PV.cells, PV.solid, PV.one, PV.free, freeL, fillP, splice, Nat.reduceAdd, Nat.reduceMul, Nat.reduceSub, Nat.reduceLeDiff, Nat.reduceLT, Int.reduceToNat, Int.reduceEq, Int.reduceLT, Int.reduceLE, Int.reduceNeg, E0_vc, vaN, PV.avoid, avoidL, Nat.reduceGT, W48, hl, h48, gd_c, gd_m, Int.toNat_natCast, Nat.add_assoc, gd_s]
  refine ⟨fun h => ⟨by omega, by omega, fun hv => ?_, fun hv => ⟨by unfold inI64; omega, i + 1, ⟨by omega, ?_⟩, by omega, ?_⟩⟩, fun h => ?_⟩
  ·rw [← h2, zt_bad (by omega) hv]; rfl
  ·rw [← h2, zt_good (by omega) hv]; rfl
  ·simp only [RG0, RG1, Nat.reduceAdd, ltL, PV.lt, Blk.lt, Nat.reduceLT, Nat.reduceLeDiff, Wk_rfl, ltL_vI] <;> omega
  ·rw [← h2, show f.n.toNat + i = 48 by omega, zt_end]; rfl
theorem rFCheck_ok : Sound Tryz.prog G0 26 (conT (CB.fn rFCheckF).toCon) := by
 refine fn_of DN_ok mixed true Tryz.func26 (by decide) rfl _ ?_
 intro args ps r hq hp
 obtain ⟨f, rfl, hx⟩ := onfin_inv hq
 obtain ⟨rfl, rfl⟩ := Prod.mk.inj hx
 have hl : (f.v.map vI).length = 48 := by rw [List.length_map]; exact f.hl
 refine ⟨by simp only [norefL, nr_fin, Bool.and_self], ?_⟩
 simp only [awpBFn, Tryz.ntmps26, List.length_cons, List.length_nil, Nat.reduceAdd, Nat.reduceSub, List.replicate_succ, List.replicate_zero, List.cons_append, List.nil_append, List.map_cons, List.map_nil]
 simp only [finP]
 simp -implicitDefEqProofs (maxSteps := 2000000) only [R0, R1, R2, R3, R4, R5, R6, R7, R8, R9, R10, R11, R12, R13, R14, R15, R16, PV.strip, stripL, PV.noref, ri, feedL, feeds, Nat.reduceBEq, Array.toList, ↓reduceIte, forall_const, implies_true, Nat.reduceEqDiff, reduceCtorEq, alP, bxP, bsP, ifP, quiet, riD, bs_l, PV.isRef, plainCell, norefL, PV.scalar, scalarL, PV.cells, PV.solid, PV.one, PV.free, freeL, fillP, splice, Nat.reduceAdd, Nat.reduceMul, Nat.reduceSub, Nat.reduceLeDiff, Nat.reduceLT, Int.reduceToNat, Int.reduceEq, Int.reduceLT, Int.reduceLE, Int.reduceNeg, E0_vc, vaN, PV.avoid, avoidL, Nat.reduceGT, Tryz.results26, fa48_0, ag3, sz3, zd3, fa48_1, Tryz.underlying46, sz2, zd2, ag2, hl]
 refine ⟨fun h => by rw [finOk_bad h]; rfl, fun hin => ?_⟩
 have hin' : 0 ≤ f.n ∧ f.n ≤ 48 := by simp at hin; omega
 refine loopB_ov [0, 2, 4, 5, 6, 7, 8, 9, 10, 11, 12, 13, 14, 15, 16, 17, 18, 19, 20, 21, 22] (fun i : Nat => [(3, vI i)]) 1 (fun _ => []) (fun i => i ≤ 48 ∧ zt f i = finOk f) (fun i => 48 - i) f.n.toNat ?_ ?_ ?_
 ·simp only [RG0, RG1, Nat.reduceAdd, ltL, PV.lt, Blk.lt, Nat.reduceLT, Nat.reduceLeDiff, Wk_rfl, ltL_vI] <;> omega
 ·exact ⟨by omega, (finOk_in hin'.1 hin'.2).symm⟩
 intro i hP
 have h1 := hP.1; have h2 := hP.2
 simp -implicitDefEqProofs (maxSteps := 2000000) only [R0, R1, R2, R3, R4, R5, R6, R7, R8, R9, R10, R11, R12, R13, R14, R15, R16, PV.strip, stripL, PV.noref, ri, feedL, feeds, Nat.reduceBEq, Array.toList, ↓reduceIte, forall_const, implies_true, Nat.reduceEqDiff, reduceCtorEq, alP, bxP, bsP, ifP, quiet, riD, bs_l, PV.isRef, plainCell, norefL, PV.scalar, scalarL, PV.cells, PV.solid, PV.one, PV.free, freeL, fillP, splice, Nat.reduceAdd, Nat.reduceMul, Nat.reduceSub, Nat.reduceLeDiff, Nat.reduceLT, Int.reduceToNat, Int.reduceEq, Int.reduceLT, Int.reduceLE, Int.reduceNeg, E0_vc, vaN, PV.avoid, avoidL, Nat.reduceGT, Tryz.results26, fa48_0, ag3, sz3, zd3, fa48_1, Tryz.underlying46, sz2, zd2, ag2, hl, gd_c, gd_m, Int.toNat_natCast, Nat.add_assoc, gd_s]
 refine ⟨fun h => ⟨by omega, by omega, fun hv => ?_, fun hv => ⟨by unfold inI64; omega, i + 1, ⟨by omega, ?_⟩, by omega, ?_⟩⟩, fun h => ?_⟩
 ·rw [← h2, zt_bad (by omega) hv]; rfl
 ·rw [← h2, zt_good (by omega) hv]
 ·simp only [RG0, RG1, Nat.reduceAdd, ltL, PV.lt, Blk.lt, Nat.reduceLT, Nat.reduceLeDiff, Wk_rfl, ltL_vI] <;> omega
 ·rw [← h2, show i = 48 by omega, zt_end]; rfl
def cmpL : List Int → List Int → Int
 | a :: l, b :: k => if a < b then -1 else if b < a then 1 else cmpL l k
 | [], _ :: _ => -1
 | _ :: _, [] => 1
 | [], [] => 0
def cmpFin (a b : Fin) : Int := if a.n < b.n then -1 else if b.n < a.n then 1 else cmpL a.v b.v
def finfin (g : Fin → Fin → List Prop × PV) : List PV → Option (List Prop × PV)
 | [p, q] => match finD p, finD q with
  | some f, some h => some (g f h)
  | _, _ => none
 | _ => none
theorem finfin_P (g : Fin → Fin → List Prop × PV) (f h : Fin) : finfin g [finP f, finP h] = some (g f h) := by simp only [finfin, finD_P]
theorem finfin_inv {g : Fin → Fin → List Prop × PV} {args : List PV} {x : List Prop × PV} (h : finfin g args = some x) : ∃ f k, args = [finP f, finP k] ∧ x = g f k := by
 unfold finfin at h
 split at h
 ·split at h
  ·rename_i h1 h2
   injection h with h
   exact ⟨_, _, by rw [finD_inv h1, finD_inv h2], h.symm⟩
  ·cases h
 ·cases h
def pCompareF := finfin fun f h => ([], vI (cmpFin f h))
def rCompareF := finfin fun f h => ([], vI (cmpFin f h))
theorem cmpL_go {a b : List Int} {k : Nat} (ha : k < a.length) (hb : k < b.length) : cmpL (a.drop k) (b.drop k) = if a.getD k 0 < b.getD k 0 then -1 else if b.getD k 0 < a.getD k 0 then 1 else cmpL (a.drop (k + 1)) (b.drop (k + 1)) := by
 rw [List.drop_eq_getElem_cons ha, List.drop_eq_getElem_cons hb, cmpL, List.getD_eq_getElem?_getD, List.getD_eq_getElem?_getD, List.getElem?_eq_getElem ha, List.getElem?_eq_getElem hb]; rfl
theorem rCompare_ok : Sound Tryz.prog G0 27 (conT (CB.fn rCompareF).toCon) := by
 refine fn_of DN_ok mixed true Tryz.func27 (by decide) rfl _ ?_
 intro args ps r hq hp
 obtain ⟨f, g, rfl, hx⟩ := finfin_inv hq
 obtain ⟨rfl, rfl⟩ := Prod.mk.inj hx
 have hl : (f.v.map vI).length = 48 := by rw [List.length_map]; exact f.hl
 have hl2 : (g.v.map vI).length = 48 := by rw [List.length_map]; exact g.hl
 refine ⟨by simp only [norefL, nr_fin, Bool.and_self], ?_⟩
 simp only [awpBFn, Tryz.ntmps27, List.length_cons, List.length_nil, Nat.reduceAdd, Nat.reduceSub, List.replicate_succ, List.replicate_zero, List.cons_append, List.nil_append, List.map_cons, List.map_nil]
 simp only [finP]
 simp -implicitDefEqProofs (maxSteps := 2000000) only [R0, R1, R2, R3, R4, R5, R6, R7, R8, R9, R10, R11, R12, R13, R14, R15, R16, PV.strip, stripL, PV.noref, ri, feedL, feeds, Nat.reduceBEq, Array.toList, ↓reduceIte, forall_const, implies_true, Nat.reduceEqDiff, reduceCtorEq, alP, bxP, bsP, ifP, quiet, riD, bs_l, PV.isRef, plainCell, norefL, PV.scalar, scalarL, PV.cells, PV.solid, PV.one, PV.free, freeL, fillP, splice, Nat.reduceAdd, Nat.reduceMul, Nat.reduceSub, Nat.reduceLeDiff, Nat.reduceLT, Int.reduceToNat, Int.reduceEq, Int.reduceLT, Int.reduceLE, Int.reduceNeg, E0_vc, vaN, PV.avoid, avoidL, Nat.reduceGT, Tryz.results27, fa48_0, ag3, sz3, zd3, fa48_1, Tryz.underlying46, sz2, zd2, ag2, hl, hl2]
 have hne : ¬ f.n = g.n → (f.n < g.n → PV.val (Value.int IntKind.i64 (-1)) = vI (cmpFin f g)) ∧ (¬f.n < g.n → PV.val (Value.int IntKind.i64 1) = vI (cmpFin f g)) := fun h => ⟨fun h1 => by rw [cmpFin, if_pos h1], fun h1 => by rw [cmpFin, if_neg h1, if_pos (by omega)]⟩
 refine ⟨hne, fun heq => ?_⟩
 refine loopB_ov [0, 1, 4, 6, 7, 8, 9, 10, 11, 12, 13, 14, 15, 16, 17, 18, 19, 20, 21, 22, 23, 24, 25, 26, 27, 28, 29, 30, 31, 32, 33, 34, 35, 36, 37] (fun i : Nat => [(5, vI i)]) 2 (fun _ => []) (fun i => i ≤ 48 ∧ cmpL (f.v.drop i) (g.v.drop i) = cmpFin f g) (fun i => 48 - i) 0 ?_ ?_ ?_
 ·simp only [RG0, RG1, Nat.reduceAdd, ltL, PV.lt, Blk.lt, Nat.reduceLT, Nat.reduceLeDiff, Wk_rfl, ltL_vI]
 ·exact ⟨by omega, by rw [cmpFin, if_neg (by omega), if_neg (by omega)]; rfl⟩
 intro i hP
 have h1 := hP.1; have h2 := hP.2
 simp -implicitDefEqProofs (maxSteps := 2000000) only [R0, R1, R2, R3, R4, R5, R6, R7, R8, R9, R10, R11, R12, R13, R14, R15, R16, PV.strip, stripL, PV.noref, ri, feedL, feeds, Nat.reduceBEq, Array.toList, ↓reduceIte, forall_const, implies_true, Nat.reduceEqDiff, reduceCtorEq, alP, bxP, bsP, ifP, quiet, riD, bs_l, PV.isRef, plainCell, norefL, PV.scalar, scalarL, PV.cells, PV.solid, PV.one, PV.free, freeL, fillP, splice, Nat.reduceAdd, Nat.reduceMul, Nat.reduceSub, Nat.reduceLeDiff, Nat.reduceLT, Int.reduceToNat, Int.reduceEq, Int.reduceLT, Int.reduceLE, Int.reduceNeg, E0_vc, vaN, PV.avoid, avoidL, Nat.reduceGT, Tryz.results27, fa48_0, ag3, sz3, zd3, fa48_1, Tryz.underlying46, sz2, zd2, ag2, hl, hl2, gd_c, gd_m, Int.toNat_natCast, Nat.add_assoc, gd_s]
 refine ⟨fun h => ?_, fun h => ?_⟩
 have hgo := @cmpL_go f.v g.v i (by rw [f.hl]; omega) (by rw [g.hl]; omega)
 rw [h2] at hgo
 refine ⟨.inl (by decide), by omega, by omega, by omega, by omega, fun hv => ?_, fun hv => ⟨.inl (by decide), by omega, by omega, by omega, by omega, fun hw => ?_, fun hw => ⟨by unfold inI64; omega, i + 1, ⟨by omega, ?_⟩, by omega, ?_⟩⟩⟩
 ·rw [hgo, if_pos hv]
 ·rw [hgo, if_neg hv, if_pos hw]
 ·rw [hgo, if_neg hv, if_neg hw]
 ·simp only [RG0, RG1, Nat.reduceAdd, ltL, PV.lt, Blk.lt, Nat.reduceLT, Nat.reduceLeDiff, Wk_rfl, ltL_vI] <;> omega
 ·rw [← h2, List.drop_eq_nil_of_le (by rw [f.hl]; omega), List.drop_eq_nil_of_le (by rw [g.hl]; omega)]; rfl
def isNaN6F : List PV → Option (List Prop × PV)
 | [.val (.int .i64 _)] => some ([], vT false)
 | _ => none
theorem isNaN6E (a : Int) : isNaN6F [.val (.int .i64 a)] = some ([], vT false) := rfl
theorem isNaN6_ok : Sound Tryz.prog G0 112 (conT (CB.fn isNaN6F).toCon) := by
 refine fn_of DN_ok mixed true Tryz.func112 (by decide) rfl _ ?_
 intro args ps r hq hp
 unfold isNaN6F at hq
 split at hq <;> simp only [reduceCtorEq, Option.some.injEq, Prod.mk.injEq] at hq
 obtain ⟨rfl, rfl⟩ := hq
 refine ⟨rfl, ?_⟩
 simp only [awpBFn, Tryz.ntmps112, List.length_cons, List.length_nil, Nat.reduceAdd, Nat.reduceSub, List.replicate_succ, List.replicate_zero, List.cons_append, List.nil_append, List.map_cons, List.map_nil]
 simp -implicitDefEqProofs (maxSteps := 2000000) only [R0, R1, R2, R3, R4, R5, R6, R7, R8, R9, R10, R11, R12, R13, R14, R15, R16, PV.strip, stripL, PV.noref, ri, feedL, feeds, Nat.reduceBEq, Array.toList, ↓reduceIte, forall_const, implies_true, Nat.reduceEqDiff, reduceCtorEq, alP, bxP, bsP, ifP, quiet, riD, bs_l, PV.isRef, plainCell, norefL, PV.scalar, scalarL, PV.cells, PV.solid, PV.one, PV.free, freeL, fillP, splice, Nat.reduceAdd, Nat.reduceMul, Nat.reduceSub, Nat.reduceLeDiff, Nat.reduceLT, Int.reduceToNat, Int.reduceEq, Int.reduceLT, Int.reduceLE, Int.reduceNeg, E0_vc, vaN, PV.avoid, avoidL, Nat.reduceGT, Tryz.results112]
def cmp6F : List PV → Option (List Prop × PV)
 | [.val (.int .i64 a), .val (.int .i64 b)] => some ([], vI (if a < b then -1 else if b < a then 1 else 0))
 | _ => none
theorem cmp6E (a b : Int) : cmp6F [.val (.int .i64 a), .val (.int .i64 b)] = some ([], vI (if a < b then -1 else if b < a then 1 else 0)) := rfl
def D89 : FuncId → Option CB
 | 112 => some (.fn isNaN6F)
 | _ => none
theorem D89_ok : AllB E0 D89 := fun g c h => by
 unfold D89 at h
 split at h <;> simp at h <;> subst h
 ·exact isNaN6_ok
theorem cmp6_ok : Sound Tryz.prog G0 89 (conT (CB.fn cmp6F).toCon) := by
 refine fn_of D89_ok mixed true Tryz.func89 (by decide) rfl _ ?_
 intro args ps r hq hp
 unfold cmp6F at hq
 split at hq <;> simp only [reduceCtorEq, Option.some.injEq, Prod.mk.injEq] at hq
 obtain ⟨rfl, rfl⟩ := hq
 refine ⟨rfl, ?_⟩
 simp only [awpBFn, Tryz.ntmps89, List.length_cons, List.length_nil, Nat.reduceAdd, Nat.reduceSub, List.replicate_succ, List.replicate_zero, List.cons_append, List.nil_append, List.map_cons, List.map_nil]
 simp -implicitDefEqProofs (maxSteps := 2000000) only [R0, R1, R2, R3, R4, R5, R6, R7, R8, R9, R10, R11, R12, R13, R14, R15, R16, PV.strip, stripL, PV.noref, ri, feedL, feeds, Nat.reduceBEq, Array.toList, ↓reduceIte, forall_const, implies_true, Nat.reduceEqDiff, reduceCtorEq, alP, bxP, bsP, ifP, quiet, riD, bs_l, PV.isRef, plainCell, norefL, PV.scalar, scalarL, PV.cells, PV.solid, PV.one, PV.free, freeL, fillP, splice, Nat.reduceAdd, Nat.reduceMul, Nat.reduceSub, Nat.reduceLeDiff, Nat.reduceLT, Int.reduceToNat, Int.reduceEq, Int.reduceLT, Int.reduceLE, Int.reduceNeg, E0_vc, vaN, PV.avoid, avoidL, Nat.reduceGT, Tryz.results89, D89, isNaN6E]
 refine ⟨fun h => h.elim, fun h => h.elim, fun h => by rw [if_pos h], fun h => ⟨fun h2 => by rw [if_neg h, if_pos h2], fun h2 => by rw [if_neg h, if_neg h2]⟩⟩
def ii (g : List Int → List Int → List Prop × PV) : List PV → Option (List Prop × PV)
 | [p, q] => match slD 1 intD p, slD 1 intD q with
  | some f, some h => some (g f h)
  | _, _ => none
 | _ => none
theorem ii_inv {g : List Int → List Int → List Prop × PV} {args : List PV} {x : List Prop × PV} (h : ii g args = some x) : ∃ j o f j' o' k, args = [.sl j (f.map vI) o, .sl j' (k.map vI) o'] ∧ (j = 1 ∨ f = []) ∧ (j' = 1 ∨ k = []) ∧ x = g f k := by
 unfold ii at h
 split at h
 ·split at h
  ·rename_i f k h1 h2
   injection h with h
   obtain ⟨j, o, rfl, hj⟩ := slD_inv (fun p x => intD_inv) h1
   obtain ⟨j', o', rfl, hj'⟩ := slD_inv (fun p x => intD_inv) h2
   exact ⟨j, o, f, j', o', k, rfl, hj, hj', h.symm⟩
  ·cases h
 ·cases h
def cmpLF := ii fun f h => ([f.length ≤ 1000, h.length ≤ 1000], vI (cmpL f h))
theorem cmpLE (f h : List Int) (o o' : Bool) : cmpLF [.sl 1 (f.map vI) o, .sl 1 (h.map vI) o'] = some ([f.length ≤ 1000, h.length ≤ 1000], vI (cmpL f h)) := by
 simp only [cmpLF, ii, slD_P intD_P]
def D71 : FuncId → Option CB
 | 89 => some (.fn cmp6F)
 | _ => none
theorem D71_ok : AllB E0 D71 := fun g c h => by
 unfold D71 at h
 split at h <;> simp at h <;> subst h
 ·exact cmp6_ok
theorem cmpL_ok : Sound Tryz.prog G0 71 (conT (CB.fn cmpLF).toCon) := by
 refine fn_of D71_ok mixed true Tryz.func71 (by decide) rfl _ ?_
 intro args ps r hq hp
 obtain ⟨j, o, f, j', o', k, rfl, hj, hj', hx⟩ := ii_inv hq
 obtain ⟨rfl, rfl⟩ := Prod.mk.inj hx
 have hf := hp (f.length ≤ 1000) (by simp)
 have hk := hp (k.length ≤ 1000) (by simp)
 refine ⟨by simp [norefL, PV.noref, norefL_eq], ?_⟩
 simp only [awpBFn, Tryz.ntmps71, List.length_cons, List.length_nil, Nat.reduceAdd, Nat.reduceSub, List.replicate_succ, List.replicate_zero, List.cons_append, List.nil_append, List.map_cons, List.map_nil]
 simp -implicitDefEqProofs (maxSteps := 2000000) only [R0, R1, R2, R3, R4, R5, R6, R7, R8, R9, R10, R11, R12, R13, R14, R15, R16, PV.strip, stripL, PV.noref, ri, feedL, feeds, Nat.reduceBEq, Array.toList, ↓reduceIte, forall_const, implies_true, Nat.reduceEqDiff, reduceCtorEq, alP, bxP, bsP, ifP, quiet, riD, bs_l, PV.isRef, plainCell, norefL, PV.scalar, scalarL, PV.cells, PV.solid, PV.one, PV.free, freeL, fillP, splice, Nat.reduceAdd, Nat.reduceMul, Nat.reduceSub, Nat.reduceLeDiff, Nat.reduceLT, Int.reduceToNat, Int.reduceEq, Int.reduceLT, Int.reduceLE, Int.reduceNeg, E0_vc, vaN, PV.avoid, avoidL, Nat.reduceGT, Tryz.results71, Tryz.underlying72, sz2, zd2, ag2, D71, cmp6E, List.length_map]
 refine loopB_ov [2, 3, 4, 5, 6, 7, 8, 12, 13, 14, 15, 16, 17, 18, 19, 20, 21, 22, 23, 24, 25, 26, 27, 28, 29, 30, 31, 32, 33, 34, 35] (fun i : Nat => [(0, .sl j (f.map vI) false), (1, .sl j' (k.map vI) false), (11, vI i)]) 0 (fun _ => []) (fun i => i ≤ f.length ∧ i ≤ k.length ∧ cmpL (f.drop i) (k.drop i) = cmpL f k) (fun i => f.length - i) 0 ?_ ?_ ?_
 ·simp only [RG0, RG1, Nat.reduceAdd, ltL, PV.lt, Blk.lt, Nat.reduceLT, Nat.reduceLeDiff, Wk_rfl, ltL_vI, wk_sl]
 ·exact ⟨by omega, by omega, rfl⟩
 intro i hP
 have h1 := hP.1; have h2 := hP.2.1; have h3 := hP.2.2
 simp -implicitDefEqProofs (maxSteps := 2000000) only [R0, R1, R2, R3, R4, R5, R6, R7, R8, R9, R10, R11, R12, R13, R14, R15, R16, PV.strip, stripL, PV.noref, ri, feedL, feeds, Nat.reduceBEq, Array.toList, ↓reduceIte, forall_const, implies_true, Nat.reduceEqDiff, reduceCtorEq, alP, bxP, bsP, ifP, quiet, riD, bs_l, PV.isRef, plainCell, norefL, PV.scalar, scalarL, PV.cells, PV.solid, PV.one, PV.free, freeL, fillP, splice, Nat.reduceAdd, Nat.reduceMul, Nat.reduceSub, Nat.reduceLeDiff, Nat.reduceLT, Int.reduceToNat, Int.reduceEq, Int.reduceLT, Int.reduceLE, Int.reduceNeg, E0_vc, vaN, PV.avoid, avoidL, Nat.reduceGT, Tryz.results71, Tryz.underlying72, sz2, zd2, ag2, D71, cmp6E, gd_m, Int.toNat_natCast, List.length_map]
 refine ⟨fun h => ?_, fun h => ?_⟩
 ·have hj1 : j = 1 := hj.resolve_right (by rintro rfl; simp at h; omega)
  refine ⟨hj1, by omega, fun hk => ?_, fun hk => ?_⟩
  ·rw [← h3, List.drop_eq_getElem_cons (show i < f.length by omega), List.drop_eq_nil_of_le (show k.length ≤ i by omega)]; rfl
  have hj2 : j' = 1 := hj'.resolve_right (by rintro rfl; simp at hk <;> omega)
  have hgo := @cmpL_go f k i (by omega) (by omega)
  rw [h3] at hgo
  refine ⟨hj2, by omega, fun hc => ?_, fun hc => ⟨by unfold inI64; omega, i + 1, ⟨by omega, by omega, ?_⟩, by omega, ?_⟩⟩
  ·rw [hgo]
   by_cases h4 : f.getD i 0 < k.getD i 0
   ·simp only [if_pos h4]
   ·rw [if_neg h4] at hc ⊢
    rw [if_neg h4]
    by_cases h5 : k.getD i 0 < f.getD i 0
    ·simp only [if_pos h5]
    ·rw [if_neg h5] at hc; exact absurd rfl hc
  ·rw [hgo]
   by_cases h4 : f.getD i 0 < k.getD i 0
   ·rw [if_pos h4] at hc; cases hc
   ·rw [if_neg h4] at hc ⊢
    by_cases h5 : k.getD i 0 < f.getD i 0
    ·rw [if_pos h5] at hc; cases hc
    ·rw [if_neg h5]
  ·simp only [RG0, RG1, Nat.reduceAdd, ltL, PV.lt, Blk.lt, Nat.reduceLT, Nat.reduceLeDiff, Wk_rfl, ltL_vI] <;> omega
 ·have he : i = f.length := by omega
  rw [← h3, List.drop_eq_nil_of_le (show f.length ≤ i by omega)]
  refine ⟨fun h6 => ?_, fun h6 => ?_⟩
  ·rw [List.drop_eq_getElem_cons (show i < k.length by omega)]; rfl
  ·rw [List.drop_eq_nil_of_le (show k.length ≤ i by omega)]; rfl
def D49 : FuncId → Option CB
 | 71 => some (lendC cmpLF)
 | _ => none
theorem D49_ok : AllB E0 D49 := fun g c h => by
 unfold D49 at h
 split at h <;> simp at h <;> subst h
 ·exact cmpL_ok.lend
theorem pCompare_ok : Sound Tryz.prog G0 49 (conT (CB.fn pCompareF).toCon) := by
 refine fn_of D49_ok mixed true Tryz.func49 (by decide) rfl _ ?_
 intro args ps r hq hp
 obtain ⟨f, g, rfl, hx⟩ := finfin_inv hq
 obtain ⟨rfl, rfl⟩ := Prod.mk.inj hx
 have hl : (f.v.map vI).length = 48 := by rw [List.length_map]; exact f.hl
 have hl2 : (g.v.map vI).length = 48 := by rw [List.length_map]; exact g.hl
 refine ⟨by simp only [norefL, nr_fin, Bool.and_self], ?_⟩
 simp only [awpBFn, Tryz.ntmps49, List.length_cons, List.length_nil, Nat.reduceAdd, Nat.reduceSub, List.replicate_succ, List.replicate_zero, List.cons_append, List.nil_append, List.map_cons, List.map_nil]
 simp only [finP]
 have hb1 := fun p => brwS_m (fun n : Int => vI n) (fun _ => ⟨rfl, rfl⟩) (vI f.n) f.v p
 have hb2 := fun p => brwS_m (fun n : Int => vI n) (fun _ => ⟨rfl, rfl⟩) (vI g.n) g.v p
 rw [f.hl] at hb1
 rw [g.hl] at hb2
 simp -implicitDefEqProofs (maxSteps := 2000000) only [R0, R1, R2, R3, R4, R5, R6, R7, R8, R9, R10, R11, R12, R13, R14, R15, R16, PV.strip, stripL, PV.noref, ri, feedL, feeds, Nat.reduceBEq, Array.toList, ↓reduceIte, forall_const, implies_true, Nat.reduceEqDiff, reduceCtorEq, alP, bxP, bsP, ifP, quiet, riD, bs_l, PV.isRef, plainCell, norefL, PV.scalar, scalarL, PV.cells, PV.solid, PV.one, PV.free, freeL, fillP, splice, Nat.reduceAdd, Nat.reduceMul, Nat.reduceSub, Nat.reduceLeDiff, Nat.reduceLT, Int.reduceToNat, Int.reduceEq, Int.reduceLT, Int.reduceLE, Int.reduceNeg, E0_vc, vaN, PV.avoid, avoidL, Nat.reduceGT, Tryz.results49, fa48_0, ag3, sz3, zd3, fa48_1, Tryz.underlying46, sz2, zd2, D49, cmpLE, hl, hl2, hb1, hb2]
 refine ⟨fun h => by rw [cmpFin, if_pos h], fun h1 => ⟨fun h => by rw [cmpFin, if_neg h1, if_pos h], fun h2 => ⟨.inl (by decide), ?_⟩⟩⟩
 refine ⟨by rw [f.hl]; omega, by rw [g.hl]; omega, ?_⟩
 show vI _ = vI _
 rw [cmpFin, if_neg h1, if_neg h2]
theorem pFCheckE (f : Fin) : pFCheckF [.agg (vI f.n :: f.v.map vI)] = some ([], vI (if finOk f = true then 0 else 4)) := onfin_P _ f
theorem rFCheckE (f : Fin) : rFCheckF [.agg (vI f.n :: f.v.map vI)] = some ([], vI (if finOk f = true then 0 else 4)) := onfin_P _ f
theorem pCompareE (f h : Fin) : pCompareF [.agg (vI f.n :: f.v.map vI), .agg (vI h.n :: h.v.map vI)] = some ([], vI (cmpFin f h)) := finfin_P _ f h
theorem rCompareE (f h : Fin) : rCompareF [.agg (vI f.n :: f.v.map vI), .agg (vI h.n :: h.v.map vI)] = some ([], vI (cmpFin f h)) := finfin_P _ f h
end Go.Ve.H
end
section
set_option maxRecDepth 10000
set_option maxHeartbeats 2000000
namespace Go.Ve.H
open Go Go.Proofs Go.Ve
theorem eqg39 : Tryz.prog.eqGuardType Tryz.prog.depth 45 = false := by kernel_rfl
theorem eqg44 : Tryz.prog.eqGuardType Tryz.prog.depth 50 = false := by kernel_rfl
theorem eqg46 : Tryz.prog.eqGuardType Tryz.prog.depth 52 = false := by kernel_rfl
theorem eqi39 (a b : Int) (n m : ByteArray) : eqI Tryz.prog 9 45 (.agg [vI a, vS n]) (.agg [vI b, vS m]) = some (decide (a = b) && (decide (n = m) && true)) := by kernel_rfl
theorem eqi46 (o a b t v o' a' b' t' v' : Int) (n n' : ByteArray) : eqI Tryz.prog 9 52 (.agg [vI o, vI a, vI b, vI t, vS n, vI v]) (.agg [vI o', vI a', vI b', vI t', vS n', vI v']) =
  some (decide (o = o') && (decide (a = a') && (decide (b = b') && ((decide (t = t') && (decide (n = n') && true)) && (decide (v = v') && true))))) := by kernel_rfl
theorem eqi40 (d : Nat) (f g : Fin) : eqI Tryz.prog (d + 2) 46 (.agg (f.v.map vI)) (.agg (g.v.map vI)) = some (decide (f.v = g.v)) := by
 unfold eqI
 simp only [Tryz.underlying46]
 rw [if_neg (by decide), List.range_eq_range', ← f.hl]
 exact eqN_ints (k := .i64) (by kernel_rfl) (by kernel_rfl) (by kernel_rfl) d f.v g.v _ _ 0 (by rw [f.hl, g.hl]) rfl rfl
theorem eqi42 (d : Nat) (f g : Fin) : eqI Tryz.prog (d + 3) 48 (.agg (vI f.n :: f.v.map vI)) (.agg (vI g.n :: g.v.map vI)) = some (decide (f.n = g.n) && (decide (f.v = g.v) && true)) := by
 have hf : ((vI f.n :: f.v.map vI).drop 1).take 48 = f.v.map vI := List.take_of_length_le (by simp [f.hl])
 have hg : ((vI g.n :: g.v.map vI).drop 1).take 48 = g.v.map vI := List.take_of_length_le (by simp [g.hl])
 have hlf : (f.v.map vI).length = 48 := by rw [List.length_map]; exact f.hl
 have hlg : (g.v.map vI).length = 48 := by rw [List.length_map]; exact g.hl
 have l1 : ∀ (cs : List PV) (o : Nat), loadP Tryz.prog [] 46 (.vptr cs o) = if o + 48 ≤ cs.length then some (.agg ((cs.drop o).take 48)) else none := fun cs o => ld_t (by kernel_rfl) (by kernel_rfl) [] cs o
 have l2 : ∀ (cs : List PV) (o : Nat), loadP Tryz.prog [] 3 (.vptr cs o) = if o < cs.length then some (cs.getD o .junk) else none := fun cs o => ld_f (by kernel_rfl) [] cs o
 unfold eqI
 simp only [Tryz.underlying48]
 rw [if_pos (by kernel_rfl)]
 have e3 : eqI Tryz.prog (d + 2) 3 (vI f.n) (vI g.n) = some (decide (f.n = g.n)) := by
  unfold eqI
  simp only [show Tryz.prog.underlying 3 = some (.int .i64) from by kernel_rfl, if_true]
 have g1 : ((vI f.n :: f.v.map vI).getD 0 .junk) = vI f.n := rfl
 have g2 : ((vI g.n :: g.v.map vI).getD 0 .junk) = vI g.n := rfl
 simp only [eqF, l1, l2, List.length_cons, hlf, hlg, hf, hg, Nat.zero_lt_succ, if_true, Nat.reduceAdd, Nat.reduceLeDiff, g1, g2, e3, eqi40, String.reduceEq, if_false, Nat.le_refl, reduceIte]
theorem eqi44 (r s : Row) : eqI Tryz.prog 9 50 (.agg (vI r.c :: vI r.f.n :: r.f.v.map vI)) (.agg (vI s.c :: vI s.f.n :: s.f.v.map vI)) = some (decide (r.c = s.c) && ((decide (r.f.n = s.f.n) && (decide (r.f.v = s.f.v) && true)) && true)) := by
 have hf : ∀ r : Row, ((vI r.c :: vI r.f.n :: r.f.v.map vI).drop 1).take 49 = vI r.f.n :: r.f.v.map vI := fun r => List.take_of_length_le (by simp [r.f.hl])
 have hl : ∀ r : Row, (vI r.f.n :: r.f.v.map vI).length = 49 := fun r => by simp [r.f.hl]
 have l1 : ∀ (cs : List PV) (o : Nat), loadP Tryz.prog [] 48 (.vptr cs o) = if o + 49 ≤ cs.length then some (.agg ((cs.drop o).take 49)) else none := fun cs o => ld_t (by kernel_rfl) (by kernel_rfl) [] cs o
 have l2 : ∀ (cs : List PV) (o : Nat), loadP Tryz.prog [] 2 (.vptr cs o) = if o < cs.length then some (cs.getD o .junk) else none := fun cs o => ld_f (by kernel_rfl) [] cs o
 unfold eqI
 simp only [Tryz.underlying50]
 rw [if_pos (by kernel_rfl)]
 have e2 : eqI Tryz.prog 8 2 (vI r.c) (vI s.c) = some (decide (r.c = s.c)) := by
  unfold eqI
  simp only [show Tryz.prog.underlying 2 = some (.int .i64) from by kernel_rfl, if_true]
 have g1 : ∀ r : Row, ((vI r.c :: vI r.f.n :: r.f.v.map vI).getD 0 .junk) = vI r.c := fun _ => rfl
 have e4 := eqi42 5 r.f s.f
 simp only [eqF, l1, l2, List.length_cons (a := vI r.c), List.length_cons (a := vI s.c), hl, hf, Nat.zero_lt_succ, if_true, Nat.reduceAdd, Nat.reduceLeDiff, g1, e2, e4, String.reduceEq, if_false, Nat.le_refl, reduceIte]
theorem ref_dec (a b : Int) (n m : ByteArray) : (decide (a = b) && (decide (n = m) && true)) = decide ((⟨a, n⟩ : Ref) = ⟨b, m⟩) := by
 rw [Bool.and_true, ← Bool.decide_and]
 exact decide_eq_decide.2 (by rw [Ref.mk.injEq])
theorem node_dec (o a b t v o' a' b' t' v' : Int) (n n' : ByteArray) : (decide (o = o') && (decide (a = a') && (decide (b = b') && ((decide (t = t') && (decide (n = n') && true)) && (decide (v = v') && true))))) = decide ((⟨o, a, b, ⟨t, n⟩, v⟩ : Node) = ⟨o', a', b', ⟨t', n'⟩, v'⟩) := by
 rw [ref_dec, Bool.and_true, ← Bool.decide_and, ← Bool.decide_and, ← Bool.decide_and, ← Bool.decide_and]
 exact decide_eq_decide.2 (by rw [Node.mk.injEq])
theorem eqt45 : (∀ (a b : Int) (n m : ByteArray), aggEq Tryz.prog .eql 45 (.agg [vI a, vS n]) (.agg [vI b, vS m]) = some (vT (decide ((⟨a, n⟩ : Ref) = ⟨b, m⟩)))) ∧ ∀ (a b : Int) (n m : ByteArray), aggEq Tryz.prog .neq 45 (.agg [vI a, vS n]) (.agg [vI b, vS m]) = some (vT (!decide ((⟨a, n⟩ : Ref) = ⟨b, m⟩))) := by
 constructor <;> intro a b n m <;> simp only [aggEq, eqg39, if_true, eqi39, ref_dec, Option.map_some]
theorem eqt52 : (∀ (o a b t v o' a' b' t' v' : Int) (n n' : ByteArray), aggEq Tryz.prog .eql 52 (.agg [vI o, vI a, vI b, vI t, vS n, vI v]) (.agg [vI o', vI a', vI b', vI t', vS n', vI v']) = some (vT (decide ((⟨o, a, b, ⟨t, n⟩, v⟩ : Node) = ⟨o', a', b', ⟨t', n'⟩, v'⟩)))) ∧
  ∀ (o a b t v o' a' b' t' v' : Int) (n n' : ByteArray), aggEq Tryz.prog .neq 52 (.agg [vI o, vI a, vI b, vI t, vS n, vI v]) (.agg [vI o', vI a', vI b', vI t', vS n', vI v']) = some (vT (!decide ((⟨o, a, b, ⟨t, n⟩, v⟩ : Node) = ⟨o', a', b', ⟨t', n'⟩, v'⟩))) := by
 constructor <;> intro o a b t v o' a' b' t' v' n n' <;> simp only [aggEq, eqg46, if_true, eqi46, node_dec, Option.map_some]
theorem eqt50 : (∀ f g : Row, aggEq Tryz.prog .eql 50 (.agg (vI f.c :: vI f.f.n :: f.f.v.map vI)) (.agg (vI g.c :: vI g.f.n :: g.f.v.map vI)) = some (vT (decide (f = g)))) ∧ ∀ f g : Row, aggEq Tryz.prog .neq 50 (.agg (vI f.c :: vI f.f.n :: f.f.v.map vI)) (.agg (vI g.c :: vI g.f.n :: g.f.v.map vI)) = some (vT (!decide (f = g))) := by
 have h : ∀ f g : Row, (decide (f.c = g.c) && ((decide (f.f.n = g.f.n) && (decide (f.f.v = g.f.v) && true)) && true)) = decide (f = g) := fun f g => by
  rw [Bool.and_true, Bool.and_true, ← Bool.decide_and, ← Bool.decide_and]
  refine decide_eq_decide.2 ⟨fun h => ?_, fun h => by rw [h]; exact ⟨rfl, rfl, rfl⟩⟩
  obtain ⟨c, f⟩ := f; obtain ⟨c', g⟩ := g
  have h2 : f = g := Fin.ext' h.2.1 h.2.2
  have h1 : c = c' := h.1
  rw [h1, h2]
 constructor <;> intro f g <;> simp only [aggEq, eqg44, if_true, eqi44, h, Option.map_some]
theorem bb_ag (s : Bool) (op : BinOp) (cs ds : List PV) : bB s op (.agg cs) (.agg ds) = none := rfl
theorem bin_ag {P : Program} {u : TypeId} {d : TypeDesc} (h : P.underlying u = some d) (op : BinOp) (x y : Operand) (cs ds : List PV) : binP P op u x y (.agg cs) (.agg ds) = aggEq P op u (.agg cs) (.agg ds) := by
 simp only [binP, h, askable]; rfl
theorem bin45 (op : BinOp) (x y : Operand) (cs ds : List PV) : binP Tryz.prog op 45 x y (.agg cs) (.agg ds) = aggEq Tryz.prog op 45 (.agg cs) (.agg ds) := bin_ag Tryz.underlying45 op x y cs ds
theorem bin50 (op : BinOp) (x y : Operand) (cs ds : List PV) : binP Tryz.prog op 50 x y (.agg cs) (.agg ds) = aggEq Tryz.prog op 50 (.agg cs) (.agg ds) := bin_ag Tryz.underlying50 op x y cs ds
theorem bin52 (op : BinOp) (x y : Operand) (cs ds : List PV) : binP Tryz.prog op 52 x y (.agg cs) (.agg ds) = aggEq Tryz.prog op 52 (.agg cs) (.agg ds) := bin_ag Tryz.underlying52 op x y cs ds
theorem gd_P {α : Type} (e : α → PV) (d : α) (l : List α) (k : Nat) : (l.map e).getD k (e d) = e (l.getD k d) := by
 rw [List.getD_eq_getElem?_getD, List.getD_eq_getElem?_getD, List.getElem?_map]; cases l[k]? <;> rfl
def noNode : Node := ⟨0, 0, 0, noRef, 0⟩
def noFin : Fin := ⟨0, List.replicate 48 0, List.length_replicate⟩
def noRow : Row := ⟨0, noFin⟩
theorem gd_ref (l : List Ref) (k : Nat) : (l.map refP).getD k (.agg (.val (.int .i64 0) :: (.val (.string { data := #[] }) :: []))) = refP (l.getD k noRef) := gd_P refP noRef l k
theorem gd_node (l : List Node) (k : Nat) : (l.map nodeP).getD k (.agg (.val (.int .i64 0) :: (.val (.int .i64 0) :: (.val (.int .i64 0) :: (.val (.int .i64 0) :: (.val (.string { data := #[] }) :: (.val (.int .i64 0) :: []))))))) = nodeP (l.getD k noNode) := gd_P nodeP noNode l k
theorem gd_row (l : List Row) (k : Nat) : (l.map rowP).getD k (.agg (List.replicate 50 (.val (.int .i64 0)))) = rowP (l.getD k noRow) := gd_P rowP noRow l k
theorem slD_of {α : Type} {z j : Nat} {d : PV → Option α} {e : α → PV} (he : ∀ x, d (e x) = some x) {l : List α} (hj : j = z ∨ l = []) (o : Bool) : slD z d (.sl j (l.map e) o) = some l := by
 have : (j = z ∨ l.map e = []) := hj.imp id (fun h => by rw [h]; rfl)
 simp only [slD, if_pos this, decL_map he]
theorem nr_ref (r : Ref) : (refP r).noref = true := rfl
theorem nr_node (r : Node) : (nodeP r).noref = true := rfl
theorem nr_row (r : Row) : (rowP r).noref = true := by simp [rowP, PV.noref, norefL, norefL_eq]
theorem nr_map {α : Type} {e : α → PV} (h : ∀ x, (e x).noref = true) (l : List α) : norefL (l.map e) = true := by
 rw [norefL_eq, List.all_map, List.all_eq_true]; intro x _; exact h x
theorem drop_eq {α : Type} {a b : List α} {d : α} {k : Nat} (ha : k < a.length) (hb : k < b.length) : (a.drop k = b.drop k) = (a.getD k d = b.getD k d ∧ a.drop (k + 1) = b.drop (k + 1)) := by
 rw [List.drop_eq_getElem_cons ha, List.drop_eq_getElem_cons hb, List.cons.injEq, List.getD_eq_getElem?_getD, List.getD_eq_getElem?_getD, List.getElem?_eq_getElem ha, List.getElem?_eq_getElem hb]; rfl
end Go.Ve.H
end
section
set_option maxRecDepth 10000
set_option maxHeartbeats 2000000
namespace Go.Ve.H
open Go Go.Proofs Go.Ve
def fI : List Ref → Ref → Int → Int
 | [], _, _ => -1
 | x :: l, r, i => if r = x then i else fI l r (i + 1)
theorem fI_pos : ∀ (l : List Ref) (r : Ref) (i : Int), 0 ≤ i → (0 ≤ fI l r i ↔ r ∈ l)
 | [], r, i, _ => by simp [fI]
 | x :: l, r, i, hi => by
  unfold fI
  by_cases h : r = x
  ·rw [if_pos h]; simp [h, hi]
  ·rw [if_neg h, fI_pos l r (i + 1) (by omega)]; simp [h]
def idxF : List PV → Option (List Prop × PV)
 | [p, q] => match slD 2 refD p, refD q with
  | some l, some r => some ([l.length ≤ 1099511627776], vI (fI l r 0))
  | _, _ => none
 | _ => none
theorem idxF_inv {args : List PV} {x : List Prop × PV} (h : idxF args = some x) : ∃ j o l r, args = [.sl j (l.map refP) o, refP r] ∧ (j = 2 ∨ l = []) ∧ x = ([l.length ≤ 1099511627776], vI (fI l r 0)) := by
 unfold idxF at h
 split at h
 ·split at h
  ·rename_i f k h1 h2
   injection h with h
   obtain ⟨j, o, rfl, hj⟩ := slD_inv (fun _ _ => refD_inv) h1
   exact ⟨j, o, f, k, by rw [refD_inv h2], hj, h.symm⟩
  ·cases h
 ·cases h
theorem idxE {j : Nat} {o : Bool} {l : List Ref} (hj : j = 2 ∨ l = []) (t : Int) (n : ByteArray) : idxF [.sl j (l.map refP) o, .agg [vI t, vS n]] = some ([l.length ≤ 1099511627776], vI (fI l ⟨t, n⟩ 0)) := by
 show (match slD 2 refD (.sl j (l.map refP) o), refD (.agg [vI t, vS n]) with | some l, some r => some ([l.length ≤ 1099511627776], vI (fI l r 0)) | _, _ => none) = _
 rw [slD_of refD_P hj]; rfl
theorem idx_ok : Sound Tryz.prog G0 32 (conT (CB.fn idxF).toCon) := by
 refine fn_of DN_ok mixed true Tryz.func32 (by decide) rfl _ ?_
 intro args ps r hq hp
 obtain ⟨j, o, l, r, rfl, hj, hx⟩ := idxF_inv hq
 obtain ⟨rfl, rfl⟩ := Prod.mk.inj hx
 have hf := hp (l.length ≤ 1099511627776) (by simp)
 refine ⟨by simp [norefL, PV.noref, nr_map nr_ref, nr_ref], ?_⟩
 simp only [awpBFn, Tryz.ntmps32, List.length_cons, List.length_nil, Nat.reduceAdd, Nat.reduceSub, List.replicate_succ, List.replicate_zero, List.cons_append, List.nil_append, List.map_cons, List.map_nil]
 simp -implicitDefEqProofs (maxSteps := 2000000) only [R0, R1, R2, R3, R4, R5, R6, R7, R8, R9, R10, R11, R12, R13, R14, R15, R16, PV.strip, stripL, PV.noref, ri, feedL, feeds, Nat.reduceBEq, Array.toList, ↓reduceIte, forall_const, implies_true, Nat.reduceEqDiff, reduceCtorEq, alP, bxP, bsP, ifP, quiet, riD, bs_l, PV.isRef, plainCell, norefL, PV.scalar, scalarL, PV.cells, PV.solid, PV.one, PV.free, freeL, fillP, splice, Nat.reduceAdd, Nat.reduceMul, Nat.reduceSub, Nat.reduceLeDiff, Nat.reduceLT, Int.reduceToNat, Int.reduceEq, Int.reduceLT, Int.reduceLE, Int.reduceNeg, E0_vc, vaN, PV.avoid, avoidL, Nat.reduceGT, Tryz.results32, Tryz.underlying22, ag45, sz45, zd45, eqt45, bin45, bb_ag, List.length_map, refP]
 refine loopB_ov [1, 2, 4, 5, 6, 9, 10, 11, 12, 13, 14, 15, 16, 17, 18] (fun i : Nat => [(0, .sl j (l.map refP) false), (8, vI i)]) 1 (fun _ => []) (fun i => i ≤ l.length ∧ fI (l.drop i) r i = fI l r 0) (fun i => l.length - i) 0 ?_ ?_ ?_
 ·simp only [RG0, RG1, Nat.reduceAdd, ltL, PV.lt, Blk.lt, Nat.reduceLT, Nat.reduceLeDiff, Wk_rfl, ltL_vI, wk_sl]
 ·exact ⟨by omega, rfl⟩
 intro i hP
 have h1 := hP.1; have h2 := hP.2
 simp -implicitDefEqProofs (maxSteps := 2000000) only [R0, R1, R2, R3, R4, R5, R6, R7, R8, R9, R10, R11, R12, R13, R14, R15, R16, PV.strip, stripL, PV.noref, ri, feedL, feeds, Nat.reduceBEq, Array.toList, ↓reduceIte, forall_const, implies_true, Nat.reduceEqDiff, reduceCtorEq, alP, bxP, bsP, ifP, quiet, riD, bs_l, PV.isRef, plainCell, norefL, PV.scalar, scalarL, PV.cells, PV.solid, PV.one, PV.free, freeL, fillP, splice, Nat.reduceAdd, Nat.reduceMul, Nat.reduceSub, Nat.reduceLeDiff, Nat.reduceLT, Int.reduceToNat, Int.reduceEq, Int.reduceLT, Int.reduceLE, Int.reduceNeg, E0_vc, vaN, PV.avoid, avoidL, Nat.reduceGT, Tryz.results32, Tryz.underlying22, ag45, sz45, zd45, eqt45, bin45, bb_ag, gd_ref, refP, Int.toNat_natCast, List.length_map]
 refine ⟨fun h => ?_, fun h => ?_⟩
 ·have hj1 : j = 2 := hj.resolve_right (by rintro rfl; simp at h <;> omega)
  have e : fI (l.drop i) r i = if r = l.getD i noRef then (i : Int) else fI (l.drop (i + 1)) r ((i : Int) + 1) := by
   rw [List.drop_eq_getElem_cons (show i < l.length by omega), fI, List.getD_eq_getElem?_getD, List.getElem?_eq_getElem (show i < l.length by omega)]; rfl
  rw [h2] at e
  refine ⟨.inl (by decide), hj1, by omega, fun he => ?_, fun he => ⟨by unfold inI64; omega, i + 1, ⟨by omega, ?_⟩, by omega, ?_⟩⟩
  ·have he' : r = l.getD i noRef := he
   rw [e, if_pos he']
  ·have he' : ¬ r = l.getD i noRef := he
   rw [e, if_neg he', Int.natCast_add]; rfl
  ·simp only [RG0, RG1, Nat.reduceAdd, ltL, PV.lt, Blk.lt, Nat.reduceLT, Nat.reduceLeDiff, Wk_rfl, ltL_vI] <;> omega
 ·rw [← h2, List.drop_eq_nil_of_le (by omega)]; rfl
def contF : List PV → Option (List Prop × PV)
 | [p, q] => match slD 2 refD p, refD q with
  | some l, some r => some ([l.length ≤ 1099511627776], vT (decide (r ∈ l)))
  | _, _ => none
 | _ => none
theorem contF_inv {args : List PV} {x : List Prop × PV} (h : contF args = some x) : ∃ j o l r, args = [.sl j (l.map refP) o, refP r] ∧ (j = 2 ∨ l = []) ∧ x = ([l.length ≤ 1099511627776], vT (decide (r ∈ l))) := by
 unfold contF at h
 split at h
 ·split at h
  ·rename_i f k h1 h2
   injection h with h
   obtain ⟨j, o, rfl, hj⟩ := slD_inv (fun _ _ => refD_inv) h1
   exact ⟨j, o, f, k, by rw [refD_inv h2], hj, h.symm⟩
  ·cases h
 ·cases h
theorem contE {j : Nat} {o : Bool} {l : List Ref} (hj : j = 2 ∨ l = []) (t : Int) (n : ByteArray) : contF [.sl j (l.map refP) o, .agg [vI t, vS n]] = some ([l.length ≤ 1099511627776], vT (decide (⟨t, n⟩ ∈ l))) := by
 show (match slD 2 refD (.sl j (l.map refP) o), refD (.agg [vI t, vS n]) with | some l, some r => some ([l.length ≤ 1099511627776], vT (decide (r ∈ l))) | _, _ => none) = _
 rw [slD_of refD_P hj]; rfl
def D22 : FuncId → Option CB
 | 32 => some (.fn idxF)
 | _ => none
theorem D22_ok : AllB E0 D22 := fun g c h => by
 unfold D22 at h
 split at h <;> simp at h <;> subst h
 ·exact idx_ok
theorem cont_ok : Sound Tryz.prog G0 22 (conT (CB.fn contF).toCon) := by
 refine fn_of D22_ok mixed true Tryz.func22 (by decide) rfl _ ?_
 intro args ps r hq hp
 obtain ⟨j, o, l, r, rfl, hj, hx⟩ := contF_inv hq
 obtain ⟨rfl, rfl⟩ := Prod.mk.inj hx
 have hf := hp (l.length ≤ 1099511627776) (by simp)
 refine ⟨by simp [norefL, PV.noref, nr_map nr_ref, nr_ref], ?_⟩
 simp only [awpBFn, Tryz.ntmps22, List.length_cons, List.length_nil, Nat.reduceAdd, Nat.reduceSub, List.replicate_succ, List.replicate_zero, List.cons_append, List.nil_append, List.map_cons, List.map_nil]
 have hE := fun o => idxE (o := o) hj r.t r.n
 simp -implicitDefEqProofs (maxSteps := 2000000) only [R0, R1, R2, R3, R4, R5, R6, R7, R8, R9, R10, R11, R12, R13, R14, R15, R16, PV.strip, stripL, PV.noref, ri, feedL, feeds, Nat.reduceBEq, Array.toList, ↓reduceIte, forall_const, implies_true, Nat.reduceEqDiff, reduceCtorEq, alP, bxP, bsP, ifP, quiet, riD, bs_l, PV.isRef, plainCell, norefL, PV.scalar, scalarL, PV.cells, PV.solid, PV.one, PV.free, freeL, fillP, splice, Nat.reduceAdd, Nat.reduceMul, Nat.reduceSub, Nat.reduceLeDiff, Nat.reduceLT, Int.reduceToNat, Int.reduceEq, Int.reduceLT, Int.reduceLE, Int.reduceNeg, E0_vc, vaN, PV.avoid, avoidL, Nat.reduceGT, Tryz.results22, ag45, sz45, D22, idxE, List.length_map, refP, hE]
 refine ⟨hf, ?_⟩
 rw [decide_eq_decide.2 (fI_pos l r 0 (by omega))]
def histD : PV → Option Hist
 | .agg [.val (.string n), .val (.int .i64 q), r, s, c] => match slD 2 refD r, slD 50 rowD s, slD 6 nodeD c with
  | some r, some s, some c => some ⟨n, q, r, s, c⟩
  | _, _, _ => none
 | _ => none
def IsH (p : PV) (h : Hist) : Prop := ∃ j1 o1 j2 o2 j3 o3, p = .agg [vS h.name, vI h.quant, .sl j1 (h.refs.map refP) o1, .sl j2 (h.rows.map rowP) o2, .sl j3 (h.cond.map nodeP) o3] ∧ (j1 = 2 ∨ h.refs = []) ∧ (j2 = 50 ∨ h.rows = []) ∧ (j3 = 6 ∨ h.cond = [])
theorem histD_inv {p : PV} {h : Hist} (hd : histD p = some h) : IsH p h := by
 unfold histD at hd
 split at hd
 ·split at hd
  ·rename_i h1 h2 h3
   injection hd with hd; subst hd
   obtain ⟨j1, o1, rfl, k1⟩ := slD_inv (fun _ _ => refD_inv) h1
   obtain ⟨j2, o2, rfl, k2⟩ := slD_inv (fun _ _ => rowD_inv) h2
   obtain ⟨j3, o3, rfl, k3⟩ := slD_inv (fun _ _ => nodeD_inv) h3
   exact ⟨j1, o1, j2, o2, j3, o3, rfl, k1, k2, k3⟩
  ·cases hd
 ·cases hd
theorem histD_of {n : ByteArray} {q : Int} {r : List Ref} {s : List Row} {c : List Node} {j1 j2 j3 : Nat} (o1 o2 o3 : Bool) (h1 : j1 = 2 ∨ r = []) (h2 : j2 = 50 ∨ s = []) (h3 : j3 = 6 ∨ c = []) :
  histD (.agg [vS n, vI q, .sl j1 (r.map refP) o1, .sl j2 (s.map rowP) o2, .sl j3 (c.map nodeP) o3]) = some ⟨n, q, r, s, c⟩ := by
 show (match slD 2 refD _, slD 50 rowD _, slD 6 nodeD _ with | some r, some s, some c => some (⟨n, q, r, s, c⟩ : Hist) | _, _, _ => none) = _
 rw [slD_of refD_P h1, slD_of rowD_P h2, slD_of nodeD_P h3]
def on2h (g : Hist → Hist → List Prop × PV) : List PV → Option (List Prop × PV)
 | [p, q] => match histD p, histD q with
  | some a, some b => some (g a b)
  | _, _ => none
 | _ => none
theorem on2h_inv {g : Hist → Hist → List Prop × PV} {args : List PV} {x : List Prop × PV} (h : on2h g args = some x) : ∃ p q a b, args = [p, q] ∧ IsH p a ∧ IsH q b ∧ x = g a b := by
 unfold on2h at h
 split at h
 ·split at h
  ·rename_i h1 h2
   injection h with h
   exact ⟨_, _, _, _, rfl, histD_inv h1, histD_inv h2, h.symm⟩
  ·cases h
 ·cases h
def on1h (g : Hist → List Prop × PV) : List PV → Option (List Prop × PV)
 | [p] => match histD p with
  | some a => some (g a)
  | _ => none
 | _ => none
theorem on1h_inv {g : Hist → List Prop × PV} {args : List PV} {x : List Prop × PV} (h : on1h g args = some x) : ∃ p a, args = [p] ∧ IsH p a ∧ x = g a := by
 unfold on1h at h
 split at h
 ·split at h
  ·rename_i h1
   injection h with h
   exact ⟨_, _, rfl, histD_inv h1, h.symm⟩
  ·cases h
 ·cases h
theorem nr_hist {p : PV} {h : Hist} (hp : IsH p h) : p.noref = true := by
 obtain ⟨j1, o1, j2, o2, j3, o3, rfl, _⟩ := hp
 simp [PV.noref, norefL, nr_map nr_ref, nr_map nr_row, nr_map nr_node]
end Go.Ve.H
end
section
set_option maxRecDepth 10000
set_option maxHeartbeats 2000000
namespace Go.Ve.H
open Go Go.Proofs Go.Ve
def valR : List Ref → List Int → Ref → Int
 | x :: l, v :: vs, r => if x = r then v else valR l vs r
 | _, _, _ => 0
def rValF : List PV → Option (List Prop × PV)
 | [p, q, s] => match slD 2 refD p, slD 1 intD q, refD s with
  | some l, some v, some r => some ([l.length ≤ 1099511627776, v.length ≤ 1099511627776], vI (valR l v r))
  | _, _, _ => none
 | _ => none
theorem rValF_inv {args : List PV} {x : List Prop × PV} (h : rValF args = some x) : ∃ j o l j' o' v r, args = [.sl j (l.map refP) o, .sl j' (v.map vI) o', refP r] ∧ (j = 2 ∨ l = []) ∧ (j' = 1 ∨ v = []) ∧ x = ([l.length ≤ 1099511627776, v.length ≤ 1099511627776], vI (valR l v r)) := by
 unfold rValF at h
 split at h
 ·split at h
  ·rename_i f g k h1 h2 h3
   injection h with h
   obtain ⟨j, o, rfl, hj⟩ := slD_inv (fun _ _ => refD_inv) h1
   obtain ⟨j', o', rfl, hj'⟩ := slD_inv (fun _ _ => intD_inv) h2
   exact ⟨j, o, f, j', o', g, k, by rw [refD_inv h3], hj, hj', h.symm⟩
  ·cases h
 ·cases h
theorem rValE {j j' : Nat} {o o' : Bool} {l : List Ref} {v : List Int} (hj : j = 2 ∨ l = []) (hj' : j' = 1 ∨ v = []) (t : Int) (n : ByteArray) : rValF [.sl j (l.map refP) o, .sl j' (v.map vI) o', .agg [vI t, vS n]] = some ([l.length ≤ 1099511627776, v.length ≤ 1099511627776], vI (valR l v ⟨t, n⟩)) := by
 show (match slD 2 refD (.sl j (l.map refP) o), slD 1 intD (.sl j' (v.map vI) o'), refD (refP ⟨t, n⟩) with | some l, some v, some r => some ([l.length ≤ 1099511627776, v.length ≤ 1099511627776], vI (valR l v r)) | _, _, _ => none) = _
 rw [slD_of refD_P hj, slD_of intD_P hj']; rfl
theorem valR_end {l : List Ref} {v : List Int} {r : Ref} {i : Nat} (h : ¬ (i < l.length ∧ i < v.length)) : valR (l.drop i) (v.drop i) r = 0 := by
 by_cases h1 : i < l.length
 ·rw [List.drop_eq_nil_of_le (show v.length ≤ i by omega)]; cases l.drop i <;> rfl
 ·rw [List.drop_eq_nil_of_le (show l.length ≤ i by omega)]; rfl
theorem valR_step {l : List Ref} {v : List Int} {r : Ref} {i : Nat} (h : i < l.length) (h' : i < v.length) : valR (l.drop i) (v.drop i) r = if l.getD i noRef = r then v.getD i 0 else valR (l.drop (i + 1)) (v.drop (i + 1)) r := by
 rw [List.drop_eq_getElem_cons h, List.drop_eq_getElem_cons h', valR, List.getD_eq_getElem?_getD, List.getElem?_eq_getElem h, List.getD_eq_getElem?_getD, List.getElem?_eq_getElem h']; rfl
theorem rVal_ok : Sound Tryz.prog G0 57 (conT (CB.fn rValF).toCon) := by
 refine fn_of DN_ok mixed true Tryz.func57 (by decide) rfl _ ?_
 intro args ps r hq hp
 obtain ⟨j, o, l, j', o', v, r, rfl, hj, hj', hx⟩ := rValF_inv hq
 obtain ⟨rfl, rfl⟩ := Prod.mk.inj hx
 have hf := hp (l.length ≤ 1099511627776) (by simp)
 have hg := hp (v.length ≤ 1099511627776) (by simp)
 refine ⟨by simp [norefL, PV.noref, nr_map nr_ref, nr_ref, norefL_eq], ?_⟩
 simp only [awpBFn, Tryz.ntmps57, List.length_cons, List.length_nil, Nat.reduceAdd, Nat.reduceSub, List.replicate_succ, List.replicate_zero, List.cons_append, List.nil_append, List.map_cons, List.map_nil]
 simp -implicitDefEqProofs (maxSteps := 2000000) only [R0, R1, R2, R3, R4, R5, R6, R7, R8, R9, R10, R11, R12, R13, R14, R15, R16, PV.strip, stripL, PV.noref, ri, feedL, feeds, Nat.reduceBEq, Array.toList, ↓reduceIte, forall_const, implies_true, Nat.reduceEqDiff, reduceCtorEq, alP, bxP, bsP, ifP, quiet, riD, bs_l, PV.isRef, plainCell, norefL, PV.scalar, scalarL, PV.cells, PV.solid, PV.one, PV.free, freeL, fillP, splice, Nat.reduceAdd, Nat.reduceMul, Nat.reduceSub, Nat.reduceLeDiff, Nat.reduceLT, Int.reduceToNat, Int.reduceEq, Int.reduceLT, Int.reduceLE, Int.reduceNeg, E0_vc, vaN, PV.avoid, avoidL, Nat.reduceGT, Tryz.results57, Tryz.underlying22, Tryz.underlying72, sz45, zd45, ag45, eqt45, bin45, bb_ag, sz2, zd2, ag2, List.length_map, refP]
 refine loopB_ov [2, 3, 4, 6, 8, 9, 10, 11, 12, 13, 14, 15, 16, 17, 18, 19, 20, 21, 22, 23, 24, 25, 26, 27, 28, 29] (fun i : Nat => [(0, .sl j (l.map refP) false), (1, .sl j' (v.map vI) false), (7, vI i)]) 1 (fun _ => []) (fun i => i ≤ l.length ∧ i ≤ v.length ∧ valR (l.drop i) (v.drop i) r = valR l v r) (fun i => l.length - i) 0 ?_ ?_ ?_
 ·simp only [RG0, RG1, Nat.reduceAdd, ltL, PV.lt, Blk.lt, Nat.reduceLT, Nat.reduceLeDiff, Wk_rfl, ltL_vI, wk_sl]
 ·exact ⟨by omega, by omega, rfl⟩
 intro i hP
 have h1 := hP.1; have h2 := hP.2.1; have h3 := hP.2.2
 simp -implicitDefEqProofs (maxSteps := 2000000) only [R0, R1, R2, R3, R4, R5, R6, R7, R8, R9, R10, R11, R12, R13, R14, R15, R16, PV.strip, stripL, PV.noref, ri, feedL, feeds, Nat.reduceBEq, Array.toList, ↓reduceIte, forall_const, implies_true, Nat.reduceEqDiff, reduceCtorEq, alP, bxP, bsP, ifP, quiet, riD, bs_l, PV.isRef, plainCell, norefL, PV.scalar, scalarL, PV.cells, PV.solid, PV.one, PV.free, freeL, fillP, splice, Nat.reduceAdd, Nat.reduceMul, Nat.reduceSub, Nat.reduceLeDiff, Nat.reduceLT, Int.reduceToNat, Int.reduceEq, Int.reduceLT, Int.reduceLE, Int.reduceNeg, E0_vc, vaN, PV.avoid, avoidL, Nat.reduceGT, Tryz.results57, Tryz.underlying22, Tryz.underlying72, sz45, zd45, ag45, eqt45, bin45, bb_ag, sz2, zd2, ag2, gd_ref, gd_m, refP, Int.toNat_natCast, List.length_map]
 refine ⟨fun h => ?_, fun h => ?_⟩
 ·have hj1 : j = 2 := hj.resolve_right (by rintro rfl; simp at h <;> omega)
  have hj2 : j' = 1 := hj'.resolve_right (by rintro rfl; simp at h <;> omega)
  have e := valR_step (r := r) (show i < l.length by omega) (show i < v.length by omega)
  rw [h3] at e
  refine ⟨.inl (by decide), hj1, by omega, fun he => ⟨hj2, by omega, ?_⟩, fun he => ⟨by unfold inI64; omega, i + 1, ⟨by omega, by omega, ?_⟩, by omega, ?_⟩⟩
  ·have he' : l.getD i noRef = r := he
   rw [e, if_pos he']
  ·have he' : ¬ l.getD i noRef = r := he
   rw [e, if_neg he']
  ·simp only [RG0, RG1, Nat.reduceAdd, ltL, PV.lt, Blk.lt, Nat.reduceLT, Nat.reduceLeDiff, Wk_rfl, ltL_vI] <;> omega
 ·have h' : ¬ (i < l.length ∧ i < v.length) := by
   intro hh; simp [hh.1, hh.2] at h
  rw [← h3, valR_end h']
end Go.Ve.H
end
section
set_option maxRecDepth 10000
set_option maxHeartbeats 2000000
namespace Go.Ve.H
open Go Go.Proofs Go.Ve
def pFieldsF : List PV → Option (List Prop × PV)
 | [p] => match nodeD p with
  | some n => some ([n.ref.n.size ≤ 1099511627776], vT (fieldsOk n))
  | none => none
 | _ => none
theorem pFieldsE (o a b t v : Int) (n : ByteArray) : pFieldsF [.agg [vI o, vI a, vI b, vI t, vS n, vI v]] = some ([n.size ≤ 1099511627776], vT (fieldsOk ⟨o, a, b, ⟨t, n⟩, v⟩)) := rfl
def D90 : FuncId → Option CB
 | 18 => some (.fn pNameF)
 | _ => none
theorem D90_ok : AllB E0 D90 := fun g c h => by
 unfold D90 at h
 split at h <;> simp at h <;> subst h
 ·exact pName_ok
theorem pFields_ok : Sound Tryz.prog G0 90 (conT (CB.fn pFieldsF).toCon) := by
 refine fn_of D90_ok mixed true Tryz.func90 (by decide) rfl _ ?_
 intro args ps r hq hp
 unfold pFieldsF at hq
 split at hq <;> try (simp at hq; done)
 split at hq <;> simp only [reduceCtorEq, Option.some.injEq, Prod.mk.injEq] at hq
 rename_i n hn
 obtain ⟨rfl, rfl⟩ := hq
 have hs := hp (n.ref.n.size ≤ 1099511627776) (by simp)
 rw [nodeD_inv hn]
 refine ⟨by simp [norefL, nr_node], ?_⟩
 simp only [awpBFn, Tryz.ntmps90, List.length_cons, List.length_nil, Nat.reduceAdd, Nat.reduceSub, List.replicate_succ, List.replicate_zero, List.cons_append, List.nil_append, List.map_cons, List.map_nil]
 simp only [nodeP]
 simp -implicitDefEqProofs (maxSteps := 2000000) only [R0, R1, R2, R3, R4, R5, R6, R7, R8, R9, R10, R11, R12, R13, R14, R15, R16, PV.strip, stripL, PV.noref, ri, feedL, feeds, Nat.reduceBEq, Array.toList, ↓reduceIte, forall_const, implies_true, Nat.reduceEqDiff, reduceCtorEq, alP, bxP, bsP, ifP, quiet, riD, bs_l, PV.isRef, plainCell, norefL, PV.scalar, scalarL, PV.cells, PV.solid, PV.one, PV.free, freeL, fillP, splice, Nat.reduceAdd, Nat.reduceMul, Nat.reduceSub, Nat.reduceLeDiff, Nat.reduceLT, Int.reduceToNat, Int.reduceEq, Int.reduceLT, Int.reduceLE, Int.reduceNeg, E0_vc, vaN, PV.avoid, avoidL, Nat.reduceGT, Tryz.results90, fa52_0, ag3, sz3, zd3, fa52_1, fa52_2, fa52_3, fa45_0, fa45_1, ag9, sz9, zd9, ag52, sz52, bu52, eqt52, bin52, bb_ag, ag45, sz45, bu45, eqt45, bin45, fa52_4, ag2, sz2, zd2, D90, pNameE]
 refine ⟨fun h => ⟨fun _ => hs, by rw [fieldsOk, if_pos h]⟩, fun h2 => ⟨fun h1 => ?_, fun h1 => ⟨fun h3 => ?_, fun h3 => ⟨fun h4 => ⟨fun _ => ?_, fun h => absurd h4 h⟩, fun h4 => ⟨fun h5 => ?_, fun h5 => ?_⟩⟩⟩⟩⟩
 ·rw [fieldsOk, if_neg h2, if_pos h1]
  obtain ⟨o, a, b, r, v⟩ := n
  have h1' : o = 1 := h1
  subst h1'
  rw [← Bool.decide_and, ← Bool.decide_and, ← Bool.decide_and]
  show vT _ = vT _
  congr 1
  exact decide_eq_decide.2 (by rw [Node.mk.injEq]; exact ⟨fun h => ⟨⟨⟨h.2.1, h.2.2.1⟩, h.2.2.2.1⟩, h.2.2.2.2⟩, fun h => ⟨rfl, h.1.1.1, h.1.1.2, h.1.2, h.2⟩⟩)
 ·rw [fieldsOk, if_neg h2, if_neg h1, if_pos h3]; rfl
 ·rw [fieldsOk, if_neg h2, if_neg h1, if_neg h3, if_pos (.inl h4)]; rfl
 ·rw [fieldsOk, if_neg h2, if_neg h1, if_neg h3, if_pos (.inr h5)]; rfl
 ·rw [fieldsOk, if_neg h2, if_neg h1, if_neg h3, if_neg (by omega)]
def brkF : List PV → Option (List Prop × PV)
 | [.val (.int .i64 op), .val (.int .i64 part), .val (.bool s)] => some ([], vT (brack op part s))
 | _ => none
def pBrackF := brkF
def rBrackF := brkF
theorem pBrackE (op part : Int) (s : Bool) : pBrackF [.val (.int .i64 op), .val (.int .i64 part), .val (.bool s)] = some ([], vT (brack op part s)) := rfl
theorem rBrackE (op part : Int) (s : Bool) : rBrackF [.val (.int .i64 op), .val (.int .i64 part), .val (.bool s)] = some ([], vT (brack op part s)) := rfl
theorem pBrack_ok : Sound Tryz.prog G0 92 (conT (CB.fn pBrackF).toCon) := by
 refine fn_of DN_ok mixed true Tryz.func92 (by decide) rfl _ ?_
 intro args ps r hq hp
 unfold pBrackF brkF at hq
 split at hq <;> simp only [reduceCtorEq, Option.some.injEq, Prod.mk.injEq] at hq
 obtain ⟨rfl, rfl⟩ := hq
 refine ⟨rfl, ?_⟩
 simp only [awpBFn, Tryz.ntmps92, List.length_cons, List.length_nil, Nat.reduceAdd, Nat.reduceSub, List.replicate_succ, List.replicate_zero, List.cons_append, List.nil_append, List.map_cons, List.map_nil]
 simp -implicitDefEqProofs (maxSteps := 2000000) only [R0, R1, R2, R3, R4, R5, R6, R7, R8, R9, R10, R11, R12, R13, R14, R15, R16, PV.strip, stripL, PV.noref, ri, feedL, feeds, Nat.reduceBEq, Array.toList, ↓reduceIte, forall_const, implies_true, Nat.reduceEqDiff, reduceCtorEq, alP, bxP, bsP, ifP, quiet, riD, bs_l, PV.isRef, plainCell, norefL, PV.scalar, scalarL, PV.cells, PV.solid, PV.one, PV.free, freeL, fillP, splice, Nat.reduceAdd, Nat.reduceMul, Nat.reduceSub, Nat.reduceLeDiff, Nat.reduceLT, Int.reduceToNat, Int.reduceEq, Int.reduceLT, Int.reduceLE, Int.reduceNeg, E0_vc, vaN, PV.avoid, avoidL, Nat.reduceGT, Tryz.results92]
 (repeat' (first | apply And.intro | intro _)) <;> grind [brack]
theorem rBrack_ok : Sound Tryz.prog G0 78 (conT (CB.fn rBrackF).toCon) := by
 refine fn_of DN_ok mixed true Tryz.func78 (by decide) rfl _ ?_
 intro args ps r hq hp
 unfold rBrackF brkF at hq
 split at hq <;> simp only [reduceCtorEq, Option.some.injEq, Prod.mk.injEq] at hq
 obtain ⟨rfl, rfl⟩ := hq
 refine ⟨rfl, ?_⟩
 simp only [awpBFn, Tryz.ntmps78, List.length_cons, List.length_nil, Nat.reduceAdd, Nat.reduceSub, List.replicate_succ, List.replicate_zero, List.cons_append, List.nil_append, List.map_cons, List.map_nil]
 simp -implicitDefEqProofs (maxSteps := 2000000) only [R0, R1, R2, R3, R4, R5, R6, R7, R8, R9, R10, R11, R12, R13, R14, R15, R16, PV.strip, stripL, PV.noref, ri, feedL, feeds, Nat.reduceBEq, Array.toList, ↓reduceIte, forall_const, implies_true, Nat.reduceEqDiff, reduceCtorEq, alP, bxP, bsP, ifP, quiet, riD, bs_l, PV.isRef, plainCell, norefL, PV.scalar, scalarL, PV.cells, PV.solid, PV.one, PV.free, freeL, fillP, splice, Nat.reduceAdd, Nat.reduceMul, Nat.reduceSub, Nat.reduceLeDiff, Nat.reduceLT, Int.reduceToNat, Int.reduceEq, Int.reduceLT, Int.reduceLE, Int.reduceNeg, E0_vc, vaN, PV.avoid, avoidL, Nat.reduceGT, Tryz.results78]
 (repeat' (first | apply And.intro | intro _)) <;> grind [brack]
def pDeepF (k : Nat) : List PV → Option (List Prop × PV)
 | [.sl 6 xs _, .val (.int .i64 i)] => match decL nodeD xs with
  | some c => some ([wfC c, c.length ≤ 1024, 0 ≤ i, i < c.length, i < k], vI (depth c i))
  | none => none
 | _ => none
theorem pDeepE (k : Nat) (c : List Node) (o : Bool) (i : Int) : pDeepF k [.sl 6 (c.map nodeP) o, .val (.int .i64 i)] = some ([wfC c, c.length ≤ 1024, 0 ≤ i, i < c.length, i < k], vI (depth c i)) := by
 simp only [pDeepF, decL_map nodeD_P]
def partN (c : List Node) (op i : Int) (s : Bool) : Int := depth c i + if brack op (ndOp c i) s = true then 1 else 0
theorem nd_at {c : List Node} {i : Int} (h0 : 0 ≤ i) (h1 : i < c.length) : c[i.toNat]? = some (c.getD i.toNat noNode) := by
 rw [List.getD_eq_getElem?_getD, List.getElem?_eq_getElem (show i.toNat < c.length by omega)]; rfl
theorem depth_eq {c : List Node} {i : Int} (hw : wfC c) (h0 : 0 ≤ i) (h1 : i < c.length) : depth c i = if (c.getD i.toNat noNode).op = 3 then 1 + partN c (c.getD i.toNat noNode).op (c.getD i.toNat noNode).a false else
  if (c.getD i.toNat noNode).op = 4 ∨ (c.getD i.toNat noNode).op = 5 then max (partN c (c.getD i.toNat noNode).op (c.getD i.toNat noNode).a false) (partN c (c.getD i.toNat noNode).op (c.getD i.toNat noNode).b true) else 0 := by
 have hn := hw i.toNat _ (nd_at h0 h1)
 have e : ∀ x : Int, 0 ≤ x → x < (i.toNat : Int) → deepN c i.toNat x = depth c x := by
  intro x a b
  obtain ⟨m, rfl⟩ := Int.eq_ofNat_of_zero_le a
  exact deepN_fuel hw i.toNat m (by omega)
 unfold depth
 rw [deepN, nd_at h0 h1]
 simp only
 by_cases h3 : (c.getD i.toNat noNode).op = 3
 ·rw [if_pos h3, if_pos h3, e _ (hn.1 h3).1 (hn.1 h3).2]; rfl
 ·by_cases h4 : (c.getD i.toNat noNode).op = 4 ∨ (c.getD i.toNat noNode).op = 5
  ·rw [if_neg h3, if_neg h3, if_pos h4, if_pos h4, e _ (hn.2 h4).1.1 (hn.2 h4).1.2, e _ (hn.2 h4).2.1 (hn.2 h4).2.2]; rfl
  ·rw [if_neg h3, if_neg h3, if_neg h4, if_neg h4]
theorem partN_le (c : List Node) (op i : Int) (s : Bool) (h0 : 0 ≤ i) : 0 ≤ partN c op i s ∧ partN c op i s ≤ 2 * (i + 1) + 1 := by
 have := deepN_le c (i.toNat + 1) i
 unfold partN depth
 split <;> omega
def pDeepCF (k : Nat) : List PV → Option (List Prop × PV)
 | [.val (.int .i64 i), .val (.bool s), .vptr [.sl 6 xs _] 0, .vptr [.val (.int .i64 op), .val (.int .i64 _), .val (.int .i64 _), .val (.int .i64 _), .val (.string _), .val (.int .i64 _)] 0] => match decL nodeD xs with
  | some c => some ([wfC c, c.length ≤ 1024, 0 ≤ i, i < c.length, i < k], vI (partN c op i s))
  | none => none
 | _ => none
theorem pDeepCE (k : Nat) (c : List Node) (o : Bool) (i op a b t v : Int) (n : ByteArray) (s : Bool) : pDeepCF k [.val (.int .i64 i), .val (.bool s), .vptr [.sl 6 (c.map nodeP) o] 0, .vptr [vI op, vI a, vI b, vI t, vS n, vI v] 0] = some ([wfC c, c.length ≤ 1024, 0 ≤ i, i < c.length, i < k], vI (partN c op i s)) := by
 simp only [pDeepCF, decL_map nodeD_P]
theorem pDeepCF_inv {k : Nat} {args : List PV} {ps : List Prop} {r : PV} (h : pDeepCF k args = some (ps, r)) : ∃ (c : List Node) (o : Bool) (i op a b t v : Int) (n : ByteArray) (s : Bool), args = [.val (.int .i64 i), .val (.bool s), .vptr [.sl 6 (c.map nodeP) o] 0, .vptr [vI op, vI a, vI b, vI t, vS n, vI v] 0] ∧ ps = [wfC c, c.length ≤ 1024, 0 ≤ i, i < c.length, i < k] ∧ r = vI (partN c op i s) := by
 unfold pDeepCF at h
 split at h
 ·split at h
  ·rename_i c hc
   injection h with h; injection h with h1 h2
   exact ⟨c, _, _, _, _, _, _, _, _, _, by rw [decL_inv (fun _ _ => nodeD_inv) hc], h1.symm, h2.symm⟩
  ·cases h
 ·cases h
theorem pDeepF_inv {k : Nat} {args : List PV} {ps : List Prop} {r : PV} (h : pDeepF k args = some (ps, r)) : ∃ (c : List Node) (o : Bool) (i : Int), args = [.sl 6 (c.map nodeP) o, vI i] ∧ ps = [wfC c, c.length ≤ 1024, 0 ≤ i, i < c.length, i < k] ∧ r = vI (depth c i) := by
 unfold pDeepF at h
 split at h
 ·split at h
  ·rename_i c hc
   injection h with h; injection h with h1 h2
   exact ⟨c, _, _, by rw [decL_inv (fun _ _ => nodeD_inv) hc], h1.symm, h2.symm⟩
  ·cases h
 ·cases h
def D91 (k : Nat) : FuncId → Option CB
 | 73 => some (.fn (pDeepF k))
 | 92 => some (.fn pBrackF)
 | _ => none
def D73 (k : Nat) : FuncId → Option CB
 | 91 => some (lendC (pDeepCF k))
 | _ => none
theorem D73_tame (k : Nat) : Tame E0 (conD (D73 k)) := by
 refine ⟨rfl, fun g c h => ?_⟩
 unfold conD D73 at h
 split at h
 ·simp only [Option.map_some, Option.some.injEq] at h; subst h; exact .inr ⟨_, rfl⟩
 ·simp at h
theorem pDeepC_ok (k : Nat) (h : Sound Tryz.prog G0 73 (conT (CB.fn (pDeepF k)).toCon)) : Sound Tryz.prog G0 91 (conT (CB.fn (pDeepCF k)).toCon) := by
 have hD : AllB E0 (D91 k) := fun g c hg => by
  unfold D91 at hg
  split at hg <;> simp at hg <;> subst hg
  ·exact h
  ·exact pBrack_ok
 refine fn_of hD mixed true Tryz.func91 (by decide) rfl _ ?_
 intro args ps r hq hp
 obtain ⟨c, o, i, op, a, b, t, v, n, s, rfl, rfl, rfl⟩ := pDeepCF_inv hq
 have hw := hp (wfC c) (by simp)
 have hl := hp (c.length ≤ 1024) (by simp)
 have h0 := hp (0 ≤ i) (by simp)
 have h1 := hp (i < c.length) (by simp)
 have hk := hp (i < k) (by simp)
 refine ⟨by simp [norefL, PV.noref, nr_map nr_node], ?_⟩
 simp only [awpBFn, Tryz.ntmps91, List.length_cons, List.length_nil, Nat.reduceAdd, Nat.reduceSub, List.replicate_succ, List.replicate_zero, List.cons_append, List.nil_append, List.map_cons, List.map_nil]
 simp -implicitDefEqProofs (maxSteps := 2000000) only [R0, R1, R2, R3, R4, R5, R6, R7, R8, R9, R10, R11, R12, R13, R14, R15, R16, PV.strip, stripL, PV.noref, ri, feedL, feeds, Nat.reduceBEq, Array.toList, ↓reduceIte, forall_const, implies_true, Nat.reduceEqDiff, reduceCtorEq, alP, bxP, bsP, ifP, quiet, riD, bs_l, PV.isRef, plainCell, norefL, PV.scalar, scalarL, PV.cells, PV.solid, PV.one, PV.free, freeL, fillP, splice, Nat.reduceAdd, Nat.reduceMul, Nat.reduceSub, Nat.reduceLeDiff, Nat.reduceLT, Int.reduceToNat, Int.reduceEq, Int.reduceLT, Int.reduceLE, Int.reduceNeg, E0_vc, vaN, PV.avoid, avoidL, Nat.reduceGT, Tryz.results91, ag25, sz25, zd25, fa52_0, ag3, sz3, zd3, Tryz.underlying25, sz52, zd52, D91, pDeepE, pBrackE, gd_node, nodeP, List.length_map]
 have hop : (c.getD i.toNat noNode).op = ndOp c i := by
  unfold ndOp
  rw [List.getD_eq_getElem?_getD, List.getElem?_eq_getElem (show i.toNat < c.length by omega)]; rfl
 have hd := deepN_le c (i.toNat + 1) i
 rw [hop]
 refine ⟨hw, hl, h0, h1, hk, .inl rfl, ⟨h0, h1⟩, fun h => ⟨?_, ?_⟩, fun h => ?_⟩
 ·unfold inI64; unfold depth; omega
 ·rw [partN, if_pos h]
 ·rw [partN, if_neg (by rw [h]; decide), Int.add_zero]
theorem pDeep_step (k : Nat) (h : Sound Tryz.prog G0 91 (conT (CB.fn (pDeepCF k)).toCon)) : Sound Tryz.prog G0 73 (conT (CB.fn (pDeepF (k + 1))).toCon) := by
 have hD : AllB E0 (D73 k) := fun g c hg => by
  unfold D73 at hg
  split at hg <;> simp at hg <;> subst hg
  ·exact h.lend
 refine fn_of hD mixed true Tryz.func73 (by decide) rfl _ ?_
 intro args ps r hq hp
 obtain ⟨c, o, i, rfl, rfl, rfl⟩ := pDeepF_inv hq
 have hw := hp (wfC c) (by simp)
 have hl := hp (c.length ≤ 1024) (by simp)
 have h0 := hp (0 ≤ i) (by simp)
 have h1 := hp (i < c.length) (by simp)
 have hk := hp (i < (k + 1 : Nat)) (by simp)
 refine ⟨by simp [norefL, PV.noref, nr_map nr_node], ?_⟩
 simp only [awpBFn, Tryz.ntmps73, List.length_cons, List.length_nil, Nat.reduceAdd, Nat.reduceSub, List.replicate_succ, List.replicate_zero, List.cons_append, List.nil_append, List.map_cons, List.map_nil]
 have hb0 := fun p => brwP_cells (cs := [.sl 6 (c.map nodeP) o]) (by simp [plain_sl (nr_map nr_node c)]) 0 p
 have hb1 := fun (o a b t v : Int) (n : ByteArray) p => brwP_cells (cs := [vI o, vI a, vI b, vI t, vS n, vI v]) rfl 0 p
 have hE := pDeepCE k c
 simp -implicitDefEqProofs (maxSteps := 2000000) only [R0, R1, R2, R3, R4, R5, R6, R7, R8, R9, R10, R11, R12, R13, R14, R15, R16, PV.strip, stripL, PV.noref, ri, feedL, feeds, Nat.reduceBEq, Array.toList, ↓reduceIte, forall_const, implies_true, Nat.reduceEqDiff, reduceCtorEq, alP, bxP, bsP, ifP, quiet, riD, bs_l, PV.isRef, plainCell, norefL, PV.scalar, scalarL, PV.cells, PV.solid, PV.one, PV.free, freeL, fillP, splice, Nat.reduceAdd, Nat.reduceMul, Nat.reduceSub, Nat.reduceLeDiff, Nat.reduceLT, Int.reduceToNat, Int.reduceEq, Int.reduceLT, Int.reduceLE, Int.reduceNeg, E0_vc, vaN, PV.avoid, avoidL, Nat.reduceGT, Tryz.results73, ag25, sz25, zd25, Tryz.underlying25, sz52, zd52, ag52, zp52, fa52_0, ag3, sz3, zd3, fa52_1, fa52_2, D73, pDeepCE, gd_node, nodeP, List.length_map, hb0, hb1, hE]
 have hn := hw i.toNat _ (nd_at h0 h1)
 have hde := depth_eq hw h0 h1
 generalize hN : c.getD i.toNat noNode = n at *
 have hnr : ∀ (x : Int) (s : Bool), norefL [PV.val (Value.int IntKind.i64 x), PV.val (Value.bool s), PV.vptr [PV.sl 6 (List.map nodeP c) false] 0, PV.vptr [PV.val (Value.int IntKind.i64 n.op), PV.val (Value.int IntKind.i64 n.a), PV.val (Value.int IntKind.i64 n.b), PV.val (Value.int IntKind.i64 n.ref.t), PV.val (Value.string n.ref.n), PV.val (Value.int IntKind.i64 n.val)] 0] = true := fun x s => by
  simp [norefL, PV.noref, nr_map nr_node]
 refine ⟨⟨h0, h1⟩, fun h3 => ?_, fun h3 => ?_⟩
 ·obtain ⟨a0, a1⟩ := hn.1 h3
  have hp := partN_le c n.op n.a false a0
  rw [if_pos h3] at hde
  exact ⟨hw, hl, a0, by omega, by omega, by unfold inI64; omega, by rw [hde]⟩
 rw [if_neg h3] at hde
 have hmx : ∀ a b : Int, (if b > a then b else a) = max a b := fun a b => by rw [Int.max_def]; split <;> split <;> omega
 refine ⟨fun h4 => ⟨fun _ => ?_, fun h => absurd h4 h⟩, fun h4 => ⟨fun h5 => ?_, fun h5 => ?_⟩⟩
 ·obtain ⟨⟨a0, a1⟩, b0, b1⟩ := hn.2 (.inl h4)
  rw [if_pos (.inl h4)] at hde
  exact ⟨.inr ⟨D73_tame k, rfl⟩, hw, hl, a0, by omega, by omega, hw, hl, b0, by omega, by omega, by rw [hmx, hde]⟩
 ·obtain ⟨⟨a0, a1⟩, b0, b1⟩ := hn.2 (.inr h5)
  rw [if_pos (.inr h5)] at hde
  exact ⟨.inr ⟨D73_tame k, rfl⟩, hw, hl, a0, by omega, by omega, hw, hl, b0, by omega, by omega, by rw [hmx, hde]⟩
 ·rw [if_neg (by omega)] at hde
  rw [hde]
theorem pDeep_all : ∀ k : Nat, Sound Tryz.prog G0 73 (conT (CB.fn (pDeepF k)).toCon)
 | 0 => ⟨⟨_, Tryz.func73, by decide, rfl⟩, fun Pr F R blks w args vs K _ _ _ _ _ ⟨r, ⟨ps, hq, hp⟩, _⟩ => by
  obtain ⟨c, o, i, rfl, rfl, rfl⟩ := pDeepF_inv hq
  have h0 := hp (0 ≤ i) (by simp)
  have hk := hp (i < (0 : Nat)) (by simp)
  omega⟩
 | k + 1 => pDeep_step k (pDeepC_ok k (pDeep_all k))
def pDeepGF := pDeepF 2000
theorem pDeepG_ok : Sound Tryz.prog G0 73 (conT (CB.fn pDeepGF).toCon) := pDeep_all 2000
theorem pDeepGE (c : List Node) (o : Bool) (i : Int) : pDeepGF [.sl 6 (c.map nodeP) o, .val (.int .i64 i)] = some ([wfC c, c.length ≤ 1024, 0 ≤ i, i < c.length, i < (2000 : Nat)], vI (depth c i)) := pDeepE 2000 c o i
end Go.Ve.H
end
