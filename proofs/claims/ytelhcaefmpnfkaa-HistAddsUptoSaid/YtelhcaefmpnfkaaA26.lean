/- weirlaw30.HistAdds: part of the proof (a value semantics for the model's code, and the functions told by it). -/
import Derived.Test.YtelhcaefmpnfkaaA25
set_option linter.unusedSimpArgs false
set_option linter.unusedVariables false
set_option linter.deprecated false
set_option linter.unusedSectionVars false
set_option linter.defProp false
section
set_option maxRecDepth 10000
set_option maxHeartbeats 20000000
namespace Go.Ve.H
open Go Go.Proofs Go.Ve
def mixP (h : Hist) : PV := .agg [vS h.name, vI h.quant, .slt 2 (h.refs.map refP) [refP endRef], .sl 50 (h.rows.map rowP) false, .slt 6 (h.cond.map nodeP) [nodeP endNode]]
def mixD : PV → Option Hist
 | .agg [n, q, r, .sl 50 s false, c] => copyD (.agg [n, q, r, .slt 50 s [rowP endRow], c])
 | _ => none
theorem mixD_P (h : Hist) : mixD (mixP h) = some h := copyD_P h
theorem mixD_inv {p : PV} {h : Hist} (hd : mixD p = some h) : p = mixP h := by
 unfold mixD at hd
 split at hd
 ·have := copyD_inv hd
  unfold copyP at this
  simp only [PV.agg.injEq, List.cons.injEq, PV.slt.injEq, and_true, true_and] at this
  obtain ⟨rfl, rfl, rfl, h4, rfl⟩ := this
  rw [h4]; rfl
 ·cases hd
def rowsO (l : List Row) : PV := if l = [] then .sl 0 [] true else .sl 50 (l.map rowP) true
theorem rowsO_0 : rowsO [] = .sl 0 [] true := rfl
theorem rowsO_ne {l : List Row} (h : ¬ l = []) : rowsO l = .sl 50 (l.map rowP) true := by rw [rowsO, if_neg h]
theorem rowsO_eq (l : List Row) : ∃ j, rowsO l = .sl j (l.map rowP) true ∧ (j = 50 ∨ (j = 0 ∧ l = [])) := by
 unfold rowsO
 by_cases h : l = []
 ·exact ⟨0, by rw [if_pos h, h]; rfl, .inr ⟨rfl, h⟩⟩
 ·exact ⟨50, by rw [if_neg h], .inl rfl⟩
structure AdS where
 X : List Row
 Y : List Row
 left : Int
 out : List Row
structure adI (a b : Hist) (x : AdS) : Prop where
 l0 : 0 ≤ x.left
 l1 : x.left ≤ 9223372036854775807
 px : posW x.X
 py : posW x.Y
 tx : total x.X ≤ 9223372036854775807
 ty : total x.Y ≤ 9223372036854775807
 len : x.out.length + x.X.length + x.Y.length ≤ a.rows.length + b.rows.length
 eq : (addP 9223372036854775807 x.left x.X x.Y).map (x.out ++ ·) = addP 9223372036854775807 9223372036854775807 a.rows b.rows
theorem ad_start {a b : Hist} (pa : posW a.rows) (pb : posW b.rows) (ta : total a.rows ≤ 9223372036854775807) (tb : total b.rows ≤ 9223372036854775807) : adI a b ⟨a.rows, b.rows, 9223372036854775807, []⟩ := by
 refine ⟨by simp only; omega, by simp only; omega, pa, pb, ta, tb, by simp, ?_⟩
 simp only [List.nil_append]
 cases addP 9223372036854775807 9223372036854775807 a.rows b.rows <;> rfl
theorem add_80 {a b : Hist} (c1 : okH a = true) (c2 : okH b = true) (h : sameTest a b = false ∨ (a.rows ≠ [] ∧ b.rows ≠ [] ∧ a.refs ≠ b.refs)) : (addH a b).2 = 80 := by
 unfold addH
 rw [if_neg (by rw [c1, c2]; simp), if_pos ?_]
 rcases h with h | h
 ·unfold sameTest at h
  simp only [Bool.and_eq_false_iff, decide_eq_false_iff_not] at h
  rcases h with (h | h) | h
  ·exact .inl (.inl h)
  ·exact .inl (.inr (.inl h))
  ·exact .inl (.inr (.inr h))
 ·exact .inr h
theorem add_go {a b : Hist} (c1 : okH a = true) (c2 : okH b = true) (h : sameTest a b = true) (h2 : ¬ (a.rows ≠ [] ∧ b.rows ≠ [] ∧ a.refs ≠ b.refs)) : (addH a b).2 = if 9223372036854775807 < total a.rows + total b.rows then 41 else 0 := by
 unfold addH
 rw [if_neg (by rw [c1, c2]; simp), if_neg ?_]
 ·split <;> rfl
 ·rintro (h' | h')
  ·unfold sameTest at h
   simp only [Bool.and_eq_true, decide_eq_true_eq] at h
   rcases h' with h' | h' | h'
   ·exact h' h.1.1
   ·exact h' h.1.2
   ·exact h' h.2
  ·exact h2 h'
theorem adP_law {a b : Hist} (pa : posW a.rows) (pb : posW b.rows) : addP 9223372036854775807 9223372036854775807 a.rows b.rows = if total a.rows + total b.rows ≤ 9223372036854775807 then some (mrgR a.rows b.rows) else none :=
 addP_eq 9223372036854775807 9223372036854775807 a.rows b.rows (by omega) (by omega) pa pb
theorem ad_no {a b : Hist} {x : AdS} (h : adI a b x) (hn : addP 9223372036854775807 x.left x.X x.Y = none) (pa : posW a.rows) (pb : posW b.rows) : 9223372036854775807 < total a.rows + total b.rows := by
 have e := h.eq
 rw [hn, adP_law pa pb] at e
 split at e
 ·cases e
 ·omega
theorem ad_end {a b : Hist} {left : Int} {out : List Row} (h : adI a b ⟨[], [], left, out⟩) (pa : posW a.rows) (pb : posW b.rows) : ¬ 9223372036854775807 < total a.rows + total b.rows ∧ out = mrgR a.rows b.rows := by
 have e := h.eq
 rw [adP_law pa pb] at e
 simp only at e
 rw [show addP 9223372036854775807 left [] [] = some [] by rw [addP]] at e
 split at e
 ·simp only [Option.map_some, List.append_nil, Option.some.injEq] at e
  exact ⟨by omega, e⟩
 ·cases e
theorem ad_step {a b : Hist} {X Y X' Y' : List Row} {left : Int} {out : List Row} {r : Row} (h : adI a b ⟨X, Y, left, out⟩) (he : addP 9223372036854775807 left X Y = takeR left r fun l => addP 9223372036854775807 l X' Y') (hl : ¬ left < r.c) (hr : 0 ≤ r.c)
  (hX : posW X') (hY : posW Y') (kX : total X' ≤ 9223372036854775807) (kY : total Y' ≤ 9223372036854775807) (hlen : X'.length + Y'.length + 1 ≤ X.length + Y.length) : adI a b ⟨X', Y', left - r.c, out ++ [r]⟩ := by
 have e := h.eq
 have l1 := h.l1
 have ln := h.len
 simp only at e l1 ln
 refine ⟨by simp only; omega, by simp only; omega, hX, hY, kX, kY, by simp only [List.length_append, List.length_cons, List.length_nil]; omega, ?_⟩
 simp only
 rw [he, takeR, if_neg hl, Option.map_map] at e
 rw [← e]
 congr 1
 funext z
 simp
theorem pw_hd {x : Row} {l : List Row} (h : posW (x :: l)) (ht : total (x :: l) ≤ 9223372036854775807) : 1 ≤ x.c ∧ x.c ≤ 9223372036854775807 ∧ posW l ∧ total l ≤ 9223372036854775807 := by
 have h1 := h x (List.mem_cons_self ..)
 have h2 : posW l := fun r hr => h r (List.mem_cons_of_mem _ hr)
 have h3 := total_nn h2
 have h4 : total (x :: l) = x.c + total l := rfl
 exact ⟨h1, by omega, h2, by omega⟩
theorem ad_none {left : Int} {r : Row} {k : Int → Option (List Row)} (h : left < r.c) : takeR left r k = none := by rw [takeR, if_pos h]
theorem tr1 : List.take 1 (List.replicate 50 (PV.val (.int .i64 0))) = [vI 0] := rfl
theorem dr50 : List.drop 50 (List.replicate 50 (PV.val (.int .i64 0))) = [] := rfl
theorem tr48 (f : Fin) : List.take 48 (f.v.map vI ++ []) = f.v.map vI := by rw [List.append_nil]; exact tk48 f
def noHO : PV := .agg [.val (.string { data := #[] }), vI 0, .sl 0 [] false, .sl 0 [] false, .sl 0 [] false]
def pAns (a b : Hist) : PV := .tuple (if (addH a b).2 = 0 then [.agg [vS a.name, vI a.quant, .sl 2 ((if a.rows = [] then b.refs else a.refs).map refP) true, rowsO (mrgR a.rows b.rows), .sl 6 (a.cond.map nodeP) true], vI 0] else [noHO, vI (addH a b).2])
def pAddF : List PV → Option (List Prop × PV)
 | [p, q] => match mixD p, mixD q with
  | some a, some b => some ([szH a, szH b, smallH a, smallH b, (a.rows ++ b.rows).length ≤ 100000], pAns a b)
  | _, _ => none
 | _ => none
theorem pAddF_inv {args : List PV} {x : List Prop × PV} (h : pAddF args = some x) : ∃ a b, args = [mixP a, mixP b] ∧ x = ([szH a, szH b, smallH a, smallH b, (a.rows ++ b.rows).length ≤ 100000], pAns a b) := by
 unfold pAddF at h
 split at h
 ·split at h
  ·rename_i h1 h2
   injection h with h
   exact ⟨_, _, by rw [mixD_inv h1, mixD_inv h2], h.symm⟩
  ·cases h
 ·cases h
theorem alikeE {n m : ByteArray} {q p : Int} {r r' : List Ref} {s s' : List Row} {c c' : List Node} {j1 j2 j3 i1 i2 i3 : Nat} {o1 o2 o3 a1 a2 a3 : Bool} (h1 : j1 = 2 ∨ r = []) (h2 : j2 = 50 ∨ s = []) (h3 : j3 = 6 ∨ c = []) (g1' : i1 = 2 ∨ r' = []) (g2' : i2 = 50 ∨ s' = []) (g3' : i3 = 6 ∨ c' = []) :
  alikeF [.agg [vS n, vI q, .sl j1 (r.map refP) o1, .sl j2 (s.map rowP) o2, .sl j3 (c.map nodeP) o3], .agg [vS m, vI p, .sl i1 (r'.map refP) a1, .sl i2 (s'.map rowP) a2, .sl i3 (c'.map nodeP) a3]] = some ([c.length ≤ 1099511627776], vT (sameTest ⟨n, q, r, s, c⟩ ⟨m, p, r', s', c'⟩)) := by
 simp only [alikeF, on2h, histD_of _ _ _ h1 h2 h3, histD_of _ _ _ g1' g2' g3']
theorem us_l (p : PV) (ps : List PV) : unsltL (p :: ps) = p.unslt :: unsltL ps := rfl
theorem us_n : unsltL [] = [] := rfl
theorem us_a (cs : List PV) : (PV.agg cs).unslt = .agg (unsltL cs) := rfl
theorem us_v (v : Value) : (PV.val v).unslt = .val v := rfl
theorem us_s (k : Nat) (xs : List PV) (o : Bool) : (PV.sl k xs o).unslt = .sl k xs o := rfl
theorem us_2 (xs ys : List PV) : (PV.slt 2 xs ys).unslt = .sl 2 xs false := rfl
theorem us_6 (xs ys : List PV) : (PV.slt 6 xs ys).unslt = .sl 6 xs false := rfl
theorem us_50 (xs ys : List PV) : (PV.slt 50 xs ys).unslt = .sl 50 xs false := rfl
def D6 : FuncId → Option CB
 | 12 => some (.fn fun a => pHCheckF (unsltL a))
 | 13 => some (.fn fun a => alikeF (unsltL a))
 | 14 => some (.fn fun a => eqRF (unsltL a))
 | 15 => some (.fn cloneCF)
 | 16 => some (.fn cloneRF)
 | 17 => some (.fn pCompareF)
 | _ => none
theorem D6_ok : AllB E0 D6 := fun g c h => by
 unfold D6 at h
 split at h <;> simp at h <;> subst h
 ·exact pHCheck_ok.unslt
 ·exact alike_ok.unslt
 ·exact eqR_ok.unslt
 ·exact cloneC_ok
 ·exact cloneR_ok
 ·exact pCompare_ok
def W6 := And.intro @Try.results6 (And.intro @ld27 (And.intro @zp27 (And.intro @ag27 (And.intro @sz27 (And.intro @Try.underlying47 (And.intro @zs27 (And.intro @zd27 (And.intro @bu27 (And.intro @fa27_3 (And.intro @ag23 (And.intro @sz23 (And.intro @zd23 (And.intro @Try.underlying23 (And.intro @fa27_2 (And.intro @ag22 (And.intro @sz22 (And.intro @zd22 (And.intro @fa27_0 (And.intro @ag9 (And.intro @sz9 (And.intro @zd9 (And.intro @fa27_1 (And.intro @ag3 (And.intro @sz3 (And.intro @zd3 (And.intro @fa27_4 (And.intro @ag25 (And.intro @sz25 (And.intro @zd25 (And.intro @sz44 (And.intro @zd44 (And.intro @fa44_1 (And.intro @ag42 (And.intro @sz42 (And.intro @zp44 (And.intro @ag44 (And.intro @fa44_0 (And.intro @ag2 (And.intro @sz2 (And.intro @zd2 (And.intro @zs44 (And.intro @by44 (And.intro @pHCheckE (And.intro @alikeE (And.intro @eqRE (And.intro @cloneCE (And.intro @cloneRE (@pCompareE))))))))))))))))))))))))))))))))))))))))))))))))
theorem pAdd_ok : Sound Try.prog G0 6 (conT (CB.fn pAddF).toCon) := by
 refine fn_frzO (fun _ => [65, 146, 151]) D6_ok mixed true Try.func6 (by decide) rfl (x := 4) (t := 27) (q := 5) rfl _ ?_
 intro args ps r hq hp
 obtain ⟨a, b, rfl, hx⟩ := pAddF_inv hq
 obtain ⟨rfl, rfl⟩ := Prod.mk.inj hx
 have za := hp (szH a) (by simp)
 have zb := hp (szH b) (by simp)
 have ya := hp (smallH a) (by simp)
 have yb := hp (smallH b) (by simp)
 have zl := hp ((a.rows ++ b.rows).length ≤ 100000) (by simp)
 refine ⟨rfl, ?_⟩
 simp only [awpBFnO, mixP, Try.ntmps6, List.length_cons, List.length_nil, Nat.reduceAdd, Nat.reduceSub, List.replicate_succ, List.replicate_zero, List.cons_append, List.nil_append, List.map_cons, List.map_nil]
 have e1 := fun x y z => pHCheckE (n := a.name) (q := a.quant) (o1 := x) (o2 := y) (o3 := z) (.inl rfl : 2 = 2 ∨ a.refs = []) (.inl rfl : 50 = 50 ∨ a.rows = []) (.inl rfl : 6 = 6 ∨ a.cond = [])
 have e2 := fun x y z => pHCheckE (n := b.name) (q := b.quant) (o1 := x) (o2 := y) (o3 := z) (.inl rfl : 2 = 2 ∨ b.refs = []) (.inl rfl : 50 = 50 ∨ b.rows = []) (.inl rfl : 6 = 6 ∨ b.cond = [])
 have hno : ∀ e : Int, e ≠ 0 → (addH a b).2 = e → pAns a b = .tuple [noHO, vI e] := fun e he h => by
  unfold pAns; rw [h, if_neg he]
 have e5 := fun x y => alikeE (n := a.name) (q := a.quant) (m := b.name) (p := b.quant) (o1 := x) (o2 := false) (o3 := false) (a1 := y) (a2 := false) (a3 := false) (.inl rfl : 2 = 2 ∨ a.refs = []) (.inl rfl : 50 = 50 ∨ a.rows = []) (.inl rfl : 6 = 6 ∨ a.cond = []) (.inl rfl : 2 = 2 ∨ b.refs = []) (.inl rfl : 50 = 50 ∨ b.rows = []) (.inl rfl : 6 = 6 ∨ b.cond = [])
 have e6 := fun x y => eqRE (o := x) (o' := y) (.inl rfl : 2 = 2 ∨ a.refs = []) (.inl rfl : 2 = 2 ∨ b.refs = [])
 have zal : (a.rows.length : Int) ≤ 100000 := by rw [List.length_append] at zl; omega
 have zbl : (b.rows.length : Int) ≤ 100000 := by rw [List.length_append] at zl; omega
 have zab : (a.rows.length : Int) + b.rows.length ≤ 100000 := by rw [List.length_append] at zl; omega
 simp -implicitDefEqProofs (maxSteps := 2000000) only [R0, R1, R2, R3, R4, R5, R6, R7, R8, R9, R10, R11, R12, R13, R14, R15, R16, PV.strip, stripL, PV.noref, ri, feedL, feeds, Nat.reduceBEq, Array.toList, ↓reduceIte, forall_const, implies_true, Nat.reduceEqDiff, reduceCtorEq, alP, bxP, bsP, ifP, quiet, riD, bs_l, PV.isRef, plainCell, norefL, PV.scalar, scalarL, PV.cells, PV.solid, PV.one, PV.free, freeL, fillP, splice, Nat.reduceAdd, Nat.reduceMul, Nat.reduceSub, Nat.reduceLeDiff, Nat.reduceLT, Int.reduceToNat, Int.reduceEq, Int.reduceLT, Int.reduceLE, Int.reduceNeg, E0_vc, vaN, PV.avoid, avoidL, Nat.reduceGT, W6, D6, kO_r, kO_p, kO_l, us_l, us_n, us_a, us_v, us_s, us_2, us_6, us_50, rgA, rg2, RB0]
 refine loopB_by (fun x : Nat => [.junk, .junk, .ptr 0 0, .ptr 1 0, .ptr 2 0, .junk, .junk, .junk, .junk, .junk, .junk, .junk, .junk, .junk, .junk, .junk, .junk, .sl 5 [.agg [vS a.name, vI a.quant, .slt 2 (a.refs.map refP) [refP endRef], .sl 50 (a.rows.map rowP) false, .slt 6 (a.cond.map nodeP) [nodeP endNode]], .agg [vS b.name, vI b.quant, .slt 2 (b.refs.map refP) [refP endRef], .sl 50 (b.rows.map rowP) false, .slt 6 (b.cond.map nodeP) [nodeP endNode]]] false, vI 2, vI x, .junk, .junk, .junk, .junk, .junk, .junk, .junk, .junk, .junk, .junk, .junk, .junk, .junk, .junk, .junk, .junk, .junk, .junk, .junk, .junk, .junk, .junk, .junk, .junk, .junk, .junk, .junk, .junk, .junk, .junk, .junk, .junk, .junk, .junk, .junk, .junk, .junk, .junk, .junk, .junk, .junk, .junk, .junk, .junk, .junk, .junk, .junk, .junk, .junk, .junk, .junk, .junk, .junk, .junk, .junk, .junk, .junk, .junk, .junk, .junk, .junk, .junk, .junk, .junk, .junk, .junk, .junk, .junk, .junk, .junk, .junk, .junk, .junk, .junk, .junk, .junk, .junk, .junk, .junk, .junk, .junk, .junk, .junk, .junk, .junk, .junk, .junk, .junk, .junk, .junk, .junk, .junk, .junk, .junk, .junk, .junk, .junk, .junk, .junk, .junk, .junk, .junk, .junk, .junk, .junk, .junk, .junk, .junk, .junk, .junk, .junk, .junk, .junk, .junk, .junk, .junk, .junk, .junk, .junk, .junk, .junk, .junk, .junk, .junk, .junk, .junk, .junk, .junk, .junk, .junk, .junk, .junk]) (fun _ => [.live [vS a.name, vI a.quant, .slt 2 (a.refs.map refP) [refP endRef], .sl 50 (a.rows.map rowP) false, .slt 6 (a.cond.map nodeP) [nodeP endNode]], .live [vS b.name, vI b.quant, .slt 2 (b.refs.map refP) [refP endRef], .sl 50 (b.rows.map rowP) false, .slt 6 (b.cond.map nodeP) [nodeP endNode]], .live [.val (.string { data := #[] }), vI 0, .sl 0 [] true, .sl 0 [] true, .sl 0 [] true]]) (fun x => x ≤ 2 ∧ (0 < x → okH a = true) ∧ (1 < x → okH b = true)) (fun x => 2 - x) 0 ?_ ?_ ?_
 ·simp only [RG0, RG1, Nat.reduceAdd, ltL, PV.lt, Blk.lt, Nat.reduceLT, Nat.reduceLeDiff, Wk_rfl, ltL_vI, wk_sl]
 ·exact ⟨by omega, fun h => by omega, fun h => by omega⟩
 intro x hP
 have hx1 := hP.1; have hx2 := hP.2.1; have hx3 := hP.2.2
 match x with
 | 0 =>
  by_cases c1 : okH a = true
  ·have c1' : checkH a = 0 := checkH_ok c1
   simp -implicitDefEqProofs (maxSteps := 2000000) only [R0, R1, R2, R3, R4, R5, R6, R7, R8, R9, R10, R11, R12, R13, R14, R15, R16, PV.strip, stripL, PV.noref, ri, feedL, feeds, Nat.reduceBEq, Array.toList, ↓reduceIte, forall_const, implies_true, Nat.reduceEqDiff, reduceCtorEq, alP, bxP, bsP, ifP, quiet, riD, bs_l, PV.isRef, plainCell, norefL, PV.scalar, scalarL, PV.cells, PV.solid, PV.one, PV.free, freeL, fillP, splice, Nat.reduceAdd, Nat.reduceMul, Nat.reduceSub, Nat.reduceLeDiff, Nat.reduceLT, Int.reduceToNat, Int.reduceEq, Int.reduceLT, Int.reduceLE, Int.reduceNeg, E0_vc, vaN, PV.avoid, avoidL, Nat.reduceGT, W6, D6, kO_r, kO_p, kO_l, us_l, us_n, us_a, us_v, us_s, us_2, us_6, us_50, rgA, rg2, e1, c1', List.map_cons, List.map_nil, RB0]
   refine ⟨za, by unfold inI64; omega, 1, ⟨by omega, fun _ => c1, fun h => by omega⟩, by omega, ?_⟩
   simp only [RG0, RG1, Nat.reduceAdd, ltL, PV.lt, Blk.lt, Nat.reduceLT, Nat.reduceLeDiff, Wk_rfl, ltL_vI, wk_sl] <;> omega
  ·have c1' : checkH a = 300 := checkH_no (by simpa using c1)
   have hans := hno 300 (by decide) (by unfold addH; rw [if_pos (.inl (by simpa using c1))])
   simp -implicitDefEqProofs (maxSteps := 2000000) only [R0, R1, R2, R3, R4, R5, R6, R7, R8, R9, R10, R11, R12, R13, R14, R15, R16, PV.strip, stripL, PV.noref, ri, feedL, feeds, Nat.reduceBEq, Array.toList, ↓reduceIte, forall_const, implies_true, Nat.reduceEqDiff, reduceCtorEq, alP, bxP, bsP, ifP, quiet, riD, bs_l, PV.isRef, plainCell, norefL, PV.scalar, scalarL, PV.cells, PV.solid, PV.one, PV.free, freeL, fillP, splice, Nat.reduceAdd, Nat.reduceMul, Nat.reduceSub, Nat.reduceLeDiff, Nat.reduceLT, Int.reduceToNat, Int.reduceEq, Int.reduceLT, Int.reduceLE, Int.reduceNeg, E0_vc, vaN, PV.avoid, avoidL, Nat.reduceGT, W6, D6, kO_r, kO_p, kO_l, us_l, us_n, us_a, us_v, us_s, us_2, us_6, us_50, rgA, rg2, e1, c1', hans, RB0]
   exact ⟨za, frz_nr 3 rfl, rfl⟩
 | 1 =>
  by_cases c2 : okH b = true
  ·have c2' : checkH b = 0 := checkH_ok c2
   simp -implicitDefEqProofs (maxSteps := 2000000) only [R0, R1, R2, R3, R4, R5, R6, R7, R8, R9, R10, R11, R12, R13, R14, R15, R16, PV.strip, stripL, PV.noref, ri, feedL, feeds, Nat.reduceBEq, Array.toList, ↓reduceIte, forall_const, implies_true, Nat.reduceEqDiff, reduceCtorEq, alP, bxP, bsP, ifP, quiet, riD, bs_l, PV.isRef, plainCell, norefL, PV.scalar, scalarL, PV.cells, PV.solid, PV.one, PV.free, freeL, fillP, splice, Nat.reduceAdd, Nat.reduceMul, Nat.reduceSub, Nat.reduceLeDiff, Nat.reduceLT, Int.reduceToNat, Int.reduceEq, Int.reduceLT, Int.reduceLE, Int.reduceNeg, E0_vc, vaN, PV.avoid, avoidL, Nat.reduceGT, W6, D6, kO_r, kO_p, kO_l, us_l, us_n, us_a, us_v, us_s, us_2, us_6, us_50, rgA, rg2, e2, c2', RB0]
   refine ⟨zb, by unfold inI64; omega, 2, ⟨by omega, fun _ => hx2 (by omega), fun _ => c2⟩, by omega, ?_⟩
   simp only [RG0, RG1, Nat.reduceAdd, ltL, PV.lt, Blk.lt, Nat.reduceLT, Nat.reduceLeDiff, Wk_rfl, ltL_vI, wk_sl] <;> omega
  ·have c2' : checkH b = 300 := checkH_no (by simpa using c2)
   have hans := hno 300 (by decide) (by unfold addH; rw [if_pos (.inr (by simpa using c2))])
   simp -implicitDefEqProofs (maxSteps := 2000000) only [R0, R1, R2, R3, R4, R5, R6, R7, R8, R9, R10, R11, R12, R13, R14, R15, R16, PV.strip, stripL, PV.noref, ri, feedL, feeds, Nat.reduceBEq, Array.toList, ↓reduceIte, forall_const, implies_true, Nat.reduceEqDiff, reduceCtorEq, alP, bxP, bsP, ifP, quiet, riD, bs_l, PV.isRef, plainCell, norefL, PV.scalar, scalarL, PV.cells, PV.solid, PV.one, PV.free, freeL, fillP, splice, Nat.reduceAdd, Nat.reduceMul, Nat.reduceSub, Nat.reduceLeDiff, Nat.reduceLT, Int.reduceToNat, Int.reduceEq, Int.reduceLT, Int.reduceLE, Int.reduceNeg, E0_vc, vaN, PV.avoid, avoidL, Nat.reduceGT, W6, D6, kO_r, kO_p, kO_l, us_l, us_n, us_a, us_v, us_s, us_2, us_6, us_50, rgA, rg2, e2, c2', hans, RB0]
   exact ⟨zb, frz_nr 3 rfl, rfl⟩
 | 2 =>
  have c1 := hx2 (by omega)
  have c2 := hx3 (by omega)
  obtain ⟨pa, ta⟩ := posW_of (okH_rows c1) (by omega)
  obtain ⟨pb, tb⟩ := posW_of (okH_rows c2) (by omega)
  by_cases ha0 : a.rows = []
  ·have hal : ((a.rows.length : Nat) : Int) = 0 := by rw [ha0]; rfl
   simp -implicitDefEqProofs (maxSteps := 2000000) only [R0, R1, R2, R3, R4, R5, R6, R7, R8, R9, R10, R11, R12, R13, R14, R15, R16, PV.strip, stripL, PV.noref, ri, feedL, feeds, Nat.reduceBEq, Array.toList, ↓reduceIte, forall_const, implies_true, Nat.reduceEqDiff, reduceCtorEq, alP, bxP, bsP, ifP, quiet, riD, bs_l, PV.isRef, plainCell, norefL, PV.scalar, scalarL, PV.cells, PV.solid, PV.one, PV.free, freeL, fillP, splice, Nat.reduceAdd, Nat.reduceMul, Nat.reduceSub, Nat.reduceLeDiff, Nat.reduceLT, Int.reduceToNat, Int.reduceEq, Int.reduceLT, Int.reduceLE, Int.reduceNeg, E0_vc, vaN, PV.avoid, avoidL, Nat.reduceGT, W6, D6, kO_r, kO_p, kO_l, us_l, us_n, us_a, us_v, us_s, us_2, us_6, us_50, rgA, rg2, e5, e6, hal, List.filterMap_cons, List.filterMap_nil, List.length_map, RB0]
   refine ⟨za.2.2.2.1, fun hb => ?_, fun hb => ⟨.inl (by decide), ya.2.2, ya.1, by decide, yb.1, .inl (by decide), ?_⟩⟩
   ·have hans := hno 80 (by decide) (add_80 c1 c2 (.inl hb))
    rw [hans]; exact ⟨frz_nr 3 rfl, rfl⟩
   have hgo := add_go c1 c2 hb (fun h => h.1 ha0)
   have h41 := fun h => hno 41 (by decide) (by rw [hgo, if_pos h])
   refine loopB_by (fun x : AdS => [.junk, .junk, .junk, .junk, .ptr 2 0, .junk, .junk, .junk, .junk, .ptr 3 0, vI x.left, .sl 50 (x.X.map rowP) false, .sl 50 (x.Y.map rowP) false, .junk, .junk, .junk, .junk, .junk, .junk, .junk, .junk, .junk, .junk, .junk, .junk, .junk, .junk, .junk, .junk, .junk, .junk, .junk, .junk, .junk, .junk, .junk, .junk, .junk, .junk, .junk, .junk, .junk, .junk, .junk, .junk, .junk, .junk, .junk, .junk, .junk, .junk, .junk, .junk, .junk, .junk, .junk, .junk, .junk, .junk, .junk, .junk, .junk, .junk, .junk, .junk, .junk, .junk, .junk, .junk, .junk, .junk, .junk, .junk, .junk, .junk, .junk, .junk, .junk, .junk, .junk, .junk, .junk, .junk, .junk, .junk, .junk, .junk, .junk, .junk, .junk, .junk, .junk, .junk, .junk, .junk, .junk, .junk, .junk, .junk, .junk, .junk, .junk, .junk, .junk, .junk, .junk, .junk, .junk, .junk, .junk, .junk, .junk, .junk, .junk, .junk, .junk, .junk, .junk, .junk, .junk, .junk, .junk, .junk, .junk, .junk, .junk, .junk, .junk, .junk, .junk, .junk, .junk, .junk, .junk, .junk, .junk, .junk, .junk, .junk, .junk, .junk, .junk, .junk, .junk, .junk, .junk, .junk, .junk, .junk, .junk, .junk, .junk]) (fun x => [.live [vS a.name, vI a.quant, .slt 2 (a.refs.map refP) [refP endRef], .sl 50 (a.rows.map rowP) false, .slt 6 (a.cond.map nodeP) [nodeP endNode]], .live [vS b.name, vI b.quant, .slt 2 (b.refs.map refP) [refP endRef], .sl 50 (b.rows.map rowP) false, .slt 6 (b.cond.map nodeP) [nodeP endNode]], .live [.val (.string { data := #[] }), vI 0, .sl 0 [] true, .sl 0 [] true, .sl 0 [] true], .live [vS a.name, vI a.quant, .sl 2 (b.refs.map refP) true, rowsO x.out, .sl 6 (a.cond.map nodeP) true]]) (fun x => adI a b x) (fun x => x.X.length + x.Y.length) ⟨a.rows, b.rows, 9223372036854775807, []⟩ ?_ ?_ ?_
   ·simp only [RG0, RG1, Nat.reduceAdd, ltL, PV.lt, Blk.lt, Nat.reduceLT, Nat.reduceLeDiff, Wk_rfl, ltL_vI, wk_sl, rowsO_0]
   ·exact ad_start pa pb (by omega) (by omega)
   intro x hP
   obtain ⟨X, Y, left, out⟩ := x
   have iA := hP
   have dr48 : ∀ f : Fin, List.drop 48 (f.v.map vI) = [] := fun f => List.drop_of_length_le (by rw [List.length_map, f.hl]; exact Nat.le_refl _)
   have iL0 := iA.l0
   have iL1 := iA.l1
   have iN := iA.len
   simp only at iL0 iL1 iN
   obtain ⟨jo, hO, hjo⟩ := rowsO_eq out
   cases X with
   | nil =>
    cases Y with
    | nil =>
     obtain ⟨g1', g2'⟩ := ad_end iA pa pb
     rw [if_neg g1'] at hgo
     have hans : pAns a b = .tuple [.agg [vS a.name, vI a.quant, .sl 2 (b.refs.map refP) true, .sl jo (out.map rowP) true, .sl 6 (a.cond.map nodeP) true], vI 0] := by
      unfold pAns; rw [if_pos hgo, if_pos ha0, ← g2', hO]
     simp -implicitDefEqProofs (maxSteps := 2000000) only [R0, R1, R2, R3, R4, R5, R6, R7, R8, R9, R10, R11, R12, R13, R14, R15, R16, PV.strip, stripL, PV.noref, ri, feedL, feeds, Nat.reduceBEq, Array.toList, ↓reduceIte, forall_const, implies_true, Nat.reduceEqDiff, reduceCtorEq, alP, bxP, bsP, ifP, quiet, riD, bs_l, PV.isRef, plainCell, norefL, PV.scalar, scalarL, PV.cells, PV.solid, PV.one, PV.free, freeL, fillP, splice, Nat.reduceAdd, Nat.reduceMul, Nat.reduceSub, Nat.reduceLeDiff, Nat.reduceLT, Int.reduceToNat, Int.reduceEq, Int.reduceLT, Int.reduceLE, Int.reduceNeg, E0_vc, vaN, PV.avoid, avoidL, Nat.reduceGT, W6, D6, kO_r, kO_p, kO_l, us_l, us_n, us_a, us_v, us_s, us_2, us_6, us_50, rgA, rg2, gd_row, rowP, PV.cells, tk48, tk48a, len48, hl48, strip_vI, zr50, free_vI, tr1, dr50, tr48, dr48, Int.toNat_natCast, List.length_map, List.append_nil, Int.zero_add, Int.sub_zero, hO, hans, RB0]
     exact frz_nr 3 (by simp [PV.noref, norefL])
    | cons y Y =>
     obtain ⟨y1, y2, y3, y4⟩ := pw_hd iA.py iA.ty
     simp only [List.length_cons, List.length_nil] at iN
     have hY1 := eq_true (show (0 : Int) < ((Y.length + 1 : Nat) : Int) by omega)
     have hYt : List.take Y.length (Y.map rowP) = Y.map rowP := List.take_of_length_le (by rw [List.length_map]; exact Nat.le_refl _)
     have hap : addP 9223372036854775807 left [] (y :: Y) = takeR left y fun l => addP 9223372036854775807 l [] Y := by
      rw [addP, if_neg (by omega)]; simp only [Int.zero_add]
     simp -implicitDefEqProofs (maxSteps := 2000000) only [R0, R1, R2, R3, R4, R5, R6, R7, R8, R9, R10, R11, R12, R13, R14, R15, R16, PV.strip, stripL, PV.noref, ri, feedL, feeds, Nat.reduceBEq, Array.toList, ↓reduceIte, forall_const, implies_true, Nat.reduceEqDiff, reduceCtorEq, alP, bxP, bsP, ifP, quiet, riD, bs_l, PV.isRef, plainCell, norefL, PV.scalar, scalarL, PV.cells, PV.solid, PV.one, PV.free, freeL, fillP, splice, Nat.reduceAdd, Nat.reduceMul, Nat.reduceSub, Nat.reduceLeDiff, Nat.reduceLT, Int.reduceToNat, Int.reduceEq, Int.reduceLT, Int.reduceLE, Int.reduceNeg, E0_vc, vaN, PV.avoid, avoidL, Nat.reduceGT, W6, D6, kO_r, kO_p, kO_l, us_l, us_n, us_a, us_v, us_s, us_2, us_6, us_50, rgA, rg2, gd_row, rowP, PV.cells, tk48, tk48a, len48, hl48, strip_vI, zr50, free_vI, tr1, dr50, tr48, dr48, Int.toNat_natCast, List.length_map, List.append_nil, Int.zero_add, Int.sub_zero, hO, hY1, hYt, RB0]
     refine ⟨.inl (by decide), by unfold inI64; omega, fun h => absurd h (by omega), fun _ => ⟨.inl (by decide), by unfold inI64; omega, by omega, fun h => (by rw [h41 (ad_no iA (hap.trans (ad_none h)) pa pb)]; exact ⟨frz_nr 3 rfl, rfl⟩), fun h => ⟨by unfold inI64; omega, hjo.imp id (fun h => h.1), rm24 (by omega) (by omega), ⟨[], Y, left - y.c, out ++ [y]⟩, ad_step iA hap h (by first | omega | (simp only; omega)) iA.px y3 iA.tx y4 (by simp only [List.length_cons, List.length_nil] <;> omega), by simp only [List.length_cons, List.length_nil] <;> omega, ?_⟩⟩⟩
     simp only [RG0, RG1, Nat.reduceAdd, ltL, PV.lt, Blk.lt, Nat.reduceLT, Nat.reduceLeDiff, Wk_rfl, ltL_vI, wk_sl, rowsO_ne (List.append_ne_nil_of_right_ne_nil out (List.cons_ne_nil _ _)), List.map_append, List.map_cons, List.map_nil, rowP]
   | cons x X =>
    obtain ⟨x1, x2, x3, x4⟩ := pw_hd iA.px iA.tx
    simp only [List.length_cons] at iN
    have hX1 := eq_true (show (0 : Int) < ((X.length + 1 : Nat) : Int) by omega)
    have hX2 := eq_false (show ¬ ((X.length + 1 : Nat) : Int) = 0 by omega)
    have hXt : List.take X.length (X.map rowP) = X.map rowP := List.take_of_length_le (by rw [List.length_map]; exact Nat.le_refl _)
    cases Y with
    | nil =>
     have hap : addP 9223372036854775807 left (x :: X) [] = takeR left x fun l => addP 9223372036854775807 l X [] := by rw [addP]
     simp -implicitDefEqProofs (maxSteps := 2000000) only [R0, R1, R2, R3, R4, R5, R6, R7, R8, R9, R10, R11, R12, R13, R14, R15, R16, PV.strip, stripL, PV.noref, ri, feedL, feeds, Nat.reduceBEq, Array.toList, ↓reduceIte, forall_const, implies_true, Nat.reduceEqDiff, reduceCtorEq, alP, bxP, bsP, ifP, quiet, riD, bs_l, PV.isRef, plainCell, norefL, PV.scalar, scalarL, PV.cells, PV.solid, PV.one, PV.free, freeL, fillP, splice, Nat.reduceAdd, Nat.reduceMul, Nat.reduceSub, Nat.reduceLeDiff, Nat.reduceLT, Int.reduceToNat, Int.reduceEq, Int.reduceLT, Int.reduceLE, Int.reduceNeg, E0_vc, vaN, PV.avoid, avoidL, Nat.reduceGT, W6, D6, kO_r, kO_p, kO_l, us_l, us_n, us_a, us_v, us_s, us_2, us_6, us_50, rgA, rg2, gd_row, rowP, PV.cells, tk48, tk48a, len48, hl48, strip_vI, zr50, free_vI, tr1, dr50, tr48, dr48, Int.toNat_natCast, List.length_map, List.append_nil, Int.zero_add, Int.sub_zero, hO, hX1, hX2, hXt, RB0]
     refine ⟨.inl (by decide), by omega, fun h => (by rw [h41 (ad_no iA (hap.trans (ad_none h)) pa pb)]; exact ⟨frz_nr 3 rfl, rfl⟩), fun h => ⟨by unfold inI64; omega, hjo.imp id (fun h => h.1), rm24 (by omega) (by omega), ⟨X, [], left - x.c, out ++ [x]⟩, ad_step iA hap h (by first | omega | (simp only; omega)) x3 iA.py x4 iA.ty (by simp only [List.length_cons, List.length_nil] <;> omega), by simp only [List.length_cons, List.length_nil] <;> omega, ?_⟩⟩
     simp only [RG0, RG1, Nat.reduceAdd, ltL, PV.lt, Blk.lt, Nat.reduceLT, Nat.reduceLeDiff, Wk_rfl, ltL_vI, wk_sl, rowsO_ne (List.append_ne_nil_of_right_ne_nil out (List.cons_ne_nil _ _)), List.map_append, List.map_cons, List.map_nil, rowP]
    | cons y Y =>
     obtain ⟨y1, y2, y3, y4⟩ := pw_hd iA.py iA.ty
     simp only [List.length_cons] at iN
     have hY1 := eq_true (show (0 : Int) < ((Y.length + 1 : Nat) : Int) by omega)
     have hYt : List.take Y.length (Y.map rowP) = Y.map rowP := List.take_of_length_le (by rw [List.length_map]; exact Nat.le_refl _)
     by_cases k1 : cmpFin x.f y.f < 0
     ·have kA := eq_true (show cmpFin x.f y.f ≤ 0 by omega)
      have kB := eq_false (show ¬ 0 ≤ cmpFin x.f y.f by omega)
      have hap : addP 9223372036854775807 left (x :: X) (y :: Y) = takeR left x fun l => addP 9223372036854775807 l X (y :: Y) := by rw [addP, if_pos k1]
      simp -implicitDefEqProofs (maxSteps := 2000000) only [R0, R1, R2, R3, R4, R5, R6, R7, R8, R9, R10, R11, R12, R13, R14, R15, R16, PV.strip, stripL, PV.noref, ri, feedL, feeds, Nat.reduceBEq, Array.toList, ↓reduceIte, forall_const, implies_true, Nat.reduceEqDiff, reduceCtorEq, alP, bxP, bsP, ifP, quiet, riD, bs_l, PV.isRef, plainCell, norefL, PV.scalar, scalarL, PV.cells, PV.solid, PV.one, PV.free, freeL, fillP, splice, Nat.reduceAdd, Nat.reduceMul, Nat.reduceSub, Nat.reduceLeDiff, Nat.reduceLT, Int.reduceToNat, Int.reduceEq, Int.reduceLT, Int.reduceLE, Int.reduceNeg, E0_vc, vaN, PV.avoid, avoidL, Nat.reduceGT, W6, D6, kO_r, kO_p, kO_l, us_l, us_n, us_a, us_v, us_s, us_2, us_6, us_50, rgA, rg2, gd_row, rowP, PV.cells, tk48, tk48a, len48, hl48, strip_vI, zr50, free_vI, tr1, dr50, tr48, dr48, Int.toNat_natCast, List.length_map, List.append_nil, Int.zero_add, Int.sub_zero, hO, hX1, hX2, hXt, hY1, hYt, pCompareE, kA, kB, RB0]
      refine ⟨.inl (by decide), .inl (by decide), by omega, fun h => (by rw [h41 (ad_no iA (hap.trans (ad_none h)) pa pb)]; exact ⟨frz_nr 3 rfl, rfl⟩), fun h => ⟨by unfold inI64; omega, hjo.imp id (fun h => h.1), rm24 (by omega) (by omega), ⟨X, y :: Y, left - x.c, out ++ [x]⟩, ad_step iA hap h (by first | omega | (simp only; omega)) x3 iA.py x4 iA.ty (by simp only [List.length_cons, List.length_nil] <;> omega), by simp only [List.length_cons, List.length_nil] <;> omega, ?_⟩⟩
      simp only [RG0, RG1, Nat.reduceAdd, ltL, PV.lt, Blk.lt, Nat.reduceLT, Nat.reduceLeDiff, Wk_rfl, ltL_vI, wk_sl, rowsO_ne (List.append_ne_nil_of_right_ne_nil out (List.cons_ne_nil _ _)), List.map_append, List.map_cons, List.map_nil, rowP]
     ·by_cases k2 : cmpFin x.f y.f = 0
      ·have hap0 : addP 9223372036854775807 left (x :: X) (y :: Y) = if 9223372036854775807 - x.c < y.c then none else takeR left ⟨x.c + y.c, y.f⟩ fun l => addP 9223372036854775807 l X Y := by rw [addP, if_neg k1, if_pos k2]
       simp -implicitDefEqProofs (maxSteps := 2000000) only [R0, R1, R2, R3, R4, R5, R6, R7, R8, R9, R10, R11, R12, R13, R14, R15, R16, PV.strip, stripL, PV.noref, ri, feedL, feeds, Nat.reduceBEq, Array.toList, ↓reduceIte, forall_const, implies_true, Nat.reduceEqDiff, reduceCtorEq, alP, bxP, bsP, ifP, quiet, riD, bs_l, PV.isRef, plainCell, norefL, PV.scalar, scalarL, PV.cells, PV.solid, PV.one, PV.free, freeL, fillP, splice, Nat.reduceAdd, Nat.reduceMul, Nat.reduceSub, Nat.reduceLeDiff, Nat.reduceLT, Int.reduceToNat, Int.reduceEq, Int.reduceLT, Int.reduceLE, Int.reduceNeg, E0_vc, vaN, PV.avoid, avoidL, Nat.reduceGT, W6, D6, kO_r, kO_p, kO_l, us_l, us_n, us_a, us_v, us_s, us_2, us_6, us_50, rgA, rg2, gd_row, rowP, PV.cells, tk48, tk48a, len48, hl48, strip_vI, zr50, free_vI, tr1, dr50, tr48, dr48, Int.toNat_natCast, List.length_map, List.append_nil, Int.zero_add, Int.sub_zero, hO, hX1, hX2, hXt, hY1, hYt, pCompareE, k2, RB0]
       refine ⟨.inl (by decide), .inl (by decide), by omega, .inl (by decide), by unfold inI64; omega, fun h => (by rw [h41 (ad_no iA (hap0.trans (if_pos h)) pa pb)]; exact ⟨frz_nr 3 rfl, rfl⟩), fun hq => ?_⟩
       have hap := hap0.trans (if_neg hq)
       refine ⟨.inl (by decide), by unfold inI64; omega, by omega, fun h => (by rw [h41 (ad_no iA (hap.trans (ad_none h)) pa pb)]; exact ⟨frz_nr 3 rfl, rfl⟩), fun h => ⟨by unfold inI64; omega, hjo.imp id (fun h => h.1), rm24 (by omega) (by omega), ⟨X, Y, left - (Row.mk (x.c + y.c) y.f).c, out ++ [(Row.mk (x.c + y.c) y.f)]⟩, ad_step iA hap h (by first | omega | (simp only; omega)) x3 y3 x4 y4 (by simp only [List.length_cons, List.length_nil] <;> omega), by simp only [List.length_cons, List.length_nil] <;> omega, ?_⟩⟩
       simp only [RG0, RG1, Nat.reduceAdd, ltL, PV.lt, Blk.lt, Nat.reduceLT, Nat.reduceLeDiff, Wk_rfl, ltL_vI, wk_sl, rowsO_ne (List.append_ne_nil_of_right_ne_nil out (List.cons_ne_nil _ _)), List.map_append, List.map_cons, List.map_nil, rowP]
      ·have kA := eq_false (show ¬ cmpFin x.f y.f ≤ 0 by omega)
       have kB := eq_true (show 0 ≤ cmpFin x.f y.f by omega)
       have hap : addP 9223372036854775807 left (x :: X) (y :: Y) = takeR left y fun l => addP 9223372036854775807 l (x :: X) Y := by
        rw [addP, if_neg k1, if_neg k2, if_neg (by omega)]; simp only [Int.zero_add]
       simp -implicitDefEqProofs (maxSteps := 2000000) only [R0, R1, R2, R3, R4, R5, R6, R7, R8, R9, R10, R11, R12, R13, R14, R15, R16, PV.strip, stripL, PV.noref, ri, feedL, feeds, Nat.reduceBEq, Array.toList, ↓reduceIte, forall_const, implies_true, Nat.reduceEqDiff, reduceCtorEq, alP, bxP, bsP, ifP, quiet, riD, bs_l, PV.isRef, plainCell, norefL, PV.scalar, scalarL, PV.cells, PV.solid, PV.one, PV.free, freeL, fillP, splice, Nat.reduceAdd, Nat.reduceMul, Nat.reduceSub, Nat.reduceLeDiff, Nat.reduceLT, Int.reduceToNat, Int.reduceEq, Int.reduceLT, Int.reduceLE, Int.reduceNeg, E0_vc, vaN, PV.avoid, avoidL, Nat.reduceGT, W6, D6, kO_r, kO_p, kO_l, us_l, us_n, us_a, us_v, us_s, us_2, us_6, us_50, rgA, rg2, gd_row, rowP, PV.cells, tk48, tk48a, len48, hl48, strip_vI, zr50, free_vI, tr1, dr50, tr48, dr48, Int.toNat_natCast, List.length_map, List.append_nil, Int.zero_add, Int.sub_zero, hO, hX1, hX2, hXt, hY1, hYt, pCompareE, kA, kB, RB0]
       refine ⟨.inl (by decide), .inl (by decide), by unfold inI64; omega, fun h => absurd h (by omega), fun _ => ⟨.inl (by decide), by unfold inI64; omega, by omega, fun h => (by rw [h41 (ad_no iA (hap.trans (ad_none h)) pa pb)]; exact ⟨frz_nr 3 rfl, rfl⟩), fun h => ⟨by unfold inI64; omega, hjo.imp id (fun h => h.1), rm24 (by omega) (by omega), ⟨x :: X, Y, left - y.c, out ++ [y]⟩, ad_step iA hap h (by first | omega | (simp only; omega)) iA.px y3 iA.tx y4 (by simp only [List.length_cons, List.length_nil] <;> omega), by simp only [List.length_cons, List.length_nil] <;> omega, ?_⟩⟩⟩
       simp only [RG0, RG1, Nat.reduceAdd, ltL, PV.lt, Blk.lt, Nat.reduceLT, Nat.reduceLeDiff, Wk_rfl, ltL_vI, wk_sl, rowsO_ne (List.append_ne_nil_of_right_ne_nil out (List.cons_ne_nil _ _)), List.map_append, List.map_cons, List.map_nil, rowP]
  ·have hal : ¬ ((a.rows.length : Nat) : Int) = 0 := by
    have := List.length_pos_iff.2 ha0
    omega
   have hal2 : 0 < ((a.rows.length : Nat) : Int) := by omega
   simp -implicitDefEqProofs (maxSteps := 2000000) only [R0, R1, R2, R3, R4, R5, R6, R7, R8, R9, R10, R11, R12, R13, R14, R15, R16, PV.strip, stripL, PV.noref, ri, feedL, feeds, Nat.reduceBEq, Array.toList, ↓reduceIte, forall_const, implies_true, Nat.reduceEqDiff, reduceCtorEq, alP, bxP, bsP, ifP, quiet, riD, bs_l, PV.isRef, plainCell, norefL, PV.scalar, scalarL, PV.cells, PV.solid, PV.one, PV.free, freeL, fillP, splice, Nat.reduceAdd, Nat.reduceMul, Nat.reduceSub, Nat.reduceLeDiff, Nat.reduceLT, Int.reduceToNat, Int.reduceEq, Int.reduceLT, Int.reduceLE, Int.reduceNeg, E0_vc, vaN, PV.avoid, avoidL, Nat.reduceGT, W6, D6, kO_r, kO_p, kO_l, us_l, us_n, us_a, us_v, us_s, us_2, us_6, us_50, rgA, rg2, e5, e6, hal, List.filterMap_cons, List.filterMap_nil, hal2, List.length_map, RB0]
   refine ⟨za.2.2.2.1, fun _ => za.2.1.1, fun u v => ⟨u, v⟩, fun hb => ?_, fun hb => ⟨.inl (by decide), ya.2.2, ya.1, by decide, .inl (by decide), ?_⟩⟩
   ·have hans := hno 80 (by decide) (add_80 c1 c2 (hb.imp id fun h => ⟨ha0, fun e => by rw [e] at h; simp at h, h.2⟩))
    rw [hans]; exact ⟨frz_nr 3 rfl, rfl⟩
   simp only [Bool.or_eq_false_iff, Bool.and_eq_false_iff, decide_eq_false_iff_not, Bool.not_eq_eq_eq_not, Bool.not_false, decide_eq_true_eq] at hb
   have hgo := add_go c1 c2 hb.1 (fun h => by
    have l2 := List.length_pos_iff.2 h.2.1
    rcases hb.2 with h' | h'
    ·omega
    ·exact h.2.2 h')
   have h41 := fun h => hno 41 (by decide) (by rw [hgo, if_pos h])
   refine loopB_by (fun x : AdS => [.junk, .junk, .junk, .junk, .ptr 2 0, .junk, .junk, .junk, .junk, .ptr 3 0, vI x.left, .sl 50 (x.X.map rowP) false, .sl 50 (x.Y.map rowP) false, .junk, .junk, .junk, .junk, .junk, .junk, .junk, .junk, .junk, .junk, .junk, .junk, .junk, .junk, .junk, .junk, .junk, .junk, .junk, .junk, .junk, .junk, .junk, .junk, .junk, .junk, .junk, .junk, .junk, .junk, .junk, .junk, .junk, .junk, .junk, .junk, .junk, .junk, .junk, .junk, .junk, .junk, .junk, .junk, .junk, .junk, .junk, .junk, .junk, .junk, .junk, .junk, .junk, .junk, .junk, .junk, .junk, .junk, .junk, .junk, .junk, .junk, .junk, .junk, .junk, .junk, .junk, .junk, .junk, .junk, .junk, .junk, .junk, .junk, .junk, .junk, .junk, .junk, .junk, .junk, .junk, .junk, .junk, .junk, .junk, .junk, .junk, .junk, .junk, .junk, .junk, .junk, .junk, .junk, .junk, .junk, .junk, .junk, .junk, .junk, .junk, .junk, .junk, .junk, .junk, .junk, .junk, .junk, .junk, .junk, .junk, .junk, .junk, .junk, .junk, .junk, .junk, .junk, .junk, .junk, .junk, .junk, .junk, .junk, .junk, .junk, .junk, .junk, .junk, .junk, .junk, .junk, .junk, .junk, .junk, .junk, .junk, .junk, .junk]) (fun x => [.live [vS a.name, vI a.quant, .slt 2 (a.refs.map refP) [refP endRef], .sl 50 (a.rows.map rowP) false, .slt 6 (a.cond.map nodeP) [nodeP endNode]], .live [vS b.name, vI b.quant, .slt 2 (b.refs.map refP) [refP endRef], .sl 50 (b.rows.map rowP) false, .slt 6 (b.cond.map nodeP) [nodeP endNode]], .live [.val (.string { data := #[] }), vI 0, .sl 0 [] true, .sl 0 [] true, .sl 0 [] true], .live [vS a.name, vI a.quant, .sl 2 (a.refs.map refP) true, rowsO x.out, .sl 6 (a.cond.map nodeP) true]]) (fun x => adI a b x) (fun x => x.X.length + x.Y.length) ⟨a.rows, b.rows, 9223372036854775807, []⟩ ?_ ?_ ?_
   ·simp only [RG0, RG1, Nat.reduceAdd, ltL, PV.lt, Blk.lt, Nat.reduceLT, Nat.reduceLeDiff, Wk_rfl, ltL_vI, wk_sl, rowsO_0]
   ·exact ad_start pa pb (by omega) (by omega)
   intro x hP
   obtain ⟨X, Y, left, out⟩ := x
   have iA := hP
   have dr48 : ∀ f : Fin, List.drop 48 (f.v.map vI) = [] := fun f => List.drop_of_length_le (by rw [List.length_map, f.hl]; exact Nat.le_refl _)
   have iL0 := iA.l0
   have iL1 := iA.l1
   have iN := iA.len
   simp only at iL0 iL1 iN
   obtain ⟨jo, hO, hjo⟩ := rowsO_eq out
   cases X with
   | nil =>
    cases Y with
    | nil =>
     obtain ⟨g1', g2'⟩ := ad_end iA pa pb
     rw [if_neg g1'] at hgo
     have hans : pAns a b = .tuple [.agg [vS a.name, vI a.quant, .sl 2 (a.refs.map refP) true, .sl jo (out.map rowP) true, .sl 6 (a.cond.map nodeP) true], vI 0] := by
      unfold pAns; rw [if_pos hgo, if_neg ha0, ← g2', hO]
     simp -implicitDefEqProofs (maxSteps := 2000000) only [R0, R1, R2, R3, R4, R5, R6, R7, R8, R9, R10, R11, R12, R13, R14, R15, R16, PV.strip, stripL, PV.noref, ri, feedL, feeds, Nat.reduceBEq, Array.toList, ↓reduceIte, forall_const, implies_true, Nat.reduceEqDiff, reduceCtorEq, alP, bxP, bsP, ifP, quiet, riD, bs_l, PV.isRef, plainCell, norefL, PV.scalar, scalarL, PV.cells, PV.solid, PV.one, PV.free, freeL, fillP, splice, Nat.reduceAdd, Nat.reduceMul, Nat.reduceSub, Nat.reduceLeDiff, Nat.reduceLT, Int.reduceToNat, Int.reduceEq, Int.reduceLT, Int.reduceLE, Int.reduceNeg, E0_vc, vaN, PV.avoid, avoidL, Nat.reduceGT, W6, D6, kO_r, kO_p, kO_l, us_l, us_n, us_a, us_v, us_s, us_2, us_6, us_50, rgA, rg2, gd_row, rowP, PV.cells, tk48, tk48a, len48, hl48, strip_vI, zr50, free_vI, tr1, dr50, tr48, dr48, Int.toNat_natCast, List.length_map, List.append_nil, Int.zero_add, Int.sub_zero, hO, hans, RB0]
     exact frz_nr 3 (by simp [PV.noref, norefL])
    | cons y Y =>
     obtain ⟨y1, y2, y3, y4⟩ := pw_hd iA.py iA.ty
     simp only [List.length_cons, List.length_nil] at iN
     have hY1 := eq_true (show (0 : Int) < ((Y.length + 1 : Nat) : Int) by omega)
     have hYt : List.take Y.length (Y.map rowP) = Y.map rowP := List.take_of_length_le (by rw [List.length_map]; exact Nat.le_refl _)
     have hap : addP 9223372036854775807 left [] (y :: Y) = takeR left y fun l => addP 9223372036854775807 l [] Y := by
      rw [addP, if_neg (by omega)]; simp only [Int.zero_add]
     simp -implicitDefEqProofs (maxSteps := 2000000) only [R0, R1, R2, R3, R4, R5, R6, R7, R8, R9, R10, R11, R12, R13, R14, R15, R16, PV.strip, stripL, PV.noref, ri, feedL, feeds, Nat.reduceBEq, Array.toList, ↓reduceIte, forall_const, implies_true, Nat.reduceEqDiff, reduceCtorEq, alP, bxP, bsP, ifP, quiet, riD, bs_l, PV.isRef, plainCell, norefL, PV.scalar, scalarL, PV.cells, PV.solid, PV.one, PV.free, freeL, fillP, splice, Nat.reduceAdd, Nat.reduceMul, Nat.reduceSub, Nat.reduceLeDiff, Nat.reduceLT, Int.reduceToNat, Int.reduceEq, Int.reduceLT, Int.reduceLE, Int.reduceNeg, E0_vc, vaN, PV.avoid, avoidL, Nat.reduceGT, W6, D6, kO_r, kO_p, kO_l, us_l, us_n, us_a, us_v, us_s, us_2, us_6, us_50, rgA, rg2, gd_row, rowP, PV.cells, tk48, tk48a, len48, hl48, strip_vI, zr50, free_vI, tr1, dr50, tr48, dr48, Int.toNat_natCast, List.length_map, List.append_nil, Int.zero_add, Int.sub_zero, hO, hY1, hYt, RB0]
     refine ⟨.inl (by decide), by unfold inI64; omega, fun h => absurd h (by omega), fun _ => ⟨.inl (by decide), by unfold inI64; omega, by omega, fun h => (by rw [h41 (ad_no iA (hap.trans (ad_none h)) pa pb)]; exact ⟨frz_nr 3 rfl, rfl⟩), fun h => ⟨by unfold inI64; omega, hjo.imp id (fun h => h.1), rm24 (by omega) (by omega), ⟨[], Y, left - y.c, out ++ [y]⟩, ad_step iA hap h (by first | omega | (simp only; omega)) iA.px y3 iA.tx y4 (by simp only [List.length_cons, List.length_nil] <;> omega), by simp only [List.length_cons, List.length_nil] <;> omega, ?_⟩⟩⟩
     simp only [RG0, RG1, Nat.reduceAdd, ltL, PV.lt, Blk.lt, Nat.reduceLT, Nat.reduceLeDiff, Wk_rfl, ltL_vI, wk_sl, rowsO_ne (List.append_ne_nil_of_right_ne_nil out (List.cons_ne_nil _ _)), List.map_append, List.map_cons, List.map_nil, rowP]
   | cons x X =>
    obtain ⟨x1, x2, x3, x4⟩ := pw_hd iA.px iA.tx
    simp only [List.length_cons] at iN
    have hX1 := eq_true (show (0 : Int) < ((X.length + 1 : Nat) : Int) by omega)
    have hX2 := eq_false (show ¬ ((X.length + 1 : Nat) : Int) = 0 by omega)
    have hXt : List.take X.length (X.map rowP) = X.map rowP := List.take_of_length_le (by rw [List.length_map]; exact Nat.le_refl _)
    cases Y with
    | nil =>
     have hap : addP 9223372036854775807 left (x :: X) [] = takeR left x fun l => addP 9223372036854775807 l X [] := by rw [addP]
     simp -implicitDefEqProofs (maxSteps := 2000000) only [R0, R1, R2, R3, R4, R5, R6, R7, R8, R9, R10, R11, R12, R13, R14, R15, R16, PV.strip, stripL, PV.noref, ri, feedL, feeds, Nat.reduceBEq, Array.toList, ↓reduceIte, forall_const, implies_true, Nat.reduceEqDiff, reduceCtorEq, alP, bxP, bsP, ifP, quiet, riD, bs_l, PV.isRef, plainCell, norefL, PV.scalar, scalarL, PV.cells, PV.solid, PV.one, PV.free, freeL, fillP, splice, Nat.reduceAdd, Nat.reduceMul, Nat.reduceSub, Nat.reduceLeDiff, Nat.reduceLT, Int.reduceToNat, Int.reduceEq, Int.reduceLT, Int.reduceLE, Int.reduceNeg, E0_vc, vaN, PV.avoid, avoidL, Nat.reduceGT, W6, D6, kO_r, kO_p, kO_l, us_l, us_n, us_a, us_v, us_s, us_2, us_6, us_50, rgA, rg2, gd_row, rowP, PV.cells, tk48, tk48a, len48, hl48, strip_vI, zr50, free_vI, tr1, dr50, tr48, dr48, Int.toNat_natCast, List.length_map, List.append_nil, Int.zero_add, Int.sub_zero, hO, hX1, hX2, hXt, RB0]
     refine ⟨.inl (by decide), by omega, fun h => (by rw [h41 (ad_no iA (hap.trans (ad_none h)) pa pb)]; exact ⟨frz_nr 3 rfl, rfl⟩), fun h => ⟨by unfold inI64; omega, hjo.imp id (fun h => h.1), rm24 (by omega) (by omega), ⟨X, [], left - x.c, out ++ [x]⟩, ad_step iA hap h (by first | omega | (simp only; omega)) x3 iA.py x4 iA.ty (by simp only [List.length_cons, List.length_nil] <;> omega), by simp only [List.length_cons, List.length_nil] <;> omega, ?_⟩⟩
     simp only [RG0, RG1, Nat.reduceAdd, ltL, PV.lt, Blk.lt, Nat.reduceLT, Nat.reduceLeDiff, Wk_rfl, ltL_vI, wk_sl, rowsO_ne (List.append_ne_nil_of_right_ne_nil out (List.cons_ne_nil _ _)), List.map_append, List.map_cons, List.map_nil, rowP]
    | cons y Y =>
     obtain ⟨y1, y2, y3, y4⟩ := pw_hd iA.py iA.ty
     simp only [List.length_cons] at iN
     have hY1 := eq_true (show (0 : Int) < ((Y.length + 1 : Nat) : Int) by omega)
     have hYt : List.take Y.length (Y.map rowP) = Y.map rowP := List.take_of_length_le (by rw [List.length_map]; exact Nat.le_refl _)
     by_cases k1 : cmpFin x.f y.f < 0
     ·have kA := eq_true (show cmpFin x.f y.f ≤ 0 by omega)
      have kB := eq_false (show ¬ 0 ≤ cmpFin x.f y.f by omega)
      have hap : addP 9223372036854775807 left (x :: X) (y :: Y) = takeR left x fun l => addP 9223372036854775807 l X (y :: Y) := by rw [addP, if_pos k1]
      simp -implicitDefEqProofs (maxSteps := 2000000) only [R0, R1, R2, R3, R4, R5, R6, R7, R8, R9, R10, R11, R12, R13, R14, R15, R16, PV.strip, stripL, PV.noref, ri, feedL, feeds, Nat.reduceBEq, Array.toList, ↓reduceIte, forall_const, implies_true, Nat.reduceEqDiff, reduceCtorEq, alP, bxP, bsP, ifP, quiet, riD, bs_l, PV.isRef, plainCell, norefL, PV.scalar, scalarL, PV.cells, PV.solid, PV.one, PV.free, freeL, fillP, splice, Nat.reduceAdd, Nat.reduceMul, Nat.reduceSub, Nat.reduceLeDiff, Nat.reduceLT, Int.reduceToNat, Int.reduceEq, Int.reduceLT, Int.reduceLE, Int.reduceNeg, E0_vc, vaN, PV.avoid, avoidL, Nat.reduceGT, W6, D6, kO_r, kO_p, kO_l, us_l, us_n, us_a, us_v, us_s, us_2, us_6, us_50, rgA, rg2, gd_row, rowP, PV.cells, tk48, tk48a, len48, hl48, strip_vI, zr50, free_vI, tr1, dr50, tr48, dr48, Int.toNat_natCast, List.length_map, List.append_nil, Int.zero_add, Int.sub_zero, hO, hX1, hX2, hXt, hY1, hYt, pCompareE, kA, kB, RB0]
      refine ⟨.inl (by decide), .inl (by decide), by omega, fun h => (by rw [h41 (ad_no iA (hap.trans (ad_none h)) pa pb)]; exact ⟨frz_nr 3 rfl, rfl⟩), fun h => ⟨by unfold inI64; omega, hjo.imp id (fun h => h.1), rm24 (by omega) (by omega), ⟨X, y :: Y, left - x.c, out ++ [x]⟩, ad_step iA hap h (by first | omega | (simp only; omega)) x3 iA.py x4 iA.ty (by simp only [List.length_cons, List.length_nil] <;> omega), by simp only [List.length_cons, List.length_nil] <;> omega, ?_⟩⟩
      simp only [RG0, RG1, Nat.reduceAdd, ltL, PV.lt, Blk.lt, Nat.reduceLT, Nat.reduceLeDiff, Wk_rfl, ltL_vI, wk_sl, rowsO_ne (List.append_ne_nil_of_right_ne_nil out (List.cons_ne_nil _ _)), List.map_append, List.map_cons, List.map_nil, rowP]
     ·by_cases k2 : cmpFin x.f y.f = 0
      ·have hap0 : addP 9223372036854775807 left (x :: X) (y :: Y) = if 9223372036854775807 - x.c < y.c then none else takeR left ⟨x.c + y.c, y.f⟩ fun l => addP 9223372036854775807 l X Y := by rw [addP, if_neg k1, if_pos k2]
       simp -implicitDefEqProofs (maxSteps := 2000000) only [R0, R1, R2, R3, R4, R5, R6, R7, R8, R9, R10, R11, R12, R13, R14, R15, R16, PV.strip, stripL, PV.noref, ri, feedL, feeds, Nat.reduceBEq, Array.toList, ↓reduceIte, forall_const, implies_true, Nat.reduceEqDiff, reduceCtorEq, alP, bxP, bsP, ifP, quiet, riD, bs_l, PV.isRef, plainCell, norefL, PV.scalar, scalarL, PV.cells, PV.solid, PV.one, PV.free, freeL, fillP, splice, Nat.reduceAdd, Nat.reduceMul, Nat.reduceSub, Nat.reduceLeDiff, Nat.reduceLT, Int.reduceToNat, Int.reduceEq, Int.reduceLT, Int.reduceLE, Int.reduceNeg, E0_vc, vaN, PV.avoid, avoidL, Nat.reduceGT, W6, D6, kO_r, kO_p, kO_l, us_l, us_n, us_a, us_v, us_s, us_2, us_6, us_50, rgA, rg2, gd_row, rowP, PV.cells, tk48, tk48a, len48, hl48, strip_vI, zr50, free_vI, tr1, dr50, tr48, dr48, Int.toNat_natCast, List.length_map, List.append_nil, Int.zero_add, Int.sub_zero, hO, hX1, hX2, hXt, hY1, hYt, pCompareE, k2, RB0]
       refine ⟨.inl (by decide), .inl (by decide), by omega, .inl (by decide), by unfold inI64; omega, fun h => (by rw [h41 (ad_no iA (hap0.trans (if_pos h)) pa pb)]; exact ⟨frz_nr 3 rfl, rfl⟩), fun hq => ?_⟩
       have hap := hap0.trans (if_neg hq)
       refine ⟨.inl (by decide), by unfold inI64; omega, by omega, fun h => (by rw [h41 (ad_no iA (hap.trans (ad_none h)) pa pb)]; exact ⟨frz_nr 3 rfl, rfl⟩), fun h => ⟨by unfold inI64; omega, hjo.imp id (fun h => h.1), rm24 (by omega) (by omega), ⟨X, Y, left - (Row.mk (x.c + y.c) y.f).c, out ++ [(Row.mk (x.c + y.c) y.f)]⟩, ad_step iA hap h (by first | omega | (simp only; omega)) x3 y3 x4 y4 (by simp only [List.length_cons, List.length_nil] <;> omega), by simp only [List.length_cons, List.length_nil] <;> omega, ?_⟩⟩
       simp only [RG0, RG1, Nat.reduceAdd, ltL, PV.lt, Blk.lt, Nat.reduceLT, Nat.reduceLeDiff, Wk_rfl, ltL_vI, wk_sl, rowsO_ne (List.append_ne_nil_of_right_ne_nil out (List.cons_ne_nil _ _)), List.map_append, List.map_cons, List.map_nil, rowP]
      ·have kA := eq_false (show ¬ cmpFin x.f y.f ≤ 0 by omega)
       have kB := eq_true (show 0 ≤ cmpFin x.f y.f by omega)
       have hap : addP 9223372036854775807 left (x :: X) (y :: Y) = takeR left y fun l => addP 9223372036854775807 l (x :: X) Y := by
        rw [addP, if_neg k1, if_neg k2, if_neg (by omega)]; simp only [Int.zero_add]
       simp -implicitDefEqProofs (maxSteps := 2000000) only [R0, R1, R2, R3, R4, R5, R6, R7, R8, R9, R10, R11, R12, R13, R14, R15, R16, PV.strip, stripL, PV.noref, ri, feedL, feeds, Nat.reduceBEq, Array.toList, ↓reduceIte, forall_const, implies_true, Nat.reduceEqDiff, reduceCtorEq, alP, bxP, bsP, ifP, quiet, riD, bs_l, PV.isRef, plainCell, norefL, PV.scalar, scalarL, PV.cells, PV.solid, PV.one, PV.free, freeL, fillP, splice, Nat.reduceAdd, Nat.reduceMul, Nat.reduceSub, Nat.reduceLeDiff, Nat.reduceLT, Int.reduceToNat, Int.reduceEq, Int.reduceLT, Int.reduceLE, Int.reduceNeg, E0_vc, vaN, PV.avoid, avoidL, Nat.reduceGT, W6, D6, kO_r, kO_p, kO_l, us_l, us_n, us_a, us_v, us_s, us_2, us_6, us_50, rgA, rg2, gd_row, rowP, PV.cells, tk48, tk48a, len48, hl48, strip_vI, zr50, free_vI, tr1, dr50, tr48, dr48, Int.toNat_natCast, List.length_map, List.append_nil, Int.zero_add, Int.sub_zero, hO, hX1, hX2, hXt, hY1, hYt, pCompareE, kA, kB, RB0]
       refine ⟨.inl (by decide), .inl (by decide), by unfold inI64; omega, fun h => absurd h (by omega), fun _ => ⟨.inl (by decide), by unfold inI64; omega, by omega, fun h => (by rw [h41 (ad_no iA (hap.trans (ad_none h)) pa pb)]; exact ⟨frz_nr 3 rfl, rfl⟩), fun h => ⟨by unfold inI64; omega, hjo.imp id (fun h => h.1), rm24 (by omega) (by omega), ⟨x :: X, Y, left - y.c, out ++ [y]⟩, ad_step iA hap h (by first | omega | (simp only; omega)) iA.px y3 iA.tx y4 (by simp only [List.length_cons, List.length_nil] <;> omega), by simp only [List.length_cons, List.length_nil] <;> omega, ?_⟩⟩⟩
       simp only [RG0, RG1, Nat.reduceAdd, ltL, PV.lt, Blk.lt, Nat.reduceLT, Nat.reduceLeDiff, Wk_rfl, ltL_vI, wk_sl, rowsO_ne (List.append_ne_nil_of_right_ne_nil out (List.cons_ne_nil _ _)), List.map_append, List.map_cons, List.map_nil, rowP]
 | n + 3 => omega
end Go.Ve.H
end
section
set_option maxRecDepth 10000
set_option maxHeartbeats 20000000
namespace Go.Ve.H
open Go Go.Proofs Go.Ve
def RoomS (k m l p : Nat) (c : List PV) : Prop := l ≤ p ∧ p * k ≤ c.length ∧ l ≤ m ∧ c.all valJ = true
theorem room_set {k m l p : Nat} {c : List PV} (h : RoomS k m l p c) (j : Nat) (hj : j + 1 ≤ c.length) (v : Value) : RoomS k m l p (List.take j c ++ [.val v] ++ List.drop (j + 1) c) := by
 obtain ⟨h1, h2, h3, h4⟩ := h
 refine ⟨h1, by simp only [List.length_append, List.length_take, List.length_drop, List.length_cons, List.length_nil]; omega, h3, ?_⟩
 have g := List.all_eq_true.1 h4
 simp only [List.all_append, List.all_cons, List.all_nil, Bool.and_true, Bool.and_eq_true]
 exact ⟨⟨List.all_eq_true.2 fun x hx => g x (List.mem_of_mem_take hx), rfl⟩, List.all_eq_true.2 fun x hx => g x (List.mem_of_mem_drop hx)⟩
theorem room_app {k m l p c' : Nat} {c xs : List PV} (h : RoomS k m l p c) (hx : xs.all valJ = true) (hl : l + 1 ≤ c') : RoomS k (m + 1) (l + 1) c' (padded (List.take (l * k) c ++ xs) (c' * k)) := by
 obtain ⟨h1, h2, h3, h4⟩ := h
 refine ⟨hl, by simp only [padded, List.length_append, List.length_replicate]; omega, by omega, ?_⟩
 have g := List.all_eq_true.1 h4
 simp only [padded, List.all_append, Bool.and_eq_true]
 exact ⟨⟨List.all_eq_true.2 fun x hx => g x (List.mem_of_mem_take hx), hx⟩, List.all_eq_true.2 fun x hx => by rw [List.eq_of_mem_replicate hx]; rfl⟩
theorem av_vj (b : Nat) : ∀ {c : List PV}, c.all valJ = true → avoidL b c = true
 | [], _ => rfl
 | p :: c, h => by
  simp only [List.all_cons, Bool.and_eq_true] at h
  simp only [avoidL, av_vj b h.2, Bool.and_true]
  cases p <;> simp [valJ, PV.avoid] at h ⊢
theorem lt_vj (b : Nat) : ∀ {c : List PV}, c.all valJ = true → ltL b c = true
 | [], _ => rfl
 | p :: c, h => by
  simp only [List.all_cons, Bool.and_eq_true] at h
  simp only [ltL, lt_vj b h.2, Bool.and_true]
  cases p <;> simp [valJ, PV.lt] at h ⊢
theorem vj_vI (l : List Int) : (l.map vI).all valJ = true := List.all_eq_true.2 fun x hx => by
 obtain ⟨y, _, rfl⟩ := List.mem_map.1 hx
 rfl
def xpR : List PV := [.val (.int .i64 (-8)), .val (.string { data := #[] })]
def xpS : List PV := .val (.int .i64 (-8)) :: .val (.int .i64 noFin.n) :: noFin.v.map vI
def xpC : List PV := [.val (.int .i64 (-8)), .val (.int .i64 0), .val (.int .i64 0), .val (.int .i64 0), .val (.string { data := #[] }), .val (.int .i64 0)]
theorem xpR_v : xpR.all valJ = true := rfl
theorem xpS_v : xpS.all valJ = true := by simp only [xpS, List.all_cons, vj_vI, Bool.and_true]; rfl
theorem xpC_v : xpC.all valJ = true := rfl
theorem rm25 {n b : Nat} (h : n ≤ 300000000) (hb : b ≤ 400) : roomy n b = true := by
 unfold roomy
 have h1 : n * (b + 1) ≤ 300000000 * 401 := Nat.mul_le_mul h (by omega)
 exact decide_eq_true (by omega)
def rowX (k : Nat) (o : Bool) (xs : List PV) : PV := if xs = [] then .sl 0 [] o else .sl k xs true
theorem rowX_0 (k : Nat) (o : Bool) : rowX k o [] = .sl 0 [] o := rfl
theorem rowX_s (k : Nat) (o : Bool) (xs : List PV) (x : PV) : rowX k o (xs ++ [x]) = .sl k (xs ++ [x]) true := by rw [rowX, if_neg (by simp)]
theorem rowX_eq (k : Nat) (o : Bool) (xs : List PV) : ∃ j b, rowX k o xs = .sl j xs b ∧ ((j = k ∧ b = true) ∨ j = 0) := by
 unfold rowX
 by_cases h : xs = []
 ·exact ⟨0, o, by rw [if_pos h, h], .inr rfl⟩
 ·exact ⟨k, true, by rw [if_neg h], .inl ⟨rfl, rfl⟩⟩
structure SpS where
 i : Nat
 lR : Nat
 pR : Nat
 cR : List PV
 lS : Nat
 pS : Nat
 cS : List PV
 lC : Nat
 pC : Nat
 cC : List PV
theorem retV_z : retV [] = .tuple [] := rfl
def D50 : FuncId → Option CB := fun _ => none
theorem D50_ok : AllB E0 D50 := fun g c h => by cases h
def spT111 : PT := fun args M K => ∃ (n : ByteArray) (q : Int) (lR pR : Nat) (cR : List PV) (lS pS : Nat) (cS : List PV) (lC pC : Nat) (cC : List PV), args = [.agg [vS n, vI q, .rs 2 0 0 lR pR, .rs 50 1 0 lS pS, .rs 6 2 0 lC pC]] ∧ M = [.live cR, .live cS, .live cC] ∧ RoomS 2 200000000 lR pR cR ∧ RoomS 50 200000000 lS pS cS ∧ RoomS 6 200000000 lC pC cC ∧ ∀ B, K (.tuple []) B
def W11 := And.intro @Try.results11 (And.intro @fa27_2 (And.intro @ag22 (And.intro @sz22 (And.intro @zd22 (And.intro @Try.underlying22 (And.intro @sz39 (And.intro @zd39 (And.intro @fa39_0 (And.intro @sz3 (And.intro @fa27_3 (And.intro @ag23 (And.intro @sz23 (And.intro @zd23 (And.intro @Try.underlying23 (And.intro @sz44 (And.intro @zd44 (And.intro @fa44_0 (And.intro @sz2 (And.intro @fa27_4 (And.intro @ag25 (And.intro @sz25 (And.intro @zd25 (And.intro @Try.underlying25 (And.intro @sz46 (And.intro @zd46 (And.intro @fa46_0 (And.intro @bu39 (And.intro @zs39 (And.intro @by39 (And.intro @bu44 (And.intro @zs44 (And.intro @by44 (And.intro @bu46 (And.intro @zs46 (@by46)))))))))))))))))))))))))))))))))))
theorem sp111_ok : SoundX Try.prog G0 11 spT111 := by
 refine fn_X [58, 62, 66] D50_ok mixed true Try.func11 (by decide) rfl ?_
 rintro args M K ⟨n, q, lR, pR, cR, lS, pS, cS, lC, pC, cC, rfl, rfl, hR, hS, hC, hK⟩
 simp only [awpBFnX, Try.ntmps11, List.length_cons, List.length_nil, Nat.reduceAdd, Nat.reduceSub, List.replicate_succ, List.replicate_zero, List.cons_append, List.nil_append, List.map_cons, List.map_nil]
 simp -implicitDefEqProofs (maxSteps := 2000000) only [R0, R1, R2, R3, R4, R5, R6, R7, R8, R9, R10, R11, R12, R13, R14, R15, R16, PV.strip, stripL, PV.noref, ri, feedL, feeds, Nat.reduceBEq, Array.toList, ↓reduceIte, forall_const, implies_true, Nat.reduceEqDiff, reduceCtorEq, alP, bxP, bsP, ifP, quiet, riD, bs_l, PV.isRef, plainCell, norefL, PV.scalar, scalarL, PV.cells, PV.solid, PV.one, PV.free, freeL, fillP, splice, Nat.reduceAdd, Nat.reduceMul, Nat.reduceSub, Nat.reduceLeDiff, Nat.reduceLT, Int.reduceToNat, Int.reduceEq, Int.reduceLT, Int.reduceLE, Int.reduceNeg, E0_vc, vaN, PV.avoid, avoidL, Nat.reduceGT, W11, retV_z, RB0]
 refine loopB_by (fun x : Nat × List PV => [.junk, .ptr 3 0, vI x.1, .junk, .junk, .junk, .junk, .junk, .junk, .junk, .junk, .junk, .junk, .junk, .junk, .junk, .junk, .junk, .junk, .junk, .junk, .junk, .junk, .junk, .junk, .junk, .junk, .junk, .junk, .junk, .junk, .junk, .junk, .junk, .junk, .junk, .junk, .junk, .junk, .junk, .junk, .junk, .junk, .junk, .junk, .junk, .junk, .junk, .junk, .junk, .junk, .junk, .junk, .junk, .junk, .junk, .junk, .junk, .junk, .junk, .junk, .junk, .junk, .junk, .junk, .junk, .junk]) (fun x => [.live x.2, .live cS, .live cC, .live [vS n, vI q, .rs 2 0 0 lR pR, .rs 50 1 0 lS pS, .rs 6 2 0 lC pC]]) (fun x => x.1 ≤ lR ∧ RoomS 2 200000000 lR pR x.2) (fun x => lR - x.1) ⟨0, cR⟩ ?_ ?_ ?_
 ·simp only [RG0, RG1, Nat.reduceAdd, ltL, PV.lt, Blk.lt, Nat.reduceLT, Nat.reduceLeDiff, Wk_rfl, ltL_vI, wk_sl] <;> rfl
 ·exact ⟨Nat.zero_le _, hR⟩
 intro x hP
 obtain ⟨i, zR⟩ := x
 have hi' := hP.1
 have hzR : RoomS 2 200000000 lR pR zR := hP.2
 have r1 := hzR.1
 have r2 := hzR.2.1
 have r3 := hzR.2.2.1
 by_cases hil : i < lR
 ·have hil' : (i : Int) < lR := by omega
  simp -implicitDefEqProofs (maxSteps := 2000000) only [R0, R1, R2, R3, R4, R5, R6, R7, R8, R9, R10, R11, R12, R13, R14, R15, R16, PV.strip, stripL, PV.noref, ri, feedL, feeds, Nat.reduceBEq, Array.toList, ↓reduceIte, forall_const, implies_true, Nat.reduceEqDiff, reduceCtorEq, alP, bxP, bsP, ifP, quiet, riD, bs_l, PV.isRef, plainCell, norefL, PV.scalar, scalarL, PV.cells, PV.solid, PV.one, PV.free, freeL, fillP, splice, Nat.reduceAdd, Nat.reduceMul, Nat.reduceSub, Nat.reduceLeDiff, Nat.reduceLT, Int.reduceToNat, Int.reduceEq, Int.reduceLT, Int.reduceLE, Int.reduceNeg, E0_vc, vaN, PV.avoid, avoidL, Nat.reduceGT, W11, retV_z, rgA, rg1, zr50, strip_vI, free_vI, len48, hl48, PV.cells, Blk.avoid, List.flatMap_cons, List.flatMap_nil, Int.toNat_natCast, List.length_map, List.append_nil, hil', RB0]
  refine ⟨by omega, by omega, by unfold inI64; omega, ⟨i + 1, _⟩, ⟨by simp only; omega, room_set hzR (i * 2) (by omega) (.int .i64 (-9))⟩, by simp only; omega, ?_⟩
  simp only [RG0, RG1, Nat.reduceAdd, ltL, PV.lt, Blk.lt, Nat.reduceLT, Nat.reduceLeDiff, Wk_rfl, ltL_vI, wk_sl] <;> omega
 have hil' : ¬ (i : Int) < lR := by omega
 simp -implicitDefEqProofs (maxSteps := 2000000) only [R0, R1, R2, R3, R4, R5, R6, R7, R8, R9, R10, R11, R12, R13, R14, R15, R16, PV.strip, stripL, PV.noref, ri, feedL, feeds, Nat.reduceBEq, Array.toList, ↓reduceIte, forall_const, implies_true, Nat.reduceEqDiff, reduceCtorEq, alP, bxP, bsP, ifP, quiet, riD, bs_l, PV.isRef, plainCell, norefL, PV.scalar, scalarL, PV.cells, PV.solid, PV.one, PV.free, freeL, fillP, splice, Nat.reduceAdd, Nat.reduceMul, Nat.reduceSub, Nat.reduceLeDiff, Nat.reduceLT, Int.reduceToNat, Int.reduceEq, Int.reduceLT, Int.reduceLE, Int.reduceNeg, E0_vc, vaN, PV.avoid, avoidL, Nat.reduceGT, W11, retV_z, rgA, rg1, zr50, strip_vI, free_vI, len48, hl48, PV.cells, Blk.avoid, List.flatMap_cons, List.flatMap_nil, Int.toNat_natCast, List.length_map, List.append_nil, hil', RB0]
 refine loopB_by (fun x : Nat × List PV => [.junk, .ptr 3 0, .junk, vI x.1, .junk, .junk, .junk, .junk, .junk, .junk, .junk, .junk, .junk, .junk, .junk, .junk, .junk, .junk, .junk, .junk, .junk, .junk, .junk, .junk, .junk, .junk, .junk, .junk, .junk, .junk, .junk, .junk, .junk, .junk, .junk, .junk, .junk, .junk, .junk, .junk, .junk, .junk, .junk, .junk, .junk, .junk, .junk, .junk, .junk, .junk, .junk, .junk, .junk, .junk, .junk, .junk, .junk, .junk, .junk, .junk, .junk, .junk, .junk, .junk, .junk, .junk, .junk]) (fun x => [.live zR, .live x.2, .live cC, .live [vS n, vI q, .rs 2 0 0 lR pR, .rs 50 1 0 lS pS, .rs 6 2 0 lC pC]]) (fun x => x.1 ≤ lS ∧ RoomS 50 200000000 lS pS x.2) (fun x => lS - x.1) ⟨0, cS⟩ ?_ ?_ ?_
 ·simp only [RG0, RG1, Nat.reduceAdd, ltL, PV.lt, Blk.lt, Nat.reduceLT, Nat.reduceLeDiff, Wk_rfl, ltL_vI, wk_sl] <;> rfl
 ·exact ⟨Nat.zero_le _, hS⟩
 intro x hP
 obtain ⟨i, zS⟩ := x
 have hi' := hP.1
 have hzS : RoomS 50 200000000 lS pS zS := hP.2
 have r1 := hzS.1
 have r2 := hzS.2.1
 have r3 := hzS.2.2.1
 by_cases hil : i < lS
 ·have hil' : (i : Int) < lS := by omega
  simp -implicitDefEqProofs (maxSteps := 2000000) only [R0, R1, R2, R3, R4, R5, R6, R7, R8, R9, R10, R11, R12, R13, R14, R15, R16, PV.strip, stripL, PV.noref, ri, feedL, feeds, Nat.reduceBEq, Array.toList, ↓reduceIte, forall_const, implies_true, Nat.reduceEqDiff, reduceCtorEq, alP, bxP, bsP, ifP, quiet, riD, bs_l, PV.isRef, plainCell, norefL, PV.scalar, scalarL, PV.cells, PV.solid, PV.one, PV.free, freeL, fillP, splice, Nat.reduceAdd, Nat.reduceMul, Nat.reduceSub, Nat.reduceLeDiff, Nat.reduceLT, Int.reduceToNat, Int.reduceEq, Int.reduceLT, Int.reduceLE, Int.reduceNeg, E0_vc, vaN, PV.avoid, avoidL, Nat.reduceGT, W11, retV_z, rgA, rg1, zr50, strip_vI, free_vI, len48, hl48, PV.cells, Blk.avoid, List.flatMap_cons, List.flatMap_nil, Int.toNat_natCast, List.length_map, List.append_nil, hil', RB0]
  refine ⟨by omega, by omega, by unfold inI64; omega, ⟨i + 1, _⟩, ⟨by simp only; omega, room_set hzS (i * 50) (by omega) (.int .i64 (-9))⟩, by simp only; omega, ?_⟩
  simp only [RG0, RG1, Nat.reduceAdd, ltL, PV.lt, Blk.lt, Nat.reduceLT, Nat.reduceLeDiff, Wk_rfl, ltL_vI, wk_sl] <;> omega
 have hil' : ¬ (i : Int) < lS := by omega
 simp -implicitDefEqProofs (maxSteps := 2000000) only [R0, R1, R2, R3, R4, R5, R6, R7, R8, R9, R10, R11, R12, R13, R14, R15, R16, PV.strip, stripL, PV.noref, ri, feedL, feeds, Nat.reduceBEq, Array.toList, ↓reduceIte, forall_const, implies_true, Nat.reduceEqDiff, reduceCtorEq, alP, bxP, bsP, ifP, quiet, riD, bs_l, PV.isRef, plainCell, norefL, PV.scalar, scalarL, PV.cells, PV.solid, PV.one, PV.free, freeL, fillP, splice, Nat.reduceAdd, Nat.reduceMul, Nat.reduceSub, Nat.reduceLeDiff, Nat.reduceLT, Int.reduceToNat, Int.reduceEq, Int.reduceLT, Int.reduceLE, Int.reduceNeg, E0_vc, vaN, PV.avoid, avoidL, Nat.reduceGT, W11, retV_z, rgA, rg1, zr50, strip_vI, free_vI, len48, hl48, PV.cells, Blk.avoid, List.flatMap_cons, List.flatMap_nil, Int.toNat_natCast, List.length_map, List.append_nil, hil', RB0]
 refine loopB_by (fun x : Nat × List PV => [.junk, .ptr 3 0, .junk, .junk, vI x.1, .junk, .junk, .junk, .junk, .junk, .junk, .junk, .junk, .junk, .junk, .junk, .junk, .junk, .junk, .junk, .junk, .junk, .junk, .junk, .junk, .junk, .junk, .junk, .junk, .junk, .junk, .junk, .junk, .junk, .junk, .junk, .junk, .junk, .junk, .junk, .junk, .junk, .junk, .junk, .junk, .junk, .junk, .junk, .junk, .junk, .junk, .junk, .junk, .junk, .junk, .junk, .junk, .junk, .junk, .junk, .junk, .junk, .junk, .junk, .junk, .junk, .junk]) (fun x => [.live zR, .live zS, .live x.2, .live [vS n, vI q, .rs 2 0 0 lR pR, .rs 50 1 0 lS pS, .rs 6 2 0 lC pC]]) (fun x => x.1 ≤ lC ∧ RoomS 6 200000000 lC pC x.2) (fun x => lC - x.1) ⟨0, cC⟩ ?_ ?_ ?_
 ·simp only [RG0, RG1, Nat.reduceAdd, ltL, PV.lt, Blk.lt, Nat.reduceLT, Nat.reduceLeDiff, Wk_rfl, ltL_vI, wk_sl] <;> rfl
 ·exact ⟨Nat.zero_le _, hC⟩
 intro x hP
 obtain ⟨i, zC⟩ := x
 have hi' := hP.1
 have hzC : RoomS 6 200000000 lC pC zC := hP.2
 have r1 := hzC.1
 have r2 := hzC.2.1
 have r3 := hzC.2.2.1
 by_cases hil : i < lC
 ·have hil' : (i : Int) < lC := by omega
  simp -implicitDefEqProofs (maxSteps := 2000000) only [R0, R1, R2, R3, R4, R5, R6, R7, R8, R9, R10, R11, R12, R13, R14, R15, R16, PV.strip, stripL, PV.noref, ri, feedL, feeds, Nat.reduceBEq, Array.toList, ↓reduceIte, forall_const, implies_true, Nat.reduceEqDiff, reduceCtorEq, alP, bxP, bsP, ifP, quiet, riD, bs_l, PV.isRef, plainCell, norefL, PV.scalar, scalarL, PV.cells, PV.solid, PV.one, PV.free, freeL, fillP, splice, Nat.reduceAdd, Nat.reduceMul, Nat.reduceSub, Nat.reduceLeDiff, Nat.reduceLT, Int.reduceToNat, Int.reduceEq, Int.reduceLT, Int.reduceLE, Int.reduceNeg, E0_vc, vaN, PV.avoid, avoidL, Nat.reduceGT, W11, retV_z, rgA, rg1, zr50, strip_vI, free_vI, len48, hl48, PV.cells, Blk.avoid, List.flatMap_cons, List.flatMap_nil, Int.toNat_natCast, List.length_map, List.append_nil, hil', RB0]
  refine ⟨by omega, by omega, by unfold inI64; omega, ⟨i + 1, _⟩, ⟨by simp only; omega, room_set hzC (i * 6) (by omega) (.int .i64 (-9))⟩, by simp only; omega, ?_⟩
  simp only [RG0, RG1, Nat.reduceAdd, ltL, PV.lt, Blk.lt, Nat.reduceLT, Nat.reduceLeDiff, Wk_rfl, ltL_vI, wk_sl] <;> omega
 have hil' : ¬ (i : Int) < lC := by omega
 simp -implicitDefEqProofs (maxSteps := 2000000) only [R0, R1, R2, R3, R4, R5, R6, R7, R8, R9, R10, R11, R12, R13, R14, R15, R16, PV.strip, stripL, PV.noref, ri, feedL, feeds, Nat.reduceBEq, Array.toList, ↓reduceIte, forall_const, implies_true, Nat.reduceEqDiff, reduceCtorEq, alP, bxP, bsP, ifP, quiet, riD, bs_l, PV.isRef, plainCell, norefL, PV.scalar, scalarL, PV.cells, PV.solid, PV.one, PV.free, freeL, fillP, splice, Nat.reduceAdd, Nat.reduceMul, Nat.reduceSub, Nat.reduceLeDiff, Nat.reduceLT, Int.reduceToNat, Int.reduceEq, Int.reduceLT, Int.reduceLE, Int.reduceNeg, E0_vc, vaN, PV.avoid, avoidL, Nat.reduceGT, W11, retV_z, rgA, rg1, zr50, strip_vI, free_vI, len48, hl48, PV.cells, Blk.avoid, List.flatMap_cons, List.flatMap_nil, Int.toNat_natCast, List.length_map, List.append_nil, hil', RB0]
 refine loopB_by (fun x : SpS => [.junk, .junk, .junk, .junk, .junk, .rs 2 0 0 x.lR x.pR, .rs 50 1 0 x.lS x.pS, .rs 6 2 0 x.lC x.pC, vI x.i, .junk, .junk, .junk, .junk, .junk, .junk, .junk, .junk, .junk, .junk, .junk, .junk, .junk, .junk, .junk, .junk, .junk, .junk, .junk, .junk, .junk, .junk, .junk, .junk, .junk, .junk, .junk, .junk, .junk, .junk, .junk, .junk, .junk, .junk, .junk, .junk, .junk, .junk, .junk, .junk, .junk, .junk, .junk, .junk, .junk, .junk, .junk, .junk, .junk, .junk, .junk, .junk, .junk, .junk, .junk, .junk, .junk, .junk]) (fun x => [.live x.cR, .live x.cS, .live x.cC]) (fun x => x.i ≤ 9 ∧ RoomS 2 (200000000 + x.i) x.lR x.pR x.cR ∧ RoomS 50 (200000000 + x.i) x.lS x.pS x.cS ∧ RoomS 6 (200000000 + x.i) x.lC x.pC x.cC) (fun x => 9 - x.i) ⟨0, lR, pR, zR, lS, pS, zS, lC, pC, zC⟩ ?_ ?_ ?_
 ·simp only [RG0, RG1, Nat.reduceAdd, ltL, PV.lt, Blk.lt, Nat.reduceLT, Nat.reduceLeDiff, Wk_rfl, ltL_vI, wk_sl, rowX_0, lt_vj _ hzR.2.2.2, lt_vj _ hzS.2.2.2, lt_vj _ hzC.2.2.2]
 ·exact ⟨Nat.zero_le _, hzR, hzS, hzC⟩
 intro x hP
 obtain ⟨i, lR', pR', cR', lS', pS', cS', lC', pC', cC'⟩ := x
 have hi' : i ≤ 9 := hP.1
 have gR : RoomS 2 (200000000 + i) lR' pR' cR' := hP.2.1
 have kR1 := gR.1
 have kR2 := gR.2.1
 have kR3 := gR.2.2.1
 have aR := fun b => av_vj b gR.2.2.2
 have gS : RoomS 50 (200000000 + i) lS' pS' cS' := hP.2.2.1
 have kS1 := gS.1
 have kS2 := gS.2.1
 have kS3 := gS.2.2.1
 have aS := fun b => av_vj b gS.2.2.2
 have gC : RoomS 6 (200000000 + i) lC' pC' cC' := hP.2.2.2
 have kC1 := gC.1
 have kC2 := gC.2.1
 have kC3 := gC.2.2.1
 have aC := fun b => av_vj b gC.2.2.2
 by_cases hil : i < 9
 ·have hil' : (i : Int) < 9 := by omega
  simp -implicitDefEqProofs (maxSteps := 2000000) only [R0, R1, R2, R3, R4, R5, R6, R7, R8, R9, R10, R11, R12, R13, R14, R15, R16, PV.strip, stripL, PV.noref, ri, feedL, feeds, Nat.reduceBEq, Array.toList, ↓reduceIte, forall_const, implies_true, Nat.reduceEqDiff, reduceCtorEq, alP, bxP, bsP, ifP, quiet, riD, bs_l, PV.isRef, plainCell, norefL, PV.scalar, scalarL, PV.cells, PV.solid, PV.one, PV.free, freeL, fillP, splice, Nat.reduceAdd, Nat.reduceMul, Nat.reduceSub, Nat.reduceLeDiff, Nat.reduceLT, Int.reduceToNat, Int.reduceEq, Int.reduceLT, Int.reduceLE, Int.reduceNeg, E0_vc, vaN, PV.avoid, avoidL, Nat.reduceGT, W11, retV_z, rgA, rg1, zr50, strip_vI, free_vI, len48, hl48, PV.cells, Blk.avoid, List.flatMap_cons, List.flatMap_nil, Int.toNat_natCast, List.length_map, List.append_nil, aR, aS, aC, hil', RB0]
  have hR' := fun c hc => room_app (c' := c) gR xpR_v hc
  refine ⟨by kernel_rfl, kR2, rm25 (by omega) (by omega), fun Rn hRn => ?_⟩
  have hS' := fun c hc => room_app (c' := c) gS xpS_v hc
  refine ⟨by kernel_rfl, kS2, av_vj _ (hR' Rn hRn).2.2.2, rm25 (by omega) (by omega), fun Sn hSn => ?_⟩
  have hC' := fun c hc => room_app (c' := c) gC xpC_v hc
  refine ⟨by kernel_rfl, kC2, ⟨av_vj _ (hR' Rn hRn).2.2.2, av_vj _ (hS' Sn hSn).2.2.2⟩, rm25 (by omega) (by omega), fun Cn hCn => ?_⟩
  refine ⟨by unfold inI64; omega, ⟨i + 1, lR' + 1, Rn, padded (List.take (lR' * 2) cR' ++ xpR) (Rn * 2), lS' + 1, Sn, padded (List.take (lS' * 50) cS' ++ xpS) (Sn * 50), lC' + 1, Cn, padded (List.take (lC' * 6) cC' ++ xpC) (Cn * 6)⟩, ⟨by simp only; omega, hR' Rn hRn, hS' Sn hSn, hC' Cn hCn⟩, by simp only; omega, ?_⟩
  simp only [RG0, RG1, Nat.reduceAdd, ltL, PV.lt, Blk.lt, Nat.reduceLT, Nat.reduceLeDiff, Wk_rfl, ltL_vI, wk_sl, rowX_s, xpR, xpS, xpC]
  omega
 have hil' : ¬ (i : Int) < 9 := by omega
 simp -implicitDefEqProofs (maxSteps := 2000000) only [R0, R1, R2, R3, R4, R5, R6, R7, R8, R9, R10, R11, R12, R13, R14, R15, R16, PV.strip, stripL, PV.noref, ri, feedL, feeds, Nat.reduceBEq, Array.toList, ↓reduceIte, forall_const, implies_true, Nat.reduceEqDiff, reduceCtorEq, alP, bxP, bsP, ifP, quiet, riD, bs_l, PV.isRef, plainCell, norefL, PV.scalar, scalarL, PV.cells, PV.solid, PV.one, PV.free, freeL, fillP, splice, Nat.reduceAdd, Nat.reduceMul, Nat.reduceSub, Nat.reduceLeDiff, Nat.reduceLT, Int.reduceToNat, Int.reduceEq, Int.reduceLT, Int.reduceLE, Int.reduceNeg, E0_vc, vaN, PV.avoid, avoidL, Nat.reduceGT, W11, retV_z, rgA, rg1, zr50, strip_vI, free_vI, len48, hl48, PV.cells, Blk.avoid, List.flatMap_cons, List.flatMap_nil, Int.toNat_natCast, List.length_map, List.append_nil, aR, aS, aC, hil', RB0]
 exact hK _
def spT011 : PT := fun args M K => ∃ (n : ByteArray) (q : Int) (oR : Bool) (lS pS : Nat) (cS : List PV) (lC pC : Nat) (cC : List PV), args = [.agg [vS n, vI q, .sl 0 [] oR, .rs 50 0 0 lS pS, .rs 6 1 0 lC pC]] ∧ M = [.live cS, .live cC] ∧ RoomS 50 200000000 lS pS cS ∧ RoomS 6 200000000 lC pC cC ∧ ∀ B, K (.tuple []) B
theorem sp011_ok : SoundX Try.prog G0 11 spT011 := by
 refine fn_X [62, 66] D50_ok mixed true Try.func11 (by decide) rfl ?_
 rintro args M K ⟨n, q, oR, lS, pS, cS, lC, pC, cC, rfl, rfl, hS, hC, hK⟩
 simp only [awpBFnX, Try.ntmps11, List.length_cons, List.length_nil, Nat.reduceAdd, Nat.reduceSub, List.replicate_succ, List.replicate_zero, List.cons_append, List.nil_append, List.map_cons, List.map_nil]
 simp -implicitDefEqProofs (maxSteps := 2000000) only [R0, R1, R2, R3, R4, R5, R6, R7, R8, R9, R10, R11, R12, R13, R14, R15, R16, PV.strip, stripL, PV.noref, ri, feedL, feeds, Nat.reduceBEq, Array.toList, ↓reduceIte, forall_const, implies_true, Nat.reduceEqDiff, reduceCtorEq, alP, bxP, bsP, ifP, quiet, riD, bs_l, PV.isRef, plainCell, norefL, PV.scalar, scalarL, PV.cells, PV.solid, PV.one, PV.free, freeL, fillP, splice, Nat.reduceAdd, Nat.reduceMul, Nat.reduceSub, Nat.reduceLeDiff, Nat.reduceLT, Int.reduceToNat, Int.reduceEq, Int.reduceLT, Int.reduceLE, Int.reduceNeg, E0_vc, vaN, PV.avoid, avoidL, Nat.reduceGT, W11, retV_z, RB0]
 refine loopB_by (fun x : Unit => [.junk, .ptr 2 0, vI 0, .junk, .junk, .junk, .junk, .junk, .junk, .junk, .junk, .junk, .junk, .junk, .junk, .junk, .junk, .junk, .junk, .junk, .junk, .junk, .junk, .junk, .junk, .junk, .junk, .junk, .junk, .junk, .junk, .junk, .junk, .junk, .junk, .junk, .junk, .junk, .junk, .junk, .junk, .junk, .junk, .junk, .junk, .junk, .junk, .junk, .junk, .junk, .junk, .junk, .junk, .junk, .junk, .junk, .junk, .junk, .junk, .junk, .junk, .junk, .junk, .junk, .junk, .junk, .junk]) (fun x => [.live cS, .live cC, .live [vS n, vI q, .sl 0 [] oR, .rs 50 0 0 lS pS, .rs 6 1 0 lC pC]]) (fun x => True) (fun x => 0) () ?_ ?_ ?_
 ·simp only [RG0, RG1, Nat.reduceAdd, ltL, PV.lt, Blk.lt, Nat.reduceLT, Nat.reduceLeDiff, Wk_rfl, ltL_vI, wk_sl] <;> rfl
 ·trivial
 intro x hP
 simp -implicitDefEqProofs (maxSteps := 2000000) only [R0, R1, R2, R3, R4, R5, R6, R7, R8, R9, R10, R11, R12, R13, R14, R15, R16, PV.strip, stripL, PV.noref, ri, feedL, feeds, Nat.reduceBEq, Array.toList, ↓reduceIte, forall_const, implies_true, Nat.reduceEqDiff, reduceCtorEq, alP, bxP, bsP, ifP, quiet, riD, bs_l, PV.isRef, plainCell, norefL, PV.scalar, scalarL, PV.cells, PV.solid, PV.one, PV.free, freeL, fillP, splice, Nat.reduceAdd, Nat.reduceMul, Nat.reduceSub, Nat.reduceLeDiff, Nat.reduceLT, Int.reduceToNat, Int.reduceEq, Int.reduceLT, Int.reduceLE, Int.reduceNeg, E0_vc, vaN, PV.avoid, avoidL, Nat.reduceGT, W11, retV_z, rgA, rg1, zr50, strip_vI, free_vI, len48, hl48, PV.cells, Blk.avoid, List.flatMap_cons, List.flatMap_nil, Int.toNat_natCast, List.length_map, List.append_nil, RB0]
 refine loopB_by (fun x : Nat × List PV => [.junk, .ptr 2 0, .junk, vI x.1, .junk, .junk, .junk, .junk, .junk, .junk, .junk, .junk, .junk, .junk, .junk, .junk, .junk, .junk, .junk, .junk, .junk, .junk, .junk, .junk, .junk, .junk, .junk, .junk, .junk, .junk, .junk, .junk, .junk, .junk, .junk, .junk, .junk, .junk, .junk, .junk, .junk, .junk, .junk, .junk, .junk, .junk, .junk, .junk, .junk, .junk, .junk, .junk, .junk, .junk, .junk, .junk, .junk, .junk, .junk, .junk, .junk, .junk, .junk, .junk, .junk, .junk, .junk]) (fun x => [.live x.2, .live cC, .live [vS n, vI q, .sl 0 [] oR, .rs 50 0 0 lS pS, .rs 6 1 0 lC pC]]) (fun x => x.1 ≤ lS ∧ RoomS 50 200000000 lS pS x.2) (fun x => lS - x.1) ⟨0, cS⟩ ?_ ?_ ?_
 ·simp only [RG0, RG1, Nat.reduceAdd, ltL, PV.lt, Blk.lt, Nat.reduceLT, Nat.reduceLeDiff, Wk_rfl, ltL_vI, wk_sl] <;> rfl
 ·exact ⟨Nat.zero_le _, hS⟩
 intro x hP
 obtain ⟨i, zS⟩ := x
 have hi' := hP.1
 have hzS : RoomS 50 200000000 lS pS zS := hP.2
 have r1 := hzS.1
 have r2 := hzS.2.1
 have r3 := hzS.2.2.1
 by_cases hil : i < lS
 ·have hil' : (i : Int) < lS := by omega
  simp -implicitDefEqProofs (maxSteps := 2000000) only [R0, R1, R2, R3, R4, R5, R6, R7, R8, R9, R10, R11, R12, R13, R14, R15, R16, PV.strip, stripL, PV.noref, ri, feedL, feeds, Nat.reduceBEq, Array.toList, ↓reduceIte, forall_const, implies_true, Nat.reduceEqDiff, reduceCtorEq, alP, bxP, bsP, ifP, quiet, riD, bs_l, PV.isRef, plainCell, norefL, PV.scalar, scalarL, PV.cells, PV.solid, PV.one, PV.free, freeL, fillP, splice, Nat.reduceAdd, Nat.reduceMul, Nat.reduceSub, Nat.reduceLeDiff, Nat.reduceLT, Int.reduceToNat, Int.reduceEq, Int.reduceLT, Int.reduceLE, Int.reduceNeg, E0_vc, vaN, PV.avoid, avoidL, Nat.reduceGT, W11, retV_z, rgA, rg1, zr50, strip_vI, free_vI, len48, hl48, PV.cells, Blk.avoid, List.flatMap_cons, List.flatMap_nil, Int.toNat_natCast, List.length_map, List.append_nil, hil', RB0]
  refine ⟨by omega, by omega, by unfold inI64; omega, ⟨i + 1, _⟩, ⟨by simp only; omega, room_set hzS (i * 50) (by omega) (.int .i64 (-9))⟩, by simp only; omega, ?_⟩
  simp only [RG0, RG1, Nat.reduceAdd, ltL, PV.lt, Blk.lt, Nat.reduceLT, Nat.reduceLeDiff, Wk_rfl, ltL_vI, wk_sl] <;> omega
 have hil' : ¬ (i : Int) < lS := by omega
 simp -implicitDefEqProofs (maxSteps := 2000000) only [R0, R1, R2, R3, R4, R5, R6, R7, R8, R9, R10, R11, R12, R13, R14, R15, R16, PV.strip, stripL, PV.noref, ri, feedL, feeds, Nat.reduceBEq, Array.toList, ↓reduceIte, forall_const, implies_true, Nat.reduceEqDiff, reduceCtorEq, alP, bxP, bsP, ifP, quiet, riD, bs_l, PV.isRef, plainCell, norefL, PV.scalar, scalarL, PV.cells, PV.solid, PV.one, PV.free, freeL, fillP, splice, Nat.reduceAdd, Nat.reduceMul, Nat.reduceSub, Nat.reduceLeDiff, Nat.reduceLT, Int.reduceToNat, Int.reduceEq, Int.reduceLT, Int.reduceLE, Int.reduceNeg, E0_vc, vaN, PV.avoid, avoidL, Nat.reduceGT, W11, retV_z, rgA, rg1, zr50, strip_vI, free_vI, len48, hl48, PV.cells, Blk.avoid, List.flatMap_cons, List.flatMap_nil, Int.toNat_natCast, List.length_map, List.append_nil, hil', RB0]
 refine loopB_by (fun x : Nat × List PV => [.junk, .ptr 2 0, .junk, .junk, vI x.1, .junk, .junk, .junk, .junk, .junk, .junk, .junk, .junk, .junk, .junk, .junk, .junk, .junk, .junk, .junk, .junk, .junk, .junk, .junk, .junk, .junk, .junk, .junk, .junk, .junk, .junk, .junk, .junk, .junk, .junk, .junk, .junk, .junk, .junk, .junk, .junk, .junk, .junk, .junk, .junk, .junk, .junk, .junk, .junk, .junk, .junk, .junk, .junk, .junk, .junk, .junk, .junk, .junk, .junk, .junk, .junk, .junk, .junk, .junk, .junk, .junk, .junk]) (fun x => [.live zS, .live x.2, .live [vS n, vI q, .sl 0 [] oR, .rs 50 0 0 lS pS, .rs 6 1 0 lC pC]]) (fun x => x.1 ≤ lC ∧ RoomS 6 200000000 lC pC x.2) (fun x => lC - x.1) ⟨0, cC⟩ ?_ ?_ ?_
 ·simp only [RG0, RG1, Nat.reduceAdd, ltL, PV.lt, Blk.lt, Nat.reduceLT, Nat.reduceLeDiff, Wk_rfl, ltL_vI, wk_sl] <;> rfl
 ·exact ⟨Nat.zero_le _, hC⟩
 intro x hP
 obtain ⟨i, zC⟩ := x
 have hi' := hP.1
 have hzC : RoomS 6 200000000 lC pC zC := hP.2
 have r1 := hzC.1
 have r2 := hzC.2.1
 have r3 := hzC.2.2.1
 by_cases hil : i < lC
 ·have hil' : (i : Int) < lC := by omega
  simp -implicitDefEqProofs (maxSteps := 2000000) only [R0, R1, R2, R3, R4, R5, R6, R7, R8, R9, R10, R11, R12, R13, R14, R15, R16, PV.strip, stripL, PV.noref, ri, feedL, feeds, Nat.reduceBEq, Array.toList, ↓reduceIte, forall_const, implies_true, Nat.reduceEqDiff, reduceCtorEq, alP, bxP, bsP, ifP, quiet, riD, bs_l, PV.isRef, plainCell, norefL, PV.scalar, scalarL, PV.cells, PV.solid, PV.one, PV.free, freeL, fillP, splice, Nat.reduceAdd, Nat.reduceMul, Nat.reduceSub, Nat.reduceLeDiff, Nat.reduceLT, Int.reduceToNat, Int.reduceEq, Int.reduceLT, Int.reduceLE, Int.reduceNeg, E0_vc, vaN, PV.avoid, avoidL, Nat.reduceGT, W11, retV_z, rgA, rg1, zr50, strip_vI, free_vI, len48, hl48, PV.cells, Blk.avoid, List.flatMap_cons, List.flatMap_nil, Int.toNat_natCast, List.length_map, List.append_nil, hil', RB0]
  refine ⟨by omega, by omega, by unfold inI64; omega, ⟨i + 1, _⟩, ⟨by simp only; omega, room_set hzC (i * 6) (by omega) (.int .i64 (-9))⟩, by simp only; omega, ?_⟩
  simp only [RG0, RG1, Nat.reduceAdd, ltL, PV.lt, Blk.lt, Nat.reduceLT, Nat.reduceLeDiff, Wk_rfl, ltL_vI, wk_sl] <;> omega
 have hil' : ¬ (i : Int) < lC := by omega
 simp -implicitDefEqProofs (maxSteps := 2000000) only [R0, R1, R2, R3, R4, R5, R6, R7, R8, R9, R10, R11, R12, R13, R14, R15, R16, PV.strip, stripL, PV.noref, ri, feedL, feeds, Nat.reduceBEq, Array.toList, ↓reduceIte, forall_const, implies_true, Nat.reduceEqDiff, reduceCtorEq, alP, bxP, bsP, ifP, quiet, riD, bs_l, PV.isRef, plainCell, norefL, PV.scalar, scalarL, PV.cells, PV.solid, PV.one, PV.free, freeL, fillP, splice, Nat.reduceAdd, Nat.reduceMul, Nat.reduceSub, Nat.reduceLeDiff, Nat.reduceLT, Int.reduceToNat, Int.reduceEq, Int.reduceLT, Int.reduceLE, Int.reduceNeg, E0_vc, vaN, PV.avoid, avoidL, Nat.reduceGT, W11, retV_z, rgA, rg1, zr50, strip_vI, free_vI, len48, hl48, PV.cells, Blk.avoid, List.flatMap_cons, List.flatMap_nil, Int.toNat_natCast, List.length_map, List.append_nil, hil', RB0]
 refine loopB_by (fun x : SpS => [.junk, .junk, .junk, .junk, .junk, rowX 2 oR x.cR, .rs 50 0 0 x.lS x.pS, .rs 6 1 0 x.lC x.pC, vI x.i, .junk, .junk, .junk, .junk, .junk, .junk, .junk, .junk, .junk, .junk, .junk, .junk, .junk, .junk, .junk, .junk, .junk, .junk, .junk, .junk, .junk, .junk, .junk, .junk, .junk, .junk, .junk, .junk, .junk, .junk, .junk, .junk, .junk, .junk, .junk, .junk, .junk, .junk, .junk, .junk, .junk, .junk, .junk, .junk, .junk, .junk, .junk, .junk, .junk, .junk, .junk, .junk, .junk, .junk, .junk, .junk, .junk, .junk]) (fun x => [.live x.cS, .live x.cC]) (fun x => x.i ≤ 9 ∧ x.cR.length = x.i ∧ RoomS 50 (200000000 + x.i) x.lS x.pS x.cS ∧ RoomS 6 (200000000 + x.i) x.lC x.pC x.cC) (fun x => 9 - x.i) ⟨0, 0, 0, [], lS, pS, zS, lC, pC, zC⟩ ?_ ?_ ?_
 ·simp only [RG0, RG1, Nat.reduceAdd, ltL, PV.lt, Blk.lt, Nat.reduceLT, Nat.reduceLeDiff, Wk_rfl, ltL_vI, wk_sl, rowX_0, lt_vj _ hzS.2.2.2, lt_vj _ hzC.2.2.2]
 ·exact ⟨Nat.zero_le _, rfl, hzS, hzC⟩
 intro x hP
 obtain ⟨i, lR', pR', cR', lS', pS', cS', lC', pC', cC'⟩ := x
 have hi' : i ≤ 9 := hP.1
 have gR : cR'.length = i := hP.2.1
 obtain ⟨jR, bR, eR, fR⟩ := rowX_eq 2 oR cR'
 have gS : RoomS 50 (200000000 + i) lS' pS' cS' := hP.2.2.1
 have kS1 := gS.1
 have kS2 := gS.2.1
 have kS3 := gS.2.2.1
 have aS := fun b => av_vj b gS.2.2.2
 have gC : RoomS 6 (200000000 + i) lC' pC' cC' := hP.2.2.2
 have kC1 := gC.1
 have kC2 := gC.2.1
 have kC3 := gC.2.2.1
 have aC := fun b => av_vj b gC.2.2.2
 by_cases hil : i < 9
 ·have hil' : (i : Int) < 9 := by omega
  simp -implicitDefEqProofs (maxSteps := 2000000) only [R0, R1, R2, R3, R4, R5, R6, R7, R8, R9, R10, R11, R12, R13, R14, R15, R16, PV.strip, stripL, PV.noref, ri, feedL, feeds, Nat.reduceBEq, Array.toList, ↓reduceIte, forall_const, implies_true, Nat.reduceEqDiff, reduceCtorEq, alP, bxP, bsP, ifP, quiet, riD, bs_l, PV.isRef, plainCell, norefL, PV.scalar, scalarL, PV.cells, PV.solid, PV.one, PV.free, freeL, fillP, splice, Nat.reduceAdd, Nat.reduceMul, Nat.reduceSub, Nat.reduceLeDiff, Nat.reduceLT, Int.reduceToNat, Int.reduceEq, Int.reduceLT, Int.reduceLE, Int.reduceNeg, E0_vc, vaN, PV.avoid, avoidL, Nat.reduceGT, W11, retV_z, rgA, rg1, zr50, strip_vI, free_vI, len48, hl48, PV.cells, Blk.avoid, List.flatMap_cons, List.flatMap_nil, Int.toNat_natCast, List.length_map, List.append_nil, eR, aS, aC, hil', RB0]
  refine ⟨fR, rm25 (by omega) (by omega), ?_⟩
  have hS' := fun c hc => room_app (c' := c) gS xpS_v hc
  refine ⟨by kernel_rfl, kS2, rm25 (by omega) (by omega), fun Sn hSn => ?_⟩
  have hC' := fun c hc => room_app (c' := c) gC xpC_v hc
  refine ⟨by kernel_rfl, kC2, av_vj _ (hS' Sn hSn).2.2.2, rm25 (by omega) (by omega), fun Cn hCn => ?_⟩
  refine ⟨by unfold inI64; omega, ⟨i + 1, 0, 0, cR' ++ [PV.agg xpR], lS' + 1, Sn, padded (List.take (lS' * 50) cS' ++ xpS) (Sn * 50), lC' + 1, Cn, padded (List.take (lC' * 6) cC' ++ xpC) (Cn * 6)⟩, ⟨by simp only; omega, (by rw [List.length_append, gR]; rfl : (cR' ++ [PV.agg xpR]).length = i + 1), hS' Sn hSn, hC' Cn hCn⟩, by simp only; omega, ?_⟩
  simp only [RG0, RG1, Nat.reduceAdd, ltL, PV.lt, Blk.lt, Nat.reduceLT, Nat.reduceLeDiff, Wk_rfl, ltL_vI, wk_sl, rowX_s, xpR, xpS, xpC]
  omega
 have hil' : ¬ (i : Int) < 9 := by omega
 simp -implicitDefEqProofs (maxSteps := 2000000) only [R0, R1, R2, R3, R4, R5, R6, R7, R8, R9, R10, R11, R12, R13, R14, R15, R16, PV.strip, stripL, PV.noref, ri, feedL, feeds, Nat.reduceBEq, Array.toList, ↓reduceIte, forall_const, implies_true, Nat.reduceEqDiff, reduceCtorEq, alP, bxP, bsP, ifP, quiet, riD, bs_l, PV.isRef, plainCell, norefL, PV.scalar, scalarL, PV.cells, PV.solid, PV.one, PV.free, freeL, fillP, splice, Nat.reduceAdd, Nat.reduceMul, Nat.reduceSub, Nat.reduceLeDiff, Nat.reduceLT, Int.reduceToNat, Int.reduceEq, Int.reduceLT, Int.reduceLE, Int.reduceNeg, E0_vc, vaN, PV.avoid, avoidL, Nat.reduceGT, W11, retV_z, rgA, rg1, zr50, strip_vI, free_vI, len48, hl48, PV.cells, Blk.avoid, List.flatMap_cons, List.flatMap_nil, Int.toNat_natCast, List.length_map, List.append_nil, eR, aS, aC, hil', RB0]
 exact hK _
def spT101 : PT := fun args M K => ∃ (n : ByteArray) (q : Int) (lR pR : Nat) (cR : List PV) (oS : Bool) (lC pC : Nat) (cC : List PV), args = [.agg [vS n, vI q, .rs 2 0 0 lR pR, .sl 0 [] oS, .rs 6 1 0 lC pC]] ∧ M = [.live cR, .live cC] ∧ RoomS 2 200000000 lR pR cR ∧ RoomS 6 200000000 lC pC cC ∧ ∀ B, K (.tuple []) B
theorem sp101_ok : SoundX Try.prog G0 11 spT101 := by
 refine fn_X [58, 66] D50_ok mixed true Try.func11 (by decide) rfl ?_
 rintro args M K ⟨n, q, lR, pR, cR, oS, lC, pC, cC, rfl, rfl, hR, hC, hK⟩
 simp only [awpBFnX, Try.ntmps11, List.length_cons, List.length_nil, Nat.reduceAdd, Nat.reduceSub, List.replicate_succ, List.replicate_zero, List.cons_append, List.nil_append, List.map_cons, List.map_nil]
 simp -implicitDefEqProofs (maxSteps := 2000000) only [R0, R1, R2, R3, R4, R5, R6, R7, R8, R9, R10, R11, R12, R13, R14, R15, R16, PV.strip, stripL, PV.noref, ri, feedL, feeds, Nat.reduceBEq, Array.toList, ↓reduceIte, forall_const, implies_true, Nat.reduceEqDiff, reduceCtorEq, alP, bxP, bsP, ifP, quiet, riD, bs_l, PV.isRef, plainCell, norefL, PV.scalar, scalarL, PV.cells, PV.solid, PV.one, PV.free, freeL, fillP, splice, Nat.reduceAdd, Nat.reduceMul, Nat.reduceSub, Nat.reduceLeDiff, Nat.reduceLT, Int.reduceToNat, Int.reduceEq, Int.reduceLT, Int.reduceLE, Int.reduceNeg, E0_vc, vaN, PV.avoid, avoidL, Nat.reduceGT, W11, retV_z, RB0]
 refine loopB_by (fun x : Nat × List PV => [.junk, .ptr 2 0, vI x.1, .junk, .junk, .junk, .junk, .junk, .junk, .junk, .junk, .junk, .junk, .junk, .junk, .junk, .junk, .junk, .junk, .junk, .junk, .junk, .junk, .junk, .junk, .junk, .junk, .junk, .junk, .junk, .junk, .junk, .junk, .junk, .junk, .junk, .junk, .junk, .junk, .junk, .junk, .junk, .junk, .junk, .junk, .junk, .junk, .junk, .junk, .junk, .junk, .junk, .junk, .junk, .junk, .junk, .junk, .junk, .junk, .junk, .junk, .junk, .junk, .junk, .junk, .junk, .junk]) (fun x => [.live x.2, .live cC, .live [vS n, vI q, .rs 2 0 0 lR pR, .sl 0 [] oS, .rs 6 1 0 lC pC]]) (fun x => x.1 ≤ lR ∧ RoomS 2 200000000 lR pR x.2) (fun x => lR - x.1) ⟨0, cR⟩ ?_ ?_ ?_
 ·simp only [RG0, RG1, Nat.reduceAdd, ltL, PV.lt, Blk.lt, Nat.reduceLT, Nat.reduceLeDiff, Wk_rfl, ltL_vI, wk_sl] <;> rfl
 ·exact ⟨Nat.zero_le _, hR⟩
 intro x hP
 obtain ⟨i, zR⟩ := x
 have hi' := hP.1
 have hzR : RoomS 2 200000000 lR pR zR := hP.2
 have r1 := hzR.1
 have r2 := hzR.2.1
 have r3 := hzR.2.2.1
 by_cases hil : i < lR
 ·have hil' : (i : Int) < lR := by omega
  simp -implicitDefEqProofs (maxSteps := 2000000) only [R0, R1, R2, R3, R4, R5, R6, R7, R8, R9, R10, R11, R12, R13, R14, R15, R16, PV.strip, stripL, PV.noref, ri, feedL, feeds, Nat.reduceBEq, Array.toList, ↓reduceIte, forall_const, implies_true, Nat.reduceEqDiff, reduceCtorEq, alP, bxP, bsP, ifP, quiet, riD, bs_l, PV.isRef, plainCell, norefL, PV.scalar, scalarL, PV.cells, PV.solid, PV.one, PV.free, freeL, fillP, splice, Nat.reduceAdd, Nat.reduceMul, Nat.reduceSub, Nat.reduceLeDiff, Nat.reduceLT, Int.reduceToNat, Int.reduceEq, Int.reduceLT, Int.reduceLE, Int.reduceNeg, E0_vc, vaN, PV.avoid, avoidL, Nat.reduceGT, W11, retV_z, rgA, rg1, zr50, strip_vI, free_vI, len48, hl48, PV.cells, Blk.avoid, List.flatMap_cons, List.flatMap_nil, Int.toNat_natCast, List.length_map, List.append_nil, hil', RB0]
  refine ⟨by omega, by omega, by unfold inI64; omega, ⟨i + 1, _⟩, ⟨by simp only; omega, room_set hzR (i * 2) (by omega) (.int .i64 (-9))⟩, by simp only; omega, ?_⟩
  simp only [RG0, RG1, Nat.reduceAdd, ltL, PV.lt, Blk.lt, Nat.reduceLT, Nat.reduceLeDiff, Wk_rfl, ltL_vI, wk_sl] <;> omega
 have hil' : ¬ (i : Int) < lR := by omega
 simp -implicitDefEqProofs (maxSteps := 2000000) only [R0, R1, R2, R3, R4, R5, R6, R7, R8, R9, R10, R11, R12, R13, R14, R15, R16, PV.strip, stripL, PV.noref, ri, feedL, feeds, Nat.reduceBEq, Array.toList, ↓reduceIte, forall_const, implies_true, Nat.reduceEqDiff, reduceCtorEq, alP, bxP, bsP, ifP, quiet, riD, bs_l, PV.isRef, plainCell, norefL, PV.scalar, scalarL, PV.cells, PV.solid, PV.one, PV.free, freeL, fillP, splice, Nat.reduceAdd, Nat.reduceMul, Nat.reduceSub, Nat.reduceLeDiff, Nat.reduceLT, Int.reduceToNat, Int.reduceEq, Int.reduceLT, Int.reduceLE, Int.reduceNeg, E0_vc, vaN, PV.avoid, avoidL, Nat.reduceGT, W11, retV_z, rgA, rg1, zr50, strip_vI, free_vI, len48, hl48, PV.cells, Blk.avoid, List.flatMap_cons, List.flatMap_nil, Int.toNat_natCast, List.length_map, List.append_nil, hil', RB0]
 refine loopB_by (fun x : Unit => [.junk, .ptr 2 0, .junk, vI 0, .junk, .junk, .junk, .junk, .junk, .junk, .junk, .junk, .junk, .junk, .junk, .junk, .junk, .junk, .junk, .junk, .junk, .junk, .junk, .junk, .junk, .junk, .junk, .junk, .junk, .junk, .junk, .junk, .junk, .junk, .junk, .junk, .junk, .junk, .junk, .junk, .junk, .junk, .junk, .junk, .junk, .junk, .junk, .junk, .junk, .junk, .junk, .junk, .junk, .junk, .junk, .junk, .junk, .junk, .junk, .junk, .junk, .junk, .junk, .junk, .junk, .junk, .junk]) (fun x => [.live zR, .live cC, .live [vS n, vI q, .rs 2 0 0 lR pR, .sl 0 [] oS, .rs 6 1 0 lC pC]]) (fun x => True) (fun x => 0) () ?_ ?_ ?_
 ·simp only [RG0, RG1, Nat.reduceAdd, ltL, PV.lt, Blk.lt, Nat.reduceLT, Nat.reduceLeDiff, Wk_rfl, ltL_vI, wk_sl] <;> rfl
 ·trivial
 intro x hP
 simp -implicitDefEqProofs (maxSteps := 2000000) only [R0, R1, R2, R3, R4, R5, R6, R7, R8, R9, R10, R11, R12, R13, R14, R15, R16, PV.strip, stripL, PV.noref, ri, feedL, feeds, Nat.reduceBEq, Array.toList, ↓reduceIte, forall_const, implies_true, Nat.reduceEqDiff, reduceCtorEq, alP, bxP, bsP, ifP, quiet, riD, bs_l, PV.isRef, plainCell, norefL, PV.scalar, scalarL, PV.cells, PV.solid, PV.one, PV.free, freeL, fillP, splice, Nat.reduceAdd, Nat.reduceMul, Nat.reduceSub, Nat.reduceLeDiff, Nat.reduceLT, Int.reduceToNat, Int.reduceEq, Int.reduceLT, Int.reduceLE, Int.reduceNeg, E0_vc, vaN, PV.avoid, avoidL, Nat.reduceGT, W11, retV_z, rgA, rg1, zr50, strip_vI, free_vI, len48, hl48, PV.cells, Blk.avoid, List.flatMap_cons, List.flatMap_nil, Int.toNat_natCast, List.length_map, List.append_nil, RB0]
 refine loopB_by (fun x : Nat × List PV => [.junk, .ptr 2 0, .junk, .junk, vI x.1, .junk, .junk, .junk, .junk, .junk, .junk, .junk, .junk, .junk, .junk, .junk, .junk, .junk, .junk, .junk, .junk, .junk, .junk, .junk, .junk, .junk, .junk, .junk, .junk, .junk, .junk, .junk, .junk, .junk, .junk, .junk, .junk, .junk, .junk, .junk, .junk, .junk, .junk, .junk, .junk, .junk, .junk, .junk, .junk, .junk, .junk, .junk, .junk, .junk, .junk, .junk, .junk, .junk, .junk, .junk, .junk, .junk, .junk, .junk, .junk, .junk, .junk]) (fun x => [.live zR, .live x.2, .live [vS n, vI q, .rs 2 0 0 lR pR, .sl 0 [] oS, .rs 6 1 0 lC pC]]) (fun x => x.1 ≤ lC ∧ RoomS 6 200000000 lC pC x.2) (fun x => lC - x.1) ⟨0, cC⟩ ?_ ?_ ?_
 ·simp only [RG0, RG1, Nat.reduceAdd, ltL, PV.lt, Blk.lt, Nat.reduceLT, Nat.reduceLeDiff, Wk_rfl, ltL_vI, wk_sl] <;> rfl
 ·exact ⟨Nat.zero_le _, hC⟩
 intro x hP
 obtain ⟨i, zC⟩ := x
 have hi' := hP.1
 have hzC : RoomS 6 200000000 lC pC zC := hP.2
 have r1 := hzC.1
 have r2 := hzC.2.1
 have r3 := hzC.2.2.1
 by_cases hil : i < lC
 ·have hil' : (i : Int) < lC := by omega
  simp -implicitDefEqProofs (maxSteps := 2000000) only [R0, R1, R2, R3, R4, R5, R6, R7, R8, R9, R10, R11, R12, R13, R14, R15, R16, PV.strip, stripL, PV.noref, ri, feedL, feeds, Nat.reduceBEq, Array.toList, ↓reduceIte, forall_const, implies_true, Nat.reduceEqDiff, reduceCtorEq, alP, bxP, bsP, ifP, quiet, riD, bs_l, PV.isRef, plainCell, norefL, PV.scalar, scalarL, PV.cells, PV.solid, PV.one, PV.free, freeL, fillP, splice, Nat.reduceAdd, Nat.reduceMul, Nat.reduceSub, Nat.reduceLeDiff, Nat.reduceLT, Int.reduceToNat, Int.reduceEq, Int.reduceLT, Int.reduceLE, Int.reduceNeg, E0_vc, vaN, PV.avoid, avoidL, Nat.reduceGT, W11, retV_z, rgA, rg1, zr50, strip_vI, free_vI, len48, hl48, PV.cells, Blk.avoid, List.flatMap_cons, List.flatMap_nil, Int.toNat_natCast, List.length_map, List.append_nil, hil', RB0]
  refine ⟨by omega, by omega, by unfold inI64; omega, ⟨i + 1, _⟩, ⟨by simp only; omega, room_set hzC (i * 6) (by omega) (.int .i64 (-9))⟩, by simp only; omega, ?_⟩
  simp only [RG0, RG1, Nat.reduceAdd, ltL, PV.lt, Blk.lt, Nat.reduceLT, Nat.reduceLeDiff, Wk_rfl, ltL_vI, wk_sl] <;> omega
 have hil' : ¬ (i : Int) < lC := by omega
 simp -implicitDefEqProofs (maxSteps := 2000000) only [R0, R1, R2, R3, R4, R5, R6, R7, R8, R9, R10, R11, R12, R13, R14, R15, R16, PV.strip, stripL, PV.noref, ri, feedL, feeds, Nat.reduceBEq, Array.toList, ↓reduceIte, forall_const, implies_true, Nat.reduceEqDiff, reduceCtorEq, alP, bxP, bsP, ifP, quiet, riD, bs_l, PV.isRef, plainCell, norefL, PV.scalar, scalarL, PV.cells, PV.solid, PV.one, PV.free, freeL, fillP, splice, Nat.reduceAdd, Nat.reduceMul, Nat.reduceSub, Nat.reduceLeDiff, Nat.reduceLT, Int.reduceToNat, Int.reduceEq, Int.reduceLT, Int.reduceLE, Int.reduceNeg, E0_vc, vaN, PV.avoid, avoidL, Nat.reduceGT, W11, retV_z, rgA, rg1, zr50, strip_vI, free_vI, len48, hl48, PV.cells, Blk.avoid, List.flatMap_cons, List.flatMap_nil, Int.toNat_natCast, List.length_map, List.append_nil, hil', RB0]
 refine loopB_by (fun x : SpS => [.junk, .junk, .junk, .junk, .junk, .rs 2 0 0 x.lR x.pR, rowX 50 oS x.cS, .rs 6 1 0 x.lC x.pC, vI x.i, .junk, .junk, .junk, .junk, .junk, .junk, .junk, .junk, .junk, .junk, .junk, .junk, .junk, .junk, .junk, .junk, .junk, .junk, .junk, .junk, .junk, .junk, .junk, .junk, .junk, .junk, .junk, .junk, .junk, .junk, .junk, .junk, .junk, .junk, .junk, .junk, .junk, .junk, .junk, .junk, .junk, .junk, .junk, .junk, .junk, .junk, .junk, .junk, .junk, .junk, .junk, .junk, .junk, .junk, .junk, .junk, .junk, .junk]) (fun x => [.live x.cR, .live x.cC]) (fun x => x.i ≤ 9 ∧ RoomS 2 (200000000 + x.i) x.lR x.pR x.cR ∧ x.cS.length = x.i ∧ RoomS 6 (200000000 + x.i) x.lC x.pC x.cC) (fun x => 9 - x.i) ⟨0, lR, pR, zR, 0, 0, [], lC, pC, zC⟩ ?_ ?_ ?_
 ·simp only [RG0, RG1, Nat.reduceAdd, ltL, PV.lt, Blk.lt, Nat.reduceLT, Nat.reduceLeDiff, Wk_rfl, ltL_vI, wk_sl, rowX_0, lt_vj _ hzR.2.2.2, lt_vj _ hzC.2.2.2]
 ·exact ⟨Nat.zero_le _, hzR, rfl, hzC⟩
 intro x hP
 obtain ⟨i, lR', pR', cR', lS', pS', cS', lC', pC', cC'⟩ := x
 have hi' : i ≤ 9 := hP.1
 have gR : RoomS 2 (200000000 + i) lR' pR' cR' := hP.2.1
 have kR1 := gR.1
 have kR2 := gR.2.1
 have kR3 := gR.2.2.1
 have aR := fun b => av_vj b gR.2.2.2
 have gS : cS'.length = i := hP.2.2.1
 obtain ⟨jS, bS, eS, fS⟩ := rowX_eq 50 oS cS'
 have gC : RoomS 6 (200000000 + i) lC' pC' cC' := hP.2.2.2
 have kC1 := gC.1
 have kC2 := gC.2.1
 have kC3 := gC.2.2.1
 have aC := fun b => av_vj b gC.2.2.2
 by_cases hil : i < 9
 ·have hil' : (i : Int) < 9 := by omega
  simp -implicitDefEqProofs (maxSteps := 2000000) only [R0, R1, R2, R3, R4, R5, R6, R7, R8, R9, R10, R11, R12, R13, R14, R15, R16, PV.strip, stripL, PV.noref, ri, feedL, feeds, Nat.reduceBEq, Array.toList, ↓reduceIte, forall_const, implies_true, Nat.reduceEqDiff, reduceCtorEq, alP, bxP, bsP, ifP, quiet, riD, bs_l, PV.isRef, plainCell, norefL, PV.scalar, scalarL, PV.cells, PV.solid, PV.one, PV.free, freeL, fillP, splice, Nat.reduceAdd, Nat.reduceMul, Nat.reduceSub, Nat.reduceLeDiff, Nat.reduceLT, Int.reduceToNat, Int.reduceEq, Int.reduceLT, Int.reduceLE, Int.reduceNeg, E0_vc, vaN, PV.avoid, avoidL, Nat.reduceGT, W11, retV_z, rgA, rg1, zr50, strip_vI, free_vI, len48, hl48, PV.cells, Blk.avoid, List.flatMap_cons, List.flatMap_nil, Int.toNat_natCast, List.length_map, List.append_nil, aR, eS, aC, hil', RB0]
  have hR' := fun c hc => room_app (c' := c) gR xpR_v hc
  refine ⟨by kernel_rfl, kR2, rm25 (by omega) (by omega), fun Rn hRn => ?_⟩
  refine ⟨fS, rm25 (by omega) (by omega), ?_⟩
  have hC' := fun c hc => room_app (c' := c) gC xpC_v hc
  refine ⟨by kernel_rfl, kC2, av_vj _ (hR' Rn hRn).2.2.2, rm25 (by omega) (by omega), fun Cn hCn => ?_⟩
  refine ⟨by unfold inI64; omega, ⟨i + 1, lR' + 1, Rn, padded (List.take (lR' * 2) cR' ++ xpR) (Rn * 2), 0, 0, cS' ++ [PV.agg xpS], lC' + 1, Cn, padded (List.take (lC' * 6) cC' ++ xpC) (Cn * 6)⟩, ⟨by simp only; omega, hR' Rn hRn, (by rw [List.length_append, gS]; rfl : (cS' ++ [PV.agg xpS]).length = i + 1), hC' Cn hCn⟩, by simp only; omega, ?_⟩
  simp only [RG0, RG1, Nat.reduceAdd, ltL, PV.lt, Blk.lt, Nat.reduceLT, Nat.reduceLeDiff, Wk_rfl, ltL_vI, wk_sl, rowX_s, xpR, xpS, xpC]
  omega
 have hil' : ¬ (i : Int) < 9 := by omega
 simp -implicitDefEqProofs (maxSteps := 2000000) only [R0, R1, R2, R3, R4, R5, R6, R7, R8, R9, R10, R11, R12, R13, R14, R15, R16, PV.strip, stripL, PV.noref, ri, feedL, feeds, Nat.reduceBEq, Array.toList, ↓reduceIte, forall_const, implies_true, Nat.reduceEqDiff, reduceCtorEq, alP, bxP, bsP, ifP, quiet, riD, bs_l, PV.isRef, plainCell, norefL, PV.scalar, scalarL, PV.cells, PV.solid, PV.one, PV.free, freeL, fillP, splice, Nat.reduceAdd, Nat.reduceMul, Nat.reduceSub, Nat.reduceLeDiff, Nat.reduceLT, Int.reduceToNat, Int.reduceEq, Int.reduceLT, Int.reduceLE, Int.reduceNeg, E0_vc, vaN, PV.avoid, avoidL, Nat.reduceGT, W11, retV_z, rgA, rg1, zr50, strip_vI, free_vI, len48, hl48, PV.cells, Blk.avoid, List.flatMap_cons, List.flatMap_nil, Int.toNat_natCast, List.length_map, List.append_nil, aR, eS, aC, hil', RB0]
 exact hK _
def spT001 : PT := fun args M K => ∃ (n : ByteArray) (q : Int) (oR : Bool) (oS : Bool) (lC pC : Nat) (cC : List PV), args = [.agg [vS n, vI q, .sl 0 [] oR, .sl 0 [] oS, .rs 6 0 0 lC pC]] ∧ M = [.live cC] ∧ RoomS 6 200000000 lC pC cC ∧ ∀ B, K (.tuple []) B
theorem sp001_ok : SoundX Try.prog G0 11 spT001 := by
 refine fn_X [66] D50_ok mixed true Try.func11 (by decide) rfl ?_
 rintro args M K ⟨n, q, oR, oS, lC, pC, cC, rfl, rfl, hC, hK⟩
 simp only [awpBFnX, Try.ntmps11, List.length_cons, List.length_nil, Nat.reduceAdd, Nat.reduceSub, List.replicate_succ, List.replicate_zero, List.cons_append, List.nil_append, List.map_cons, List.map_nil]
 simp -implicitDefEqProofs (maxSteps := 2000000) only [R0, R1, R2, R3, R4, R5, R6, R7, R8, R9, R10, R11, R12, R13, R14, R15, R16, PV.strip, stripL, PV.noref, ri, feedL, feeds, Nat.reduceBEq, Array.toList, ↓reduceIte, forall_const, implies_true, Nat.reduceEqDiff, reduceCtorEq, alP, bxP, bsP, ifP, quiet, riD, bs_l, PV.isRef, plainCell, norefL, PV.scalar, scalarL, PV.cells, PV.solid, PV.one, PV.free, freeL, fillP, splice, Nat.reduceAdd, Nat.reduceMul, Nat.reduceSub, Nat.reduceLeDiff, Nat.reduceLT, Int.reduceToNat, Int.reduceEq, Int.reduceLT, Int.reduceLE, Int.reduceNeg, E0_vc, vaN, PV.avoid, avoidL, Nat.reduceGT, W11, retV_z, RB0]
 refine loopB_by (fun x : Unit => [.junk, .ptr 1 0, vI 0, .junk, .junk, .junk, .junk, .junk, .junk, .junk, .junk, .junk, .junk, .junk, .junk, .junk, .junk, .junk, .junk, .junk, .junk, .junk, .junk, .junk, .junk, .junk, .junk, .junk, .junk, .junk, .junk, .junk, .junk, .junk, .junk, .junk, .junk, .junk, .junk, .junk, .junk, .junk, .junk, .junk, .junk, .junk, .junk, .junk, .junk, .junk, .junk, .junk, .junk, .junk, .junk, .junk, .junk, .junk, .junk, .junk, .junk, .junk, .junk, .junk, .junk, .junk, .junk]) (fun x => [.live cC, .live [vS n, vI q, .sl 0 [] oR, .sl 0 [] oS, .rs 6 0 0 lC pC]]) (fun x => True) (fun x => 0) () ?_ ?_ ?_
 ·simp only [RG0, RG1, Nat.reduceAdd, ltL, PV.lt, Blk.lt, Nat.reduceLT, Nat.reduceLeDiff, Wk_rfl, ltL_vI, wk_sl] <;> rfl
 ·trivial
 intro x hP
 simp -implicitDefEqProofs (maxSteps := 2000000) only [R0, R1, R2, R3, R4, R5, R6, R7, R8, R9, R10, R11, R12, R13, R14, R15, R16, PV.strip, stripL, PV.noref, ri, feedL, feeds, Nat.reduceBEq, Array.toList, ↓reduceIte, forall_const, implies_true, Nat.reduceEqDiff, reduceCtorEq, alP, bxP, bsP, ifP, quiet, riD, bs_l, PV.isRef, plainCell, norefL, PV.scalar, scalarL, PV.cells, PV.solid, PV.one, PV.free, freeL, fillP, splice, Nat.reduceAdd, Nat.reduceMul, Nat.reduceSub, Nat.reduceLeDiff, Nat.reduceLT, Int.reduceToNat, Int.reduceEq, Int.reduceLT, Int.reduceLE, Int.reduceNeg, E0_vc, vaN, PV.avoid, avoidL, Nat.reduceGT, W11, retV_z, rgA, rg1, zr50, strip_vI, free_vI, len48, hl48, PV.cells, Blk.avoid, List.flatMap_cons, List.flatMap_nil, Int.toNat_natCast, List.length_map, List.append_nil, RB0]
 refine loopB_by (fun x : Unit => [.junk, .ptr 1 0, .junk, vI 0, .junk, .junk, .junk, .junk, .junk, .junk, .junk, .junk, .junk, .junk, .junk, .junk, .junk, .junk, .junk, .junk, .junk, .junk, .junk, .junk, .junk, .junk, .junk, .junk, .junk, .junk, .junk, .junk, .junk, .junk, .junk, .junk, .junk, .junk, .junk, .junk, .junk, .junk, .junk, .junk, .junk, .junk, .junk, .junk, .junk, .junk, .junk, .junk, .junk, .junk, .junk, .junk, .junk, .junk, .junk, .junk, .junk, .junk, .junk, .junk, .junk, .junk, .junk]) (fun x => [.live cC, .live [vS n, vI q, .sl 0 [] oR, .sl 0 [] oS, .rs 6 0 0 lC pC]]) (fun x => True) (fun x => 0) () ?_ ?_ ?_
 ·simp only [RG0, RG1, Nat.reduceAdd, ltL, PV.lt, Blk.lt, Nat.reduceLT, Nat.reduceLeDiff, Wk_rfl, ltL_vI, wk_sl] <;> rfl
 ·trivial
 intro x hP
 simp -implicitDefEqProofs (maxSteps := 2000000) only [R0, R1, R2, R3, R4, R5, R6, R7, R8, R9, R10, R11, R12, R13, R14, R15, R16, PV.strip, stripL, PV.noref, ri, feedL, feeds, Nat.reduceBEq, Array.toList, ↓reduceIte, forall_const, implies_true, Nat.reduceEqDiff, reduceCtorEq, alP, bxP, bsP, ifP, quiet, riD, bs_l, PV.isRef, plainCell, norefL, PV.scalar, scalarL, PV.cells, PV.solid, PV.one, PV.free, freeL, fillP, splice, Nat.reduceAdd, Nat.reduceMul, Nat.reduceSub, Nat.reduceLeDiff, Nat.reduceLT, Int.reduceToNat, Int.reduceEq, Int.reduceLT, Int.reduceLE, Int.reduceNeg, E0_vc, vaN, PV.avoid, avoidL, Nat.reduceGT, W11, retV_z, rgA, rg1, zr50, strip_vI, free_vI, len48, hl48, PV.cells, Blk.avoid, List.flatMap_cons, List.flatMap_nil, Int.toNat_natCast, List.length_map, List.append_nil, RB0]
 refine loopB_by (fun x : Nat × List PV => [.junk, .ptr 1 0, .junk, .junk, vI x.1, .junk, .junk, .junk, .junk, .junk, .junk, .junk, .junk, .junk, .junk, .junk, .junk, .junk, .junk, .junk, .junk, .junk, .junk, .junk, .junk, .junk, .junk, .junk, .junk, .junk, .junk, .junk, .junk, .junk, .junk, .junk, .junk, .junk, .junk, .junk, .junk, .junk, .junk, .junk, .junk, .junk, .junk, .junk, .junk, .junk, .junk, .junk, .junk, .junk, .junk, .junk, .junk, .junk, .junk, .junk, .junk, .junk, .junk, .junk, .junk, .junk, .junk]) (fun x => [.live x.2, .live [vS n, vI q, .sl 0 [] oR, .sl 0 [] oS, .rs 6 0 0 lC pC]]) (fun x => x.1 ≤ lC ∧ RoomS 6 200000000 lC pC x.2) (fun x => lC - x.1) ⟨0, cC⟩ ?_ ?_ ?_
 ·simp only [RG0, RG1, Nat.reduceAdd, ltL, PV.lt, Blk.lt, Nat.reduceLT, Nat.reduceLeDiff, Wk_rfl, ltL_vI, wk_sl] <;> rfl
 ·exact ⟨Nat.zero_le _, hC⟩
 intro x hP
 obtain ⟨i, zC⟩ := x
 have hi' := hP.1
 have hzC : RoomS 6 200000000 lC pC zC := hP.2
 have r1 := hzC.1
 have r2 := hzC.2.1
 have r3 := hzC.2.2.1
 by_cases hil : i < lC
 ·have hil' : (i : Int) < lC := by omega
  simp -implicitDefEqProofs (maxSteps := 2000000) only [R0, R1, R2, R3, R4, R5, R6, R7, R8, R9, R10, R11, R12, R13, R14, R15, R16, PV.strip, stripL, PV.noref, ri, feedL, feeds, Nat.reduceBEq, Array.toList, ↓reduceIte, forall_const, implies_true, Nat.reduceEqDiff, reduceCtorEq, alP, bxP, bsP, ifP, quiet, riD, bs_l, PV.isRef, plainCell, norefL, PV.scalar, scalarL, PV.cells, PV.solid, PV.one, PV.free, freeL, fillP, splice, Nat.reduceAdd, Nat.reduceMul, Nat.reduceSub, Nat.reduceLeDiff, Nat.reduceLT, Int.reduceToNat, Int.reduceEq, Int.reduceLT, Int.reduceLE, Int.reduceNeg, E0_vc, vaN, PV.avoid, avoidL, Nat.reduceGT, W11, retV_z, rgA, rg1, zr50, strip_vI, free_vI, len48, hl48, PV.cells, Blk.avoid, List.flatMap_cons, List.flatMap_nil, Int.toNat_natCast, List.length_map, List.append_nil, hil', RB0]
  refine ⟨by omega, by omega, by unfold inI64; omega, ⟨i + 1, _⟩, ⟨by simp only; omega, room_set hzC (i * 6) (by omega) (.int .i64 (-9))⟩, by simp only; omega, ?_⟩
  simp only [RG0, RG1, Nat.reduceAdd, ltL, PV.lt, Blk.lt, Nat.reduceLT, Nat.reduceLeDiff, Wk_rfl, ltL_vI, wk_sl] <;> omega
 have hil' : ¬ (i : Int) < lC := by omega
 simp -implicitDefEqProofs (maxSteps := 2000000) only [R0, R1, R2, R3, R4, R5, R6, R7, R8, R9, R10, R11, R12, R13, R14, R15, R16, PV.strip, stripL, PV.noref, ri, feedL, feeds, Nat.reduceBEq, Array.toList, ↓reduceIte, forall_const, implies_true, Nat.reduceEqDiff, reduceCtorEq, alP, bxP, bsP, ifP, quiet, riD, bs_l, PV.isRef, plainCell, norefL, PV.scalar, scalarL, PV.cells, PV.solid, PV.one, PV.free, freeL, fillP, splice, Nat.reduceAdd, Nat.reduceMul, Nat.reduceSub, Nat.reduceLeDiff, Nat.reduceLT, Int.reduceToNat, Int.reduceEq, Int.reduceLT, Int.reduceLE, Int.reduceNeg, E0_vc, vaN, PV.avoid, avoidL, Nat.reduceGT, W11, retV_z, rgA, rg1, zr50, strip_vI, free_vI, len48, hl48, PV.cells, Blk.avoid, List.flatMap_cons, List.flatMap_nil, Int.toNat_natCast, List.length_map, List.append_nil, hil', RB0]
 refine loopB_by (fun x : SpS => [.junk, .junk, .junk, .junk, .junk, rowX 2 oR x.cR, rowX 50 oS x.cS, .rs 6 0 0 x.lC x.pC, vI x.i, .junk, .junk, .junk, .junk, .junk, .junk, .junk, .junk, .junk, .junk, .junk, .junk, .junk, .junk, .junk, .junk, .junk, .junk, .junk, .junk, .junk, .junk, .junk, .junk, .junk, .junk, .junk, .junk, .junk, .junk, .junk, .junk, .junk, .junk, .junk, .junk, .junk, .junk, .junk, .junk, .junk, .junk, .junk, .junk, .junk, .junk, .junk, .junk, .junk, .junk, .junk, .junk, .junk, .junk, .junk, .junk, .junk, .junk]) (fun x => [.live x.cC]) (fun x => x.i ≤ 9 ∧ x.cR.length = x.i ∧ x.cS.length = x.i ∧ RoomS 6 (200000000 + x.i) x.lC x.pC x.cC) (fun x => 9 - x.i) ⟨0, 0, 0, [], 0, 0, [], lC, pC, zC⟩ ?_ ?_ ?_
 ·simp only [RG0, RG1, Nat.reduceAdd, ltL, PV.lt, Blk.lt, Nat.reduceLT, Nat.reduceLeDiff, Wk_rfl, ltL_vI, wk_sl, rowX_0, lt_vj _ hzC.2.2.2]
 ·exact ⟨Nat.zero_le _, rfl, rfl, hzC⟩
 intro x hP
 obtain ⟨i, lR', pR', cR', lS', pS', cS', lC', pC', cC'⟩ := x
 have hi' : i ≤ 9 := hP.1
 have gR : cR'.length = i := hP.2.1
 obtain ⟨jR, bR, eR, fR⟩ := rowX_eq 2 oR cR'
 have gS : cS'.length = i := hP.2.2.1
 obtain ⟨jS, bS, eS, fS⟩ := rowX_eq 50 oS cS'
 have gC : RoomS 6 (200000000 + i) lC' pC' cC' := hP.2.2.2
 have kC1 := gC.1
 have kC2 := gC.2.1
 have kC3 := gC.2.2.1
 have aC := fun b => av_vj b gC.2.2.2
 by_cases hil : i < 9
 ·have hil' : (i : Int) < 9 := by omega
  simp -implicitDefEqProofs (maxSteps := 2000000) only [R0, R1, R2, R3, R4, R5, R6, R7, R8, R9, R10, R11, R12, R13, R14, R15, R16, PV.strip, stripL, PV.noref, ri, feedL, feeds, Nat.reduceBEq, Array.toList, ↓reduceIte, forall_const, implies_true, Nat.reduceEqDiff, reduceCtorEq, alP, bxP, bsP, ifP, quiet, riD, bs_l, PV.isRef, plainCell, norefL, PV.scalar, scalarL, PV.cells, PV.solid, PV.one, PV.free, freeL, fillP, splice, Nat.reduceAdd, Nat.reduceMul, Nat.reduceSub, Nat.reduceLeDiff, Nat.reduceLT, Int.reduceToNat, Int.reduceEq, Int.reduceLT, Int.reduceLE, Int.reduceNeg, E0_vc, vaN, PV.avoid, avoidL, Nat.reduceGT, W11, retV_z, rgA, rg1, zr50, strip_vI, free_vI, len48, hl48, PV.cells, Blk.avoid, List.flatMap_cons, List.flatMap_nil, Int.toNat_natCast, List.length_map, List.append_nil, eR, eS, aC, hil', RB0]
  refine ⟨fR, rm25 (by omega) (by omega), ?_⟩
  refine ⟨fS, rm25 (by omega) (by omega), ?_⟩
  have hC' := fun c hc => room_app (c' := c) gC xpC_v hc
  refine ⟨by kernel_rfl, kC2, rm25 (by omega) (by omega), fun Cn hCn => ?_⟩
  refine ⟨by unfold inI64; omega, ⟨i + 1, 0, 0, cR' ++ [PV.agg xpR], 0, 0, cS' ++ [PV.agg xpS], lC' + 1, Cn, padded (List.take (lC' * 6) cC' ++ xpC) (Cn * 6)⟩, ⟨by simp only; omega, (by rw [List.length_append, gR]; rfl : (cR' ++ [PV.agg xpR]).length = i + 1), (by rw [List.length_append, gS]; rfl : (cS' ++ [PV.agg xpS]).length = i + 1), hC' Cn hCn⟩, by simp only; omega, ?_⟩
  simp only [RG0, RG1, Nat.reduceAdd, ltL, PV.lt, Blk.lt, Nat.reduceLT, Nat.reduceLeDiff, Wk_rfl, ltL_vI, wk_sl, rowX_s, xpR, xpS, xpC]
  omega
 have hil' : ¬ (i : Int) < 9 := by omega
 simp -implicitDefEqProofs (maxSteps := 2000000) only [R0, R1, R2, R3, R4, R5, R6, R7, R8, R9, R10, R11, R12, R13, R14, R15, R16, PV.strip, stripL, PV.noref, ri, feedL, feeds, Nat.reduceBEq, Array.toList, ↓reduceIte, forall_const, implies_true, Nat.reduceEqDiff, reduceCtorEq, alP, bxP, bsP, ifP, quiet, riD, bs_l, PV.isRef, plainCell, norefL, PV.scalar, scalarL, PV.cells, PV.solid, PV.one, PV.free, freeL, fillP, splice, Nat.reduceAdd, Nat.reduceMul, Nat.reduceSub, Nat.reduceLeDiff, Nat.reduceLT, Int.reduceToNat, Int.reduceEq, Int.reduceLT, Int.reduceLE, Int.reduceNeg, E0_vc, vaN, PV.avoid, avoidL, Nat.reduceGT, W11, retV_z, rgA, rg1, zr50, strip_vI, free_vI, len48, hl48, PV.cells, Blk.avoid, List.flatMap_cons, List.flatMap_nil, Int.toNat_natCast, List.length_map, List.append_nil, eR, eS, aC, hil', RB0]
 exact hK _
def spT000 : PT := fun args M K => ∃ (n : ByteArray) (q : Int) (oR : Bool) (oS : Bool) (oC : Bool), args = [.agg [vS n, vI q, .sl 0 [] oR, .sl 0 [] oS, .sl 0 [] oC]] ∧ M = [] ∧ ∀ B, K (.tuple []) B
theorem sp000_ok : SoundX Try.prog G0 11 spT000 := by
 refine fn_X [] D50_ok mixed true Try.func11 (by decide) rfl ?_
 rintro args M K ⟨n, q, oR, oS, oC, rfl, rfl, hK⟩
 simp only [awpBFnX, Try.ntmps11, List.length_cons, List.length_nil, Nat.reduceAdd, Nat.reduceSub, List.replicate_succ, List.replicate_zero, List.cons_append, List.nil_append, List.map_cons, List.map_nil]
 simp -implicitDefEqProofs (maxSteps := 2000000) only [R0, R1, R2, R3, R4, R5, R6, R7, R8, R9, R10, R11, R12, R13, R14, R15, R16, PV.strip, stripL, PV.noref, ri, feedL, feeds, Nat.reduceBEq, Array.toList, ↓reduceIte, forall_const, implies_true, Nat.reduceEqDiff, reduceCtorEq, alP, bxP, bsP, ifP, quiet, riD, bs_l, PV.isRef, plainCell, norefL, PV.scalar, scalarL, PV.cells, PV.solid, PV.one, PV.free, freeL, fillP, splice, Nat.reduceAdd, Nat.reduceMul, Nat.reduceSub, Nat.reduceLeDiff, Nat.reduceLT, Int.reduceToNat, Int.reduceEq, Int.reduceLT, Int.reduceLE, Int.reduceNeg, E0_vc, vaN, PV.avoid, avoidL, Nat.reduceGT, W11, retV_z, RB0]
 refine loopB_by (fun x : Unit => [.junk, .ptr 0 0, vI 0, .junk, .junk, .junk, .junk, .junk, .junk, .junk, .junk, .junk, .junk, .junk, .junk, .junk, .junk, .junk, .junk, .junk, .junk, .junk, .junk, .junk, .junk, .junk, .junk, .junk, .junk, .junk, .junk, .junk, .junk, .junk, .junk, .junk, .junk, .junk, .junk, .junk, .junk, .junk, .junk, .junk, .junk, .junk, .junk, .junk, .junk, .junk, .junk, .junk, .junk, .junk, .junk, .junk, .junk, .junk, .junk, .junk, .junk, .junk, .junk, .junk, .junk, .junk, .junk]) (fun x => [.live [vS n, vI q, .sl 0 [] oR, .sl 0 [] oS, .sl 0 [] oC]]) (fun x => True) (fun x => 0) () ?_ ?_ ?_
 ·simp only [RG0, RG1, Nat.reduceAdd, ltL, PV.lt, Blk.lt, Nat.reduceLT, Nat.reduceLeDiff, Wk_rfl, ltL_vI, wk_sl] <;> rfl
 ·trivial
 intro x hP
 simp -implicitDefEqProofs (maxSteps := 2000000) only [R0, R1, R2, R3, R4, R5, R6, R7, R8, R9, R10, R11, R12, R13, R14, R15, R16, PV.strip, stripL, PV.noref, ri, feedL, feeds, Nat.reduceBEq, Array.toList, ↓reduceIte, forall_const, implies_true, Nat.reduceEqDiff, reduceCtorEq, alP, bxP, bsP, ifP, quiet, riD, bs_l, PV.isRef, plainCell, norefL, PV.scalar, scalarL, PV.cells, PV.solid, PV.one, PV.free, freeL, fillP, splice, Nat.reduceAdd, Nat.reduceMul, Nat.reduceSub, Nat.reduceLeDiff, Nat.reduceLT, Int.reduceToNat, Int.reduceEq, Int.reduceLT, Int.reduceLE, Int.reduceNeg, E0_vc, vaN, PV.avoid, avoidL, Nat.reduceGT, W11, retV_z, rgA, rg1, zr50, strip_vI, free_vI, len48, hl48, PV.cells, Blk.avoid, List.flatMap_cons, List.flatMap_nil, Int.toNat_natCast, List.length_map, List.append_nil, RB0]
 refine loopB_by (fun x : Unit => [.junk, .ptr 0 0, .junk, vI 0, .junk, .junk, .junk, .junk, .junk, .junk, .junk, .junk, .junk, .junk, .junk, .junk, .junk, .junk, .junk, .junk, .junk, .junk, .junk, .junk, .junk, .junk, .junk, .junk, .junk, .junk, .junk, .junk, .junk, .junk, .junk, .junk, .junk, .junk, .junk, .junk, .junk, .junk, .junk, .junk, .junk, .junk, .junk, .junk, .junk, .junk, .junk, .junk, .junk, .junk, .junk, .junk, .junk, .junk, .junk, .junk, .junk, .junk, .junk, .junk, .junk, .junk, .junk]) (fun x => [.live [vS n, vI q, .sl 0 [] oR, .sl 0 [] oS, .sl 0 [] oC]]) (fun x => True) (fun x => 0) () ?_ ?_ ?_
 ·simp only [RG0, RG1, Nat.reduceAdd, ltL, PV.lt, Blk.lt, Nat.reduceLT, Nat.reduceLeDiff, Wk_rfl, ltL_vI, wk_sl] <;> rfl
 ·trivial
 intro x hP
 simp -implicitDefEqProofs (maxSteps := 2000000) only [R0, R1, R2, R3, R4, R5, R6, R7, R8, R9, R10, R11, R12, R13, R14, R15, R16, PV.strip, stripL, PV.noref, ri, feedL, feeds, Nat.reduceBEq, Array.toList, ↓reduceIte, forall_const, implies_true, Nat.reduceEqDiff, reduceCtorEq, alP, bxP, bsP, ifP, quiet, riD, bs_l, PV.isRef, plainCell, norefL, PV.scalar, scalarL, PV.cells, PV.solid, PV.one, PV.free, freeL, fillP, splice, Nat.reduceAdd, Nat.reduceMul, Nat.reduceSub, Nat.reduceLeDiff, Nat.reduceLT, Int.reduceToNat, Int.reduceEq, Int.reduceLT, Int.reduceLE, Int.reduceNeg, E0_vc, vaN, PV.avoid, avoidL, Nat.reduceGT, W11, retV_z, rgA, rg1, zr50, strip_vI, free_vI, len48, hl48, PV.cells, Blk.avoid, List.flatMap_cons, List.flatMap_nil, Int.toNat_natCast, List.length_map, List.append_nil, RB0]
 refine loopB_by (fun x : Unit => [.junk, .ptr 0 0, .junk, .junk, vI 0, .junk, .junk, .junk, .junk, .junk, .junk, .junk, .junk, .junk, .junk, .junk, .junk, .junk, .junk, .junk, .junk, .junk, .junk, .junk, .junk, .junk, .junk, .junk, .junk, .junk, .junk, .junk, .junk, .junk, .junk, .junk, .junk, .junk, .junk, .junk, .junk, .junk, .junk, .junk, .junk, .junk, .junk, .junk, .junk, .junk, .junk, .junk, .junk, .junk, .junk, .junk, .junk, .junk, .junk, .junk, .junk, .junk, .junk, .junk, .junk, .junk, .junk]) (fun x => [.live [vS n, vI q, .sl 0 [] oR, .sl 0 [] oS, .sl 0 [] oC]]) (fun x => True) (fun x => 0) () ?_ ?_ ?_
 ·simp only [RG0, RG1, Nat.reduceAdd, ltL, PV.lt, Blk.lt, Nat.reduceLT, Nat.reduceLeDiff, Wk_rfl, ltL_vI, wk_sl] <;> rfl
 ·trivial
 intro x hP
 simp -implicitDefEqProofs (maxSteps := 2000000) only [R0, R1, R2, R3, R4, R5, R6, R7, R8, R9, R10, R11, R12, R13, R14, R15, R16, PV.strip, stripL, PV.noref, ri, feedL, feeds, Nat.reduceBEq, Array.toList, ↓reduceIte, forall_const, implies_true, Nat.reduceEqDiff, reduceCtorEq, alP, bxP, bsP, ifP, quiet, riD, bs_l, PV.isRef, plainCell, norefL, PV.scalar, scalarL, PV.cells, PV.solid, PV.one, PV.free, freeL, fillP, splice, Nat.reduceAdd, Nat.reduceMul, Nat.reduceSub, Nat.reduceLeDiff, Nat.reduceLT, Int.reduceToNat, Int.reduceEq, Int.reduceLT, Int.reduceLE, Int.reduceNeg, E0_vc, vaN, PV.avoid, avoidL, Nat.reduceGT, W11, retV_z, rgA, rg1, zr50, strip_vI, free_vI, len48, hl48, PV.cells, Blk.avoid, List.flatMap_cons, List.flatMap_nil, Int.toNat_natCast, List.length_map, List.append_nil, RB0]
 refine loopB_by (fun x : SpS => [.junk, .junk, .junk, .junk, .junk, rowX 2 oR x.cR, rowX 50 oS x.cS, rowX 6 oC x.cC, vI x.i, .junk, .junk, .junk, .junk, .junk, .junk, .junk, .junk, .junk, .junk, .junk, .junk, .junk, .junk, .junk, .junk, .junk, .junk, .junk, .junk, .junk, .junk, .junk, .junk, .junk, .junk, .junk, .junk, .junk, .junk, .junk, .junk, .junk, .junk, .junk, .junk, .junk, .junk, .junk, .junk, .junk, .junk, .junk, .junk, .junk, .junk, .junk, .junk, .junk, .junk, .junk, .junk, .junk, .junk, .junk, .junk, .junk, .junk]) (fun x => []) (fun x => x.i ≤ 9 ∧ x.cR.length = x.i ∧ x.cS.length = x.i ∧ x.cC.length = x.i) (fun x => 9 - x.i) ⟨0, 0, 0, [], 0, 0, [], 0, 0, []⟩ ?_ ?_ ?_
 ·simp only [RG0, RG1, Nat.reduceAdd, ltL, PV.lt, Blk.lt, Nat.reduceLT, Nat.reduceLeDiff, Wk_rfl, ltL_vI, wk_sl, rowX_0]
 ·exact ⟨Nat.zero_le _, rfl, rfl, rfl⟩
 intro x hP
 obtain ⟨i, lR', pR', cR', lS', pS', cS', lC', pC', cC'⟩ := x
 have hi' : i ≤ 9 := hP.1
 have gR : cR'.length = i := hP.2.1
 obtain ⟨jR, bR, eR, fR⟩ := rowX_eq 2 oR cR'
 have gS : cS'.length = i := hP.2.2.1
 obtain ⟨jS, bS, eS, fS⟩ := rowX_eq 50 oS cS'
 have gC : cC'.length = i := hP.2.2.2
 obtain ⟨jC, bC, eC, fC⟩ := rowX_eq 6 oC cC'
 by_cases hil : i < 9
 ·have hil' : (i : Int) < 9 := by omega
  simp -implicitDefEqProofs (maxSteps := 2000000) only [R0, R1, R2, R3, R4, R5, R6, R7, R8, R9, R10, R11, R12, R13, R14, R15, R16, PV.strip, stripL, PV.noref, ri, feedL, feeds, Nat.reduceBEq, Array.toList, ↓reduceIte, forall_const, implies_true, Nat.reduceEqDiff, reduceCtorEq, alP, bxP, bsP, ifP, quiet, riD, bs_l, PV.isRef, plainCell, norefL, PV.scalar, scalarL, PV.cells, PV.solid, PV.one, PV.free, freeL, fillP, splice, Nat.reduceAdd, Nat.reduceMul, Nat.reduceSub, Nat.reduceLeDiff, Nat.reduceLT, Int.reduceToNat, Int.reduceEq, Int.reduceLT, Int.reduceLE, Int.reduceNeg, E0_vc, vaN, PV.avoid, avoidL, Nat.reduceGT, W11, retV_z, rgA, rg1, zr50, strip_vI, free_vI, len48, hl48, PV.cells, Blk.avoid, List.flatMap_cons, List.flatMap_nil, Int.toNat_natCast, List.length_map, List.append_nil, eR, eS, eC, hil', RB0]
  refine ⟨fR, rm25 (by omega) (by omega), ?_⟩
  refine ⟨fS, rm25 (by omega) (by omega), ?_⟩
  refine ⟨fC, rm25 (by omega) (by omega), ?_⟩
  refine ⟨by unfold inI64; omega, ⟨i + 1, 0, 0, cR' ++ [PV.agg xpR], 0, 0, cS' ++ [PV.agg xpS], 0, 0, cC' ++ [PV.agg xpC]⟩, ⟨by simp only; omega, (by rw [List.length_append, gR]; rfl : (cR' ++ [PV.agg xpR]).length = i + 1), (by rw [List.length_append, gS]; rfl : (cS' ++ [PV.agg xpS]).length = i + 1), (by rw [List.length_append, gC]; rfl : (cC' ++ [PV.agg xpC]).length = i + 1)⟩, by simp only; omega, ?_⟩
  simp only [RG0, RG1, Nat.reduceAdd, ltL, PV.lt, Blk.lt, Nat.reduceLT, Nat.reduceLeDiff, Wk_rfl, ltL_vI, wk_sl, rowX_s, xpR, xpS, xpC]
  omega
 have hil' : ¬ (i : Int) < 9 := by omega
 simp -implicitDefEqProofs (maxSteps := 2000000) only [R0, R1, R2, R3, R4, R5, R6, R7, R8, R9, R10, R11, R12, R13, R14, R15, R16, PV.strip, stripL, PV.noref, ri, feedL, feeds, Nat.reduceBEq, Array.toList, ↓reduceIte, forall_const, implies_true, Nat.reduceEqDiff, reduceCtorEq, alP, bxP, bsP, ifP, quiet, riD, bs_l, PV.isRef, plainCell, norefL, PV.scalar, scalarL, PV.cells, PV.solid, PV.one, PV.free, freeL, fillP, splice, Nat.reduceAdd, Nat.reduceMul, Nat.reduceSub, Nat.reduceLeDiff, Nat.reduceLT, Int.reduceToNat, Int.reduceEq, Int.reduceLT, Int.reduceLE, Int.reduceNeg, E0_vc, vaN, PV.avoid, avoidL, Nat.reduceGT, W11, retV_z, rgA, rg1, zr50, strip_vI, free_vI, len48, hl48, PV.cells, Blk.avoid, List.flatMap_cons, List.flatMap_nil, Int.toNat_natCast, List.length_map, List.append_nil, eR, eS, eC, hil', RB0]
 exact hK _
def spT : PT := fun args M K => spT111 args M K ∨ spT011 args M K ∨ spT101 args M K ∨ spT001 args M K ∨ spT000 args M K
theorem spoilX_ok : SoundX Try.prog G0 11 spT := sp111_ok.or (sp011_ok.or (sp101_ok.or (sp001_ok.or sp000_ok)))
theorem spT_mono : ∀ args B K K', (∀ r b, K r b → K' r b) → spT args B K → spT args B K' := by
 intro args M K K' hk h
 rcases h with ⟨n, q, lR, pR, cR, lS, pS, cS, lC, pC, cC, h1, h2, h3, h4, h5, h6⟩ | ⟨n, q, oR, lS, pS, cS, lC, pC, cC, h1, h2, h3, h4, h5⟩ | ⟨n, q, lR, pR, cR, oS, lC, pC, cC, h1, h2, h3, h4, h5⟩ | ⟨n, q, oR, oS, lC, pC, cC, h1, h2, h3, h4⟩ | ⟨n, q, oR, oS, oC, h1, h2, h3⟩
 ·exact .inl ⟨n, q, lR, pR, cR, lS, pS, cS, lC, pC, cC, h1, h2, h3, h4, h5, fun B => hk _ _ (h6 B)⟩
 ·exact .inr (.inl ⟨n, q, oR, lS, pS, cS, lC, pC, cC, h1, h2, h3, h4, fun B => hk _ _ (h5 B)⟩)
 ·exact .inr (.inr (.inl ⟨n, q, lR, pR, cR, oS, lC, pC, cC, h1, h2, h3, h4, fun B => hk _ _ (h5 B)⟩))
 ·exact .inr (.inr (.inr (.inl ⟨n, q, oR, oS, lC, pC, cC, h1, h2, h3, fun B => hk _ _ (h4 B)⟩)))
 ·exact .inr (.inr (.inr (.inr ⟨n, q, oR, oS, oC, h1, h2, fun B => hk _ _ (h3 B)⟩)))
theorem spoil_ok : Sound Try.prog G0 11 (eatT spT) := spoilX_ok.eat
end Go.Ve.H
end
section
set_option maxRecDepth 10000
set_option maxHeartbeats 20000000
namespace Go.Ve.H
open Go Go.Proofs Go.Ve
def half : PV → PV
 | .agg [n, q, r, s, c] => .agg [n, q, r, s.unslt, c]
 | p => p
theorem halfL_rep {F : Fz} {R : List Nat} {n q r s c : PV} : ∀ {l : List Value}, RepL F R [n, q, r, s, c] l → RepL F R [n, q, r, s.unslt, c] l
 | _, .cons a1 (.cons a2 (.cons a3 (.cons a4 (.cons a5 .nil)))) => .cons a1 (.cons a2 (.cons a3 (.cons a4.unslt (.cons a5 .nil))))
theorem half_rep (F : Fz) (R : List Nat) (p : PV) (v : Value) (h : Rep F R p v) : Rep F R (half p) v := by
 unfold half
 split
 ·cases h with
  | agg h1 h => exact .agg h1 (halfL_rep h)
 ·exact h
theorem halfL_occ {n q r s c : PV} : ∀ (l : List Value), occL [n, q, r, s, c] l = [] → occL [n, q, r, s.unslt, c] l = []
 | [], h => rfl
 | [_], h => by simp only [occL] at h ⊢; exact h
 | [_, _], h => by simp only [occL] at h ⊢; exact h
 | [_, _, _], h => by simp only [occL] at h ⊢; exact h
 | _ :: _ :: _ :: _ :: l, h => by simp only [occL, occ_unslt] at h ⊢; exact h
theorem half_occ (p : PV) (v : Value) (h : occ p v = []) : occ (half p) v = [] := by
 unfold half
 split
 ·cases v with
  | agg vs => simp only [occ] at h ⊢; exact halfL_occ _ h
  | _ => simp [occ]
 ·exact h
theorem half_copy (a : Hist) : half (copyP a) = mixP a := rfl
def addQ (args : List PV) (r : PV) : Prop := ∃ ps, pAddF (args.map half) = some (ps, r) ∧ All ps
def addCT : PT := fun args M K => conT (.pure addQ) args M K ∨ meltT addQ args M K
theorem addCT_mono : ∀ args B K K', (∀ r b, K r b → K' r b) → addCT args B K → addCT args B K' := fun args B K K' hk h =>
 h.imp (conT_mono (.pure addQ) hk) (meltT_mono addQ _ _ _ _ hk)
theorem addC_ok : Sound Try.prog G0 6 addCT := by
 have h : Sound Try.prog G0 6 (conT (.pure addQ)) := pAdd_ok.less half half_rep half_occ
 exact h.or h.melt
def askA (a b : Hist) : Prop := szH a ∧ szH b ∧ smallH a ∧ smallH b ∧ (a.rows ++ b.rows).length ≤ 100000
theorem addQ_of {a b : Hist} (h : askA a b) : addQ [copyP a, copyP b] (pAns a b) := by
 refine ⟨[szH a, szH b, smallH a, smallH b, (a.rows ++ b.rows).length ≤ 100000], ?_, ?_⟩
 ·simp only [List.map_cons, List.map_nil, half_copy, pAddF, mixD_P]
 ·obtain ⟨h1, h2, h3, h4, h5⟩ := h
  intro q hq
  simp only [List.mem_cons, List.not_mem_nil, or_false] at hq
  rcases hq with rfl | rfl | rfl | rfl | rfl <;> assumption
def RR (a b : Hist) : List Ref := if a.rows = [] then b.refs else a.refs
theorem addC_pure {a b : Hist} (h : askA a b) {M : List Blk} {K : PV → List Blk → Prop} (hK : K (pAns a b) M) : addCT [copyP a, copyP b] M K := .inl ⟨_, addQ_of h, hK⟩
theorem pAns_err {a b : Hist} (h : (addH a b).2 ≠ 0) : pAns a b = .tuple [noHO, vI (addH a b).2] := by rw [pAns, if_neg h]
theorem pAns_ok {a b : Hist} (h : (addH a b).2 = 0) : pAns a b = .tuple [.agg [vS a.name, vI a.quant, .sl 2 ((RR a b).map refP) true, rowsO (mrgR a.rows b.rows), .sl 6 (a.cond.map nodeP) true], vI 0] := by rw [pAns, if_pos h]; rfl
theorem vs_ref : ∀ l : List Ref, ∀ x ∈ l.map refP, ∃ cs, x = .agg cs ∧ cs.length = 2 ∧ cs.all isVal = true := fun l x hx => by
 obtain ⟨r, _, rfl⟩ := List.mem_map.1 hx
 exact ⟨_, rfl, rfl, rfl⟩
theorem vs_vI (l : List Int) : (l.map vI).all isVal = true := List.all_eq_true.2 fun x hx => by
 obtain ⟨y, _, rfl⟩ := List.mem_map.1 hx
 rfl
theorem vs_row : ∀ l : List Row, ∀ x ∈ l.map rowP, ∃ cs, x = .agg cs ∧ cs.length = 50 ∧ cs.all isVal = true := fun l x hx => by
 obtain ⟨r, _, rfl⟩ := List.mem_map.1 hx
 exact ⟨_, rfl, by simp [r.f.hl], by simp only [List.all_cons, vs_vI, Bool.and_true]; rfl⟩
theorem vs_node : ∀ l : List Node, ∀ x ∈ l.map nodeP, ∃ cs, x = .agg cs ∧ cs.length = 6 ∧ cs.all isVal = true := fun l x hx => by
 obtain ⟨r, _, rfl⟩ := List.mem_map.1 hx
 exact ⟨_, rfl, rfl, rfl⟩
theorem vs_cells {k : Nat} {xs : List PV} (h : ∀ x ∈ xs, ∃ cs, x = .agg cs ∧ cs.length = k ∧ cs.all isVal = true) : (xs.all fun y => y.cells.all isVal) = true := List.all_eq_true.2 fun x hx => by
 obtain ⟨cs, rfl, _, h2⟩ := h x hx
 exact h2
def mR (l : List Ref) (f : Nat) : List PV := padded ((l.map refP).flatMap PV.cells) ((l.length + f) * 2)
def mS (l : List Row) (f : Nat) : List PV := padded ((l.map rowP).flatMap PV.cells) ((l.length + f) * 50)
def mC (l : List Node) (f : Nat) : List PV := padded ((l.map nodeP).flatMap PV.cells) ((l.length + f) * 6)
theorem mR_b (l : List Ref) (f : Nat) (p : PV) : brwS 2 0 l.length p (some (.live (mR l f))) = .sl 2 (l.map refP) false := by
 have := melt_brw (m := (l.length + f) * 2) (by decide) (by decide) (vs_ref l) p
 rwa [List.length_map] at this
theorem mS_b (l : List Row) (f : Nat) (p : PV) : brwS 50 0 l.length p (some (.live (mS l f))) = .sl 50 (l.map rowP) false := by
 have := melt_brw (m := (l.length + f) * 50) (by decide) (by decide) (vs_row l) p
 rwa [List.length_map] at this
theorem mC_b (l : List Node) (f : Nat) (p : PV) : brwS 6 0 l.length p (some (.live (mC l f))) = .sl 6 (l.map nodeP) false := by
 have := melt_brw (m := (l.length + f) * 6) (by decide) (by decide) (vs_node l) p
 rwa [List.length_map] at this
theorem mR_s (l : List Ref) (f : Nat) (h : l.length ≤ 200000000) : RoomS 2 200000000 l.length (l.length + f) (mR l f) :=
 ⟨Nat.le_add_right _ _, (melt_vj (by decide) (vs_ref l)).2, h, (melt_vj (by decide) (vs_ref l)).1⟩
theorem mS_s (l : List Row) (f : Nat) (h : l.length ≤ 200000000) : RoomS 50 200000000 l.length (l.length + f) (mS l f) :=
 ⟨Nat.le_add_right _ _, (melt_vj (by decide) (vs_row l)).2, h, (melt_vj (by decide) (vs_row l)).1⟩
theorem mC_s (l : List Node) (f : Nat) (h : l.length ≤ 200000000) : RoomS 6 200000000 l.length (l.length + f) (mC l f) :=
 ⟨Nat.le_add_right _ _, (melt_vj (by decide) (vs_node l)).2, h, (melt_vj (by decide) (vs_node l)).1⟩
theorem okH_cond {h : Hist} (e : okH h = true) : ¬ h.cond = [] := by
 unfold okH at e
 simp only [Bool.and_eq_true, decide_eq_true_eq] at e
 intro h0
 have := (makesC_ne (checkC_makes e.1.2)).1
 rw [h0] at this
 simp at this
theorem okH_none {h : Hist} (e : okH h = true) (h0 : h.rows = []) : h.refs = [] := by
 unfold okH at e
 simp only [Bool.and_eq_true, decide_eq_true_eq, if_pos h0] at e
 exact e.2
theorem addH_ok {a b : Hist} (h : (addH a b).2 = 0) : okH a = true ∧ okH b = true := by
 unfold addH at h
 split at h
 ·cases h
 ·rename_i h1
  cases ha : okH a <;> cases hb : okH b <;> simp [ha, hb] at h1 ⊢
theorem mrg_nil {a b : List Row} (h : mrgR a b = []) : a = [] ∧ b = [] := by
 cases a with
 | nil =>
  cases b with
  | nil => exact ⟨rfl, rfl⟩
  | cons y b => rw [mrgR] at h; exact absurd h (by simp)
 | cons x a =>
  cases b with
  | nil => rw [mrgR] at h; exact absurd h (by simp)
  | cons y b =>
   rw [mrgR] at h
   split at h
   ·cases h
   ·split at h <;> cases h
theorem addC_melt {a b : Hist} (h : askA a b) (h0 : (addH a b).2 = 0) {M : List Blk} {K : PV → List Blk → Prop}
  (hA : ¬ mrgR a.rows b.rows = [] → ∀ x y z : Nat, K (.tuple [.agg [vS a.name, vI a.quant, .rs 2 M.length 0 (RR a b).length ((RR a b).length + x), .rs 50 (M.length + 1) 0 (mrgR a.rows b.rows).length ((mrgR a.rows b.rows).length + y), .rs 6 (M.length + 2) 0 a.cond.length (a.cond.length + z)], vI 0])
   (M ++ [.live (mR (RR a b) x), .live (mS (mrgR a.rows b.rows) y), .live (mC a.cond z)]))
  (hB : ¬ mrgR a.rows b.rows = [] → RR a b = [] → ∀ y z : Nat, K (.tuple [.agg [vS a.name, vI a.quant, .sl 0 [] false, .rs 50 M.length 0 (mrgR a.rows b.rows).length ((mrgR a.rows b.rows).length + y), .rs 6 (M.length + 1) 0 a.cond.length (a.cond.length + z)], vI 0])
   (M ++ [.live (mS (mrgR a.rows b.rows) y), .live (mC a.cond z)]))
  (hC : mrgR a.rows b.rows = [] → RR a b = [] → ∀ x z : Nat, K (.tuple [.agg [vS a.name, vI a.quant, .rs 2 M.length 0 0 x, .sl 0 [] true, .rs 6 (M.length + 1) 0 a.cond.length (a.cond.length + z)], vI 0])
   (M ++ [.live (mR [] x), .live (mC a.cond z)]))
  (hD : mrgR a.rows b.rows = [] → RR a b = [] → ∀ z : Nat, K (.tuple [.agg [vS a.name, vI a.quant, .sl 0 [] false, .sl 0 [] true, .rs 6 M.length 0 a.cond.length (a.cond.length + z)], vI 0])
   (M ++ [.live (mC a.cond z)])) : addCT [copyP a, copyP b] M K := by
 obtain ⟨o1, o2⟩ := addH_ok h0
 refine .inr ⟨pAns a b, addQ_of h, ?_, ?_, ?_⟩
 ·simp [norefL, copyP, PV.noref, norefL_eq, nr_map nr_ref, nr_map nr_row, nr_map nr_node, nr_ref, nr_row, nr_node]
 ·rw [pAns_ok h0]
  have e1 : (PV.sl 2 ((RR a b).map refP) true).thawable = true := by
   cases e : (RR a b).map refP with
   | nil => rfl
   | cons x xs => simp only [PV.thawable, Bool.true_and]; rw [← e]; exact vs_cells (vs_ref _)
  have e2 : (rowsO (mrgR a.rows b.rows)).thawable = true := by
   unfold rowsO; split
   ·rfl
   ·cases e : (mrgR a.rows b.rows).map rowP with
    | nil => rfl
    | cons x xs => simp only [PV.thawable, Bool.true_and]; rw [← e]; exact vs_cells (vs_row _)
  have e3 : (PV.sl 6 (a.cond.map nodeP) true).thawable = true := by
   cases e : a.cond.map nodeP with
   | nil => rfl
   | cons x xs => simp only [PV.thawable, Bool.true_and]; rw [← e]; exact vs_cells (vs_node _)
  simp only [PV.thawable, thawableL, e1, e2, e3, Bool.and_self]
 ·intro q hq f
  rw [pAns_ok h0] at hq
  have hc : PV.alts (.sl 6 (a.cond.map nodeP) true) = [.sl 6 (a.cond.map nodeP) true] := by
   cases e : a.cond with
   | nil => exact absurd e (okH_cond o1)
   | cons x xs => rfl
  by_cases hm : mrgR a.rows b.rows = []
  ·obtain ⟨m1, m2⟩ := mrg_nil hm
   have hR : RR a b = [] := by unfold RR; rw [if_pos m1]; exact okH_none o2 m2
   have hC' := hC hm hR
   have hD' := hD hm hR
   rw [hm, hR] at hq
   have e : PV.alts (.tuple [.agg [vS a.name, vI a.quant, .sl 2 (([] : List Ref).map refP) true, rowsO [], .sl 6 (a.cond.map nodeP) true], vI 0]) = [.tuple [.agg [vS a.name, vI a.quant, .sl 2 [] true, .sl 0 [] true, .sl 6 (a.cond.map nodeP) true], vI 0], .tuple [.agg [vS a.name, vI a.quant, .sl 0 [] false, .sl 0 [] true, .sl 6 (a.cond.map nodeP) true], vI 0]] := by
    simp only [PV.alts, altsL, hc, rowsO_0, List.map_nil, List.map_cons, List.flatMap_cons, List.flatMap_nil, List.append_nil, List.nil_append, List.cons_append]
   rw [e] at hq
   simp only [List.mem_cons, List.not_mem_nil, or_false] at hq
   rcases hq with rfl | rfl
   ·have := hC' (f M.length) (f (M.length + 1))
    simpa [meltV, meltL, mR, mC] using this
   ·have := hD' (f M.length)
    simpa [meltV, meltL, mR, mC] using this
  ·have hA' := hA hm
   have hS : rowsO (mrgR a.rows b.rows) = .sl 50 ((mrgR a.rows b.rows).map rowP) true := rowsO_ne hm
   have hs : PV.alts (.sl 50 ((mrgR a.rows b.rows).map rowP) true) = [.sl 50 ((mrgR a.rows b.rows).map rowP) true] := by
    cases e : mrgR a.rows b.rows with
    | nil => exact absurd e hm
    | cons x xs => rfl
   rw [hS] at hq
   by_cases hR : RR a b = []
   ·have hB' := hB hm hR
    have e : PV.alts (.tuple [.agg [vS a.name, vI a.quant, .sl 2 ((RR a b).map refP) true, .sl 50 ((mrgR a.rows b.rows).map rowP) true, .sl 6 (a.cond.map nodeP) true], vI 0]) = [.tuple [.agg [vS a.name, vI a.quant, .sl 2 ((RR a b).map refP) true, .sl 50 ((mrgR a.rows b.rows).map rowP) true, .sl 6 (a.cond.map nodeP) true], vI 0], .tuple [.agg [vS a.name, vI a.quant, .sl 0 [] false, .sl 50 ((mrgR a.rows b.rows).map rowP) true, .sl 6 (a.cond.map nodeP) true], vI 0]] := by
     rw [hR]
     simp only [PV.alts, altsL, hc, hs, List.map_nil, List.map_cons, List.flatMap_cons, List.flatMap_nil, List.append_nil, List.nil_append, List.cons_append]
    rw [e] at hq
    simp only [List.mem_cons, List.not_mem_nil, or_false] at hq
    rcases hq with rfl | rfl
    ·have := hA' (f M.length) (f (M.length + 1)) (f (M.length + 2))
     simpa [meltV, meltL, mR, mS, mC] using this
    ·have := hB' (f M.length) (f (M.length + 1))
     simpa [meltV, meltL, mS, mC] using this
   ·have hr : PV.alts (.sl 2 ((RR a b).map refP) true) = [.sl 2 ((RR a b).map refP) true] := by
     cases e : RR a b with
     | nil => exact absurd e hR
     | cons x xs => rfl
    have e : PV.alts (.tuple [.agg [vS a.name, vI a.quant, .sl 2 ((RR a b).map refP) true, .sl 50 ((mrgR a.rows b.rows).map rowP) true, .sl 6 (a.cond.map nodeP) true], vI 0]) = [.tuple [.agg [vS a.name, vI a.quant, .sl 2 ((RR a b).map refP) true, .sl 50 ((mrgR a.rows b.rows).map rowP) true, .sl 6 (a.cond.map nodeP) true], vI 0]] := by
     simp only [PV.alts, altsL, hc, hs, hr, List.map_nil, List.map_cons, List.flatMap_cons, List.flatMap_nil, List.append_nil, List.nil_append, List.cons_append]
    rw [e] at hq
    simp only [List.mem_cons, List.not_mem_nil, or_false] at hq
    subst hq
    have := hA' (f M.length) (f (M.length + 1)) (f (M.length + 2))
    simpa [meltV, meltL, mR, mS, mC] using this
end Go.Ve.H
end
