/-
  The two checks of a list of edges tell the same (chapter 26, Check): plain facts on the printed functions. No machine occurs here.
-/
import Derived.Test.YtjclpkddfpbdcaaDoorPureA1
namespace Go.Proofs.YtjclpkddfpbdcaaDoor.PureA
open Go.RowKit Go.Proofs.YtjclpkddfpbdcaaDoor.XA Go.Proofs.YtjclpkddfpbdcaaDoorW.PrintWords Go.Proofs.YtjclpkddfpbdcaaDoorW.PrintLast

def cnt (f : S79 → Bool) (p : List Int) : Int := ((p.filter fun e => f (row e)).length : Int)
theorem cnt_nil (f : S79 → Bool) : cnt f [] = 0 := rfl
theorem cnt_snoc (f : S79 → Bool) (p : List Int) (x : Int) : cnt f (p ++ [x]) = if f (row x) = true then cnt f p + 1 else cnt f p := by
  unfold cnt
  rw [List.filter_append]
  by_cases h : f (row x) = true
  · simp [h]
  · simp [h]
theorem cnt_le (f : S79 → Bool) (p : List Int) : 0 ≤ cnt f p ∧ cnt f p ≤ p.length := by
  unfold cnt
  have := List.length_filter_le (fun e => f (row e)) p
  omega
theorem take_snoc (ns : List Int) (i : Nat) (h : i < ns.length) : ns.take (i + 1) = ns.take i ++ [rd ns (i : Int)] := by
  rw [List.take_succ_eq_append_getElem h]
  simp [rd, h]
theorem num_rd (l : List ByteArray) (i : Nat) (h : i < l.length) : weirref26_num (rdOf ByteArray.empty l (i : Int)) = rd (l.map weirref26_num) (i : Int) := by
  simp [rdOf, rd, h]
theorem rd_ok {ns : List Int} (h : ∀ e ∈ ns, Ok e) (i : Nat) (hi : i < ns.length) : Ok (rd ns (i : Int)) := by
  apply h
  simp [rd, hi]

theorem round_loop (ns : List Int) (hn : ∀ e ∈ ns, Ok e) (hs : ns.length < 17592186044416) (d : Nat) : ∀ (i k : Nat), i + d = ns.length → d < k →
    cycle_round.l0 k ns R (cnt S79.f3 (ns.take i)) (cnt S79.f4 (ns.take i)) ns (ns.length : Int) (i : Int) = some (decide ((ns.length : Int) ≥ 2) && (decide (cnt S79.f3 ns ≥ 2) && decide (cnt S79.f4 ns ≥ 2))) := by
  induction d with
  | zero =>
    intro i k hi hk
    obtain ⟨k, rfl⟩ : ∃ m, k = m + 1 := ⟨k - 1, by omega⟩
    simp only [cycle_round.l0]
    rw [if_neg (by omega), List.take_of_length_le (by omega)]
    by_cases h1 : (ns.length : Int) ≥ 2
    · rw [if_pos h1]
      by_cases h2 : cnt S79.f3 ns ≥ 2
      · rw [if_pos h2]; simp [h1, h2]
      · rw [if_neg h2]; simp [h2]
    · rw [if_neg h1]; simp [h1]
  | succ d ih =>
    intro i k hi hk
    obtain ⟨k, rfl⟩ : ∃ m, k = m + 1 := ⟨k - 1, by omega⟩
    have hlt : i < ns.length := by omega
    have ho := rd_ok hn i hlt
    have h1 := ih (i + 1) k (by omega) (by omega)
    rw [take_snoc ns i hlt, cnt_snoc, cnt_snoc] at h1
    have c3 := cnt_le S79.f3 (ns.take i)
    have c4 := cnt_le S79.f4 (ns.take i)
    have hle : (ns.take i).length ≤ ns.length := by rw [List.length_take]; omega
    simp only [cycle_round.l0]
    rw [if_pos (by omega), if_pos (by omega), if_pos (by omega), if_pos ho.1, if_pos (by rw [R_len]; exact ho.2)]
    rw [w1 _ (by omega), w1i _ c3.1 (by omega), w1i _ c4.1 (by omega)]
    show (if (row (rd ns (i : Int))).f3 = true then _ else _) = _
    by_cases e3 : (row (rd ns (i : Int))).f3 = true <;> by_cases e4 : (row (rd ns (i : Int))).f4 = true <;> simp only [e3, e4, if_true, if_false, Bool.false_eq_true] at h1 ⊢
    all_goals first
      | (rw [if_pos (show (rd_T79 R (rd ns (i : Int))).f4 = true from e4)]; exact h1)
      | (rw [if_neg (show ¬ (rd_T79 R (rd ns (i : Int))).f4 = true from e4)]; exact h1)
theorem round_f (ns : List Int) (hn : ∀ e ∈ ns, Ok e) (hs : ns.length < 17592186044416) (k : Nat) (hk : ns.length + 40 < k) :
    cycle_round.f k ns = some (decide ((ns.length : Int) ≥ 2) && (decide (cnt S79.f3 ns ≥ 2) && decide (cnt S79.f4 ns ≥ 2))) := by
  unfold cycle_round.f
  rw [table k (by omega)]
  simp only [Option.bind_some]
  have h := round_loop ns hn hs ns.length 0 k (by omega) (by omega)
  simpa [cnt_nil] using h

theorem chain (l : List ByteArray) (hl : l.length ≤ 16) (hv : ∀ s ∈ l, ¬ weirref26_num s < 0) (d : Nat) : ∀ (i k : Nat), i + d = l.length → d + 80 < k →
    ∃ r : Int × Int, (r.2 = 0 ∧ r.1 = 0 ∧ 2 ≤ l.length ∨ r.2 = 260) ∧
      weirref26_Check.l1 k l weirref26_names (cnt S79.f3 ((l.map weirref26_num).take i)) (cnt S79.f4 ((l.map weirref26_num).take i)) (i : Int) = some r ∧
      cycle_check.l0 k (l.map weirref26_num) R ((l.map weirref26_num).length : Int) (i : Int) = some (if r.2 = 0 then l.map weirref26_num else [], r.1, r.2) := by
  have hn : ∀ e ∈ l.map weirref26_num, Ok e := by
    intro e he
    obtain ⟨s, hs, rfl⟩ := List.mem_map.1 he
    exact num_ok (hv s hs)
  have hlen : (l.map weirref26_num).length = l.length := List.length_map _
  induction d with
  | zero =>
    intro i k hi hk
    obtain ⟨k, rfl⟩ : ∃ m, k = m + 1 := ⟨k - 1, by omega⟩
    have e1 : weirref26_Check.l1 (k + 1) l weirref26_names (cnt S79.f3 ((l.map weirref26_num).take i)) (cnt S79.f4 ((l.map weirref26_num).take i)) (i : Int) =
        (if (l.length : Int) < 2 then some (0, 260) else if cnt S79.f3 (l.map weirref26_num) < 2 then some (0, 260) else if cnt S79.f4 (l.map weirref26_num) < 2 then some (0, 260) else some (0, 0)) := by
      simp only [weirref26_Check.l1]
      rw [if_neg (show ¬ (i : Int) < (l.length : Int) by omega), List.take_of_length_le (by rw [hlen]; omega)]
    have e2 : cycle_check.l0 (k + 1) (l.map weirref26_num) R ((l.map weirref26_num).length : Int) (i : Int) =
        (if (decide ((l.length : Int) ≥ 2) && (decide (cnt S79.f3 (l.map weirref26_num) ≥ 2) && decide (cnt S79.f4 (l.map weirref26_num) ≥ 2))) = true then some (l.map weirref26_num, 0, 0) else some ([], 0, 260)) := by
      simp only [cycle_check.l0]
      rw [if_neg (show ¬ (i : Int) < ((l.map weirref26_num).length : Int) by rw [hlen]; omega), round_f _ hn (by rw [hlen]; omega) k (by rw [hlen]; omega), hlen]
      rfl
    rw [e1, e2]
    by_cases h1 : (l.length : Int) < 2
    · refine ⟨(0, 260), .inr rfl, by rw [if_pos h1], ?_⟩
      rw [if_neg (by simp; omega)]; simp
    · rw [if_neg h1]
      by_cases h2 : cnt S79.f3 (l.map weirref26_num) < 2
      · refine ⟨(0, 260), .inr rfl, by rw [if_pos h2], ?_⟩
        rw [if_neg (by simp; omega)]; simp
      · rw [if_neg h2]
        by_cases h3 : cnt S79.f4 (l.map weirref26_num) < 2
        · refine ⟨(0, 260), .inr rfl, by rw [if_pos h3], ?_⟩
          rw [if_neg (by simp; omega)]; simp
        · refine ⟨(0, 0), .inl ⟨rfl, rfl, by omega⟩, by rw [if_neg h3], ?_⟩
          rw [if_pos (by simp; omega)]; simp
  | succ d ih =>
    intro i k hi hk
    obtain ⟨k, rfl⟩ : ∃ m, k = m + 1 := ⟨k - 1, by omega⟩
    have hlt : i < l.length := by omega
    have hp : (i + l.length - 1) % l.length < l.length := Nat.mod_lt _ (by omega)
    have ho := rd_ok hn i (by rw [hlen]; exact hlt)
    have hq := rd_ok hn ((i + l.length - 1) % l.length) (by rw [hlen]; exact hp)
    obtain ⟨r, hr, hr1, hr2⟩ := ih (i + 1) k (by omega) (by omega)
    rw [take_snoc _ i (by rw [hlen]; exact hlt), cnt_snoc, cnt_snoc] at hr1
    have c3 := cnt_le S79.f3 ((l.map weirref26_num).take i)
    have c4 := cnt_le S79.f4 ((l.map weirref26_num).take i)
    have hle : ((l.map weirref26_num).take i).length ≤ l.length := by rw [List.length_take]; omega
    simp only [weirref26_Check.l1, cycle_check.l0]
    rw [hlen, wlen i l.length hlt (by omega)]
    rw [if_pos (show (i : Int) < (l.length : Int) by omega), if_pos (show (0 : Int) ≤ (i : Int) by omega), Number_f, num_rd l i hlt]
    simp only [Option.bind_some]
    rw [if_neg (show ¬ (l.length : Int) = 0 by omega), if_pos (show (0 : Int) ≤ (((i + l.length - 1) % l.length : Nat) : Int) by omega), if_pos (show (((i + l.length - 1) % l.length : Nat) : Int) < (l.length : Int) by omega), Number_f, num_rd l _ hp]
    simp only [Option.bind_some]
    rw [ends_ok hq, begins_ok ho]
    simp only [Option.bind_some]
    rw [out_ok ho, away_ok ho]
    simp only [Option.bind_some]
    rw [if_pos (show (i : Int) < (l.length : Int) by omega)]
    rw [if_neg (show ¬ (l.length : Int) = 0 by omega), if_pos (show (0 : Int) ≤ (((i + l.length - 1) % l.length : Nat) : Int) by omega), if_pos (show (((i + l.length - 1) % l.length : Nat) : Int) < (l.length : Int) by omega)]
    rw [if_pos hq.1, if_pos (show _ < (R.length : Int) by rw [R_len]; exact hq.2), if_pos (show (0 : Int) ≤ (i : Int) by omega), if_pos (show (i : Int) < (l.length : Int) by omega), if_pos ho.1, if_pos (show _ < (R.length : Int) by rw [R_len]; exact ho.2)]
    by_cases e : (row (rd (l.map weirref26_num) (((i + l.length - 1) % l.length : Nat) : Int))).f2 = (row (rd (l.map weirref26_num) (i : Int))).f1
    · refine ⟨r, hr, ?_, ?_⟩
      · rw [if_pos e, w1 _ (by omega), w1i _ c3.1 (by omega), w1i _ c4.1 (by omega)]
        by_cases e3 : (row (rd (l.map weirref26_num) (i : Int))).f3 = true <;> by_cases e4 : (row (rd (l.map weirref26_num) (i : Int))).f4 = true
        · rw [if_pos e3, if_pos e4] at hr1; rw [if_pos e3, if_pos e4]; exact hr1
        · rw [if_pos e3, if_neg e4] at hr1; rw [if_pos e3, if_neg e4]; exact hr1
        · rw [if_neg e3, if_pos e4] at hr1; rw [if_neg e3, if_pos e4]; exact hr1
        · rw [if_neg e3, if_neg e4] at hr1; rw [if_neg e3, if_neg e4]; exact hr1
      · rw [if_pos (show (rd_T79 R _).f2 = (rd_T79 R _).f1 from e), w1 _ (by omega)]
        rw [hlen] at hr2
        exact hr2
    · refine ⟨((i : Int), 260), .inr rfl, by rw [if_neg e], ?_⟩
      rw [if_neg (show ¬ (rd_T79 R _).f2 = (rd_T79 R _).f1 from e)]
      simp

/-- THE TWO CHECKS: one answer; where it is 'right', all names are edges, and there are 2 to 16 of them. -/
theorem checks (l : List ByteArray) (hl : l.length < 8796093022208) (k : Nat) (hk : l.length + 200 < k) :
    ∃ r : Int × Int, weirref26_Check.f k l weirref26_names = some r ∧
      ((r.2 ≠ 0 ∧ cycle_check.f k l = some ([], r.1, r.2)) ∨
       (r = (0, 0) ∧ cycle_check.f k l = some (l.map weirref26_num, 0, 0) ∧ 2 ≤ l.length ∧ l.length ≤ 16 ∧ ∀ s ∈ l, ¬ weirref26_num s < 0)) := by
  unfold weirref26_Check.f cycle_check.f
  by_cases h16 : (l.length : Int) > 16
  · rw [if_pos h16, if_pos h16]
    exact ⟨(0, 1), rfl, .inl ⟨by decide, rfl⟩⟩
  · rw [if_neg h16, if_neg h16, numbers_f l (by omega) k (by omega)]
    simp only [Option.bind_some]
    by_cases hv : ∀ s ∈ l, ¬ weirref26_num s < 0
    · have h0 := (refnum_loop l l [] [] k (by simp) (by omega) (by omega)).1 hv
      simp only [List.length_nil] at h0
      rw [show (0 : Int) = ((0 : Nat) : Int) from rfl, h0, numRes_all l [] 0 hv]
      simp only [List.nil_append]
      rw [if_neg (by decide), table k (by omega)]
      simp only [Option.bind_some]
      obtain ⟨r, hr, hr1, hr2⟩ := chain l (by omega) hv l.length 0 (k - l.length - 1) (by omega) (by omega)
      simp only [List.take_zero, cnt_nil] at hr1
      have hr2' := at_rounds (g := fun k => cycle_check.l0 k (l.map weirref26_num) R ((l.map weirref26_num).length : Int) ((0 : Nat) : Int)) (fun k => cycle_check.mono_l k _ _ _ _) (show k - l.length - 1 ≤ k by omega) hr2
      refine ⟨r, hr1, ?_⟩
      rcases hr with ⟨a, b, c⟩ | a
      · right
        obtain ⟨r1, r2⟩ := r
        simp only at a b
        subst a; subst b
        exact ⟨rfl, by simpa using hr2', c, by omega, hv⟩
      · left
        rw [a] at hr2' ⊢
        exact ⟨by decide, by simpa using hr2'⟩
    · have hv' : ∃ s ∈ l, weirref26_num s < 0 := by
        simpa using hv
      obtain ⟨j, hj⟩ := numRes_bad l [] 0 hv'
      have h0 := (refnum_loop l l [] [] k (by simp) (by omega) (by omega)).2 hv'
      simp only [List.length_nil] at h0
      rw [hj] at h0 ⊢
      rw [show (0 : Int) = ((0 : Nat) : Int) from rfl, h0]
      refine ⟨_, rfl, .inl ⟨by simp, ?_⟩⟩
      rw [if_pos (by simp only; omega)]
end Go.Proofs.YtjclpkddfpbdcaaDoor.PureA
