/-
  The two checks of a list of edges tell the same (chapter 26, Check): plain facts on the printed functions. No machine occurs here.
-/
import Derived.Test.YtjclpkddfpbdcaaDoorPureB1
namespace Go.Proofs.YtjclpkddfpbdcaaDoor.PureB
open Go.RowKit Go.Proofs.YtjclpkddfpbdcaaDoor.XC Go.Proofs.YtjclpkddfpbdcaaDoorW.PrintWords Go.Proofs.YtjclpkddfpbdcaaDoorW.PrintLast

def cnt (f : S79 → Bool) (p : List Int) : Int := ((p.filter fun e => f (row e)).length : Int)
theorem cnt_nil (f : S79 → Bool) : cnt f [] = 0 := rfl
theorem cnt_snoc (f : S79 → Bool) (p : List Int) (x : Int) : cnt f (p ++ [x]) = if f (row x) = true then cnt f p + 1 else cnt f p := by
  unfold cnt
  rw [List.filter_append]
  by_cases h : f (row x) = true
  · simp [h]
  · simp [h]
theorem cnt_le (f : S79 → Bool) (p : List Int) : 0 ≤ cnt f p ∧ cnt f p ≤ p.length := by
  unfold cnt
  have := List.length_filter_le (fun e => f (row e)) p
  omega
theorem take_snoc (ns : List Int) (i : Nat) (h : i < ns.length) : ns.take (i + 1) = ns.take i ++ [rd ns (i : Int)] := by
  rw [List.take_succ_eq_append_getElem h]
  simp [rd, h]
theorem num_rd (l : List ByteArray) (i : Nat) (h : i < l.length) : weirref26_num (rdOf ByteArray.empty l (i : Int)) = rd (l.map weirref26_num) (i : Int) := by
  simp [rdOf, rd, h]
theorem rd_ok {ns : List Int} (h : ∀ e ∈ ns, Ok e) (i : Nat) (hi : i < ns.length) : Ok (rd ns (i : Int)) := by
  apply h
  simp [rd, hi]

theorem round_loop (ns : List Int) (hn : ∀ e ∈ ns, Ok e) (hs : ns.length < 17592186044416) (d : Nat) : ∀ (i k : Nat), i + d = ns.length → d < k →
    cycle_round.l0 k ns R (cnt S79.f3 (ns.take i)) (cnt S79.f4 (ns.take i)) ns (ns.length : Int) (i : Int) = some (decide ((ns.length : Int) ≥ 2) && (decide (cnt S79.f3 ns ≥ 2) && decide (cnt S79.f4 ns ≥ 2))) := by
  induction d with
  | zero =>
    intro i k hi hk
    obtain ⟨k, rfl⟩ : ∃ m, k = m + 1 := ⟨k - 1, by omega⟩
    simp only [cycle_round.l0]
    rw [if_neg (by omega), List.take_of_length_le (by omega)]
    by_cases h1 : (ns.length : Int) ≥ 2
    · rw [if_pos h1]
      by_cases h2 : cnt S79.f3 ns ≥ 2
      · rw [if_pos h2]; simp [h1, h2]
      · rw [if_neg h2]; simp [h2]
    · rw [if_neg h1]; simp [h1]
  | succ d ih =>
    intro i k hi hk
    obtain ⟨k, rfl⟩ : ∃ m, k = m + 1 := ⟨k - 1, by omega⟩
    have hlt : i < ns.length := by omega
    have ho := rd_ok hn i hlt
    have h1 := ih (i + 1) k (by omega) (by omega)
    rw [take_snoc ns i hlt, cnt_snoc, cnt_snoc] at h1
    have c3 := cnt_le S79.f3 (ns.take i)
    have c4 := cnt_le S79.f4 (ns.take i)
    have hle : (ns.take i).length ≤ ns.length := by rw [List.length_take]; omega
    simp only [cycle_round.l0]
    rw [if_pos (by omega), if_pos (by omega), if_pos (by omega), if_pos ho.1, if_pos (by rw [R_len]; exact ho.2)]
    rw [w1 _ (by omega), w1i _ c3.1 (by omega), w1i _ c4.1 (by omega)]
    show (if (row (rd ns (i : Int))).f3 = true then _ else _) = _
    by_cases e3 : (row (rd ns (i : Int))).f3 = true <;> by_cases e4 : (row (rd ns (i : Int))).f4 = true <;> simp only [e3, e4, if_true, if_false, Bool.false_eq_true] at h1 ⊢
    all_goals first
      | (rw [if_pos (show (rd_T79 R (rd ns (i : Int))).f4 = true from e4)]; exact h1)
      | (rw [if_neg (show ¬ (rd_T79 R (rd ns (i : Int))).f4 = true from e4)]; exact h1)
theorem round_f (ns : List Int) (hn : ∀ e ∈ ns, Ok e) (hs : ns.length < 17592186044416) (k : Nat) (hk : ns.length + 40 < k) :
    cycle_round.f k ns = some (decide ((ns.length : Int) ≥ 2) && (decide (cnt S79.f3 ns ≥ 2) && decide (cnt S79.f4 ns ≥ 2))) := by
  unfold cycle_round.f
  rw [table k (by omega)]
  simp only [Option.bind_some]
  have h := round_loop ns hn hs ns.length 0 k (by omega) (by omega)
  simpa [cnt_nil] using h

end Go.Proofs.YtjclpkddfpbdcaaDoor.PureB
