/-
  CycleChecks (26.2, 26.3, 26.6) of the printed functions: whatever the list, the law's function answers true. No machine occurs here.
-/
import Derived.Test.YtjclpkddfpbdcaaDoorPureB3
namespace Go.Proofs.YtjclpkddfpbdcaaDoor.PureB
open Go.RowKit Go.Proofs.YtjclpkddfpbdcaaDoor.XC Go.Proofs.YtjclpkddfpbdcaaDoorW.PrintWords Go.Proofs.YtjclpkddfpbdcaaDoorW.PrintLast

theorem same_loop (l : List ByteArray) (hl : l.length < 17592186044416) (d : Nat) : ∀ (i k : Nat), i + d = l.length → d < k → weirlaw26_same.l0 k l l (i : Int) = some true := by
  induction d with
  | zero =>
    intro i k hi hk
    obtain ⟨k, rfl⟩ : ∃ m, k = m + 1 := ⟨k - 1, by omega⟩
    simp only [weirlaw26_same.l0]
    rw [if_neg (by omega)]
  | succ d ih =>
    intro i k hi hk
    obtain ⟨k, rfl⟩ : ∃ m, k = m + 1 := ⟨k - 1, by omega⟩
    simp only [weirlaw26_same.l0]
    rw [if_pos (by omega), if_pos (by omega), if_pos (by omega), if_pos trivial, w1 _ (by omega)]
    exact ih (i + 1) k (by omega) (by omega)
theorem same_f (l : List ByteArray) (hl : l.length < 17592186044416) (k : Nat) (hk : l.length < k) : weirlaw26_same.f k l l = some true := by
  unfold weirlaw26_same.f
  rw [if_pos rfl]
  exact same_loop l hl l.length 0 k (by omega) hk
theorem spoil_l1 (d : Nat) : ∀ (x : List ByteArray) (j k : Nat), j + d = 20 → d < k → x.length + d < 100 → weirlaw26_spoil.l1 k x (j : Int) = some () := by
  induction d with
  | zero =>
    intro x j k hj hk hx
    obtain ⟨k, rfl⟩ : ∃ m, k = m + 1 := ⟨k - 1, by omega⟩
    simp only [weirlaw26_spoil.l1]
    rw [if_neg (by omega)]
  | succ d ih =>
    intro x j k hj hk hx
    obtain ⟨k, rfl⟩ : ∃ m, k = m + 1 := ⟨k - 1, by omega⟩
    simp only [weirlaw26_spoil.l1]
    rw [if_pos (by omega), if_pos (by omega), w1 _ (by omega)]
    exact ih _ (j + 1) k (by omega) (by omega) (by simp; omega)
theorem spoil_l0 (d : Nat) : ∀ (x : List ByteArray) (i k : Nat), i + d = x.length → d + 40 < k → x.length ≤ 16 → weirlaw26_spoil.l0 k x (i : Int) = some () := by
  induction d with
  | zero =>
    intro x i k hi hk hx
    obtain ⟨k, rfl⟩ : ∃ m, k = m + 1 := ⟨k - 1, by omega⟩
    simp only [weirlaw26_spoil.l0]
    rw [if_neg (by omega)]
    exact spoil_l1 20 x 0 k (by omega) (by omega) (by omega)
  | succ d ih =>
    intro x i k hi hk hx
    obtain ⟨k, rfl⟩ : ∃ m, k = m + 1 := ⟨k - 1, by omega⟩
    simp only [weirlaw26_spoil.l0]
    rw [if_pos (by omega), if_pos (by omega), w1 _ (by omega)]
    exact ih _ (i + 1) k (by simp; omega) (by omega) (by simp; omega)
theorem spoil_f (x : List ByteArray) (hx : x.length ≤ 16) (k : Nat) (hk : 100 < k) : weirlaw26_spoil.f k x = some () := by
  unfold weirlaw26_spoil.f
  exact spoil_l0 x.length x 0 k (by omega) (by omega) hx
theorem back_f (l : List ByteArray) (hl : l.length < 8796093022208) (k : Nat) (hk : l.length < k) : weirlaw26_back.f k l l (l ++ [weirlaw26_holder]) = some true := by
  have hw : wrap64 ((l.length : Int) + 1) = ((l.length + 1 : Nat) : Int) := w1 _ (by omega)
  unfold weirlaw26_back.f
  rw [hw, if_pos (by omega), if_pos (by simp), same_f l (by omega) k hk]
  simp only [Option.bind_some, if_true]
  have ht : (l ++ [weirlaw26_holder]).take (l.length + 1) = l ++ [weirlaw26_holder] := List.take_of_length_le (by simp)
  rw [Int.toNat_natCast, ht, if_pos (by omega), if_pos (by simp; omega)]
  have hr : rdOf ByteArray.empty (l ++ [weirlaw26_holder]) (l.length : Int) = weirlaw26_holder := rdS_mid l [] _
  rw [hr]
  have he : (weirlaw26_holder.toList == ([104, 111, 108, 100, 101, 114] : List UInt8)) = true := by kernel_rfl
  rw [he]

end Go.Proofs.YtjclpkddfpbdcaaDoor.PureB
