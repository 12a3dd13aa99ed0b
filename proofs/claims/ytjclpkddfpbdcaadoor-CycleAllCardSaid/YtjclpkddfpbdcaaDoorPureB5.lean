/-
  Where edges are as many as are wanted: the program's look at them, and the reference's. No machine occurs here.
-/
import Derived.Test.YtjclpkddfpbdcaaDoorPureB4
import Derived.Test.YtjclpkddfpbdcaaDoorLay7
namespace Go.Proofs.YtjclpkddfpbdcaaDoor.PureB
open Go.RowKit Go.Proofs.YtjclpkddfpbdcaaDoor.XC Go.Proofs.YtjclpkddfpbdcaaDoor.Lay Go.Proofs.YtjclpkddfpbdcaaDoorW.PrintWords Go.Proofs.YtjclpkddfpbdcaaDoorW.PrintLast

theorem chainR (l : List ByteArray) (hl : l.length ≤ 16) (hv : ∀ s ∈ l, ¬ weirref26_num s < 0) (d : Nat) : ∀ (i k : Nat), i + d = l.length → d + 80 < k →
    ∃ r : Int × Int, weirref26_Check.l1 k l weirref26_names (cnt S79.f3 ((l.map weirref26_num).take i)) (cnt S79.f4 ((l.map weirref26_num).take i)) (i : Int) = some r ∧
      (r.2 = 0 ↔ (∀ j : Nat, i ≤ j → j < l.length → (row (rd (l.map weirref26_num) (((j + l.length - 1) % l.length : Nat) : Int))).f2 = (row (rd (l.map weirref26_num) (j : Int))).f1) ∧ 2 ≤ l.length ∧ 2 ≤ cnt S79.f3 (l.map weirref26_num) ∧ 2 ≤ cnt S79.f4 (l.map weirref26_num)) := by
  have hn : ∀ e ∈ l.map weirref26_num, Ok e := by
    intro e he
    obtain ⟨s, hs, rfl⟩ := List.mem_map.1 he
    exact num_ok (hv s hs)
  have hlen : (l.map weirref26_num).length = l.length := List.length_map _
  induction d with
  | zero =>
    intro i k hi hk
    obtain ⟨k, rfl⟩ : ∃ m, k = m + 1 := ⟨k - 1, by omega⟩
    have e1 : weirref26_Check.l1 (k + 1) l weirref26_names (cnt S79.f3 ((l.map weirref26_num).take i)) (cnt S79.f4 ((l.map weirref26_num).take i)) (i : Int) =
        (if (l.length : Int) < 2 then some (0, 260) else if cnt S79.f3 (l.map weirref26_num) < 2 then some (0, 260) else if cnt S79.f4 (l.map weirref26_num) < 2 then some (0, 260) else some (0, 0)) := by
      simp only [weirref26_Check.l1]
      rw [if_neg (show ¬ (i : Int) < (l.length : Int) by omega), List.take_of_length_le (by rw [hlen]; omega)]
    rw [e1]
    by_cases h1 : (l.length : Int) < 2
    · exact ⟨(0, 260), by rw [if_pos h1], ⟨fun h => by simp at h, fun h => by omega⟩⟩
    · rw [if_neg h1]
      by_cases h2 : cnt S79.f3 (l.map weirref26_num) < 2
      · exact ⟨(0, 260), by rw [if_pos h2], ⟨fun h => by simp at h, fun h => by omega⟩⟩
      · rw [if_neg h2]
        by_cases h3 : cnt S79.f4 (l.map weirref26_num) < 2
        · exact ⟨(0, 260), by rw [if_pos h3], ⟨fun h => by simp at h, fun h => by omega⟩⟩
        · exact ⟨(0, 0), by rw [if_neg h3], ⟨fun _ => ⟨fun j a b => by omega, by omega, by omega, by omega⟩, fun _ => rfl⟩⟩
  | succ d ih =>
    intro i k hi hk
    obtain ⟨k, rfl⟩ : ∃ m, k = m + 1 := ⟨k - 1, by omega⟩
    have hlt : i < l.length := by omega
    have hp : (i + l.length - 1) % l.length < l.length := Nat.mod_lt _ (by omega)
    have ho := rd_ok hn i (by rw [hlen]; exact hlt)
    have hq := rd_ok hn ((i + l.length - 1) % l.length) (by rw [hlen]; exact hp)
    obtain ⟨r, hr1, hr⟩ := ih (i + 1) k (by omega) (by omega)
    rw [take_snoc _ i (by rw [hlen]; exact hlt), cnt_snoc, cnt_snoc] at hr1
    have c3 := cnt_le S79.f3 ((l.map weirref26_num).take i)
    have c4 := cnt_le S79.f4 ((l.map weirref26_num).take i)
    have hle : ((l.map weirref26_num).take i).length ≤ l.length := by rw [List.length_take]; omega
    simp only [weirref26_Check.l1]
    rw [wlen i l.length hlt (by omega)]
    rw [if_pos (show (i : Int) < (l.length : Int) by omega), if_pos (show (0 : Int) ≤ (i : Int) by omega), Number_f, num_rd l i hlt]
    simp only [Option.bind_some]
    rw [if_neg (show ¬ (l.length : Int) = 0 by omega), if_pos (show (0 : Int) ≤ (((i + l.length - 1) % l.length : Nat) : Int) by omega), if_pos (show (((i + l.length - 1) % l.length : Nat) : Int) < (l.length : Int) by omega), Number_f, num_rd l _ hp]
    simp only [Option.bind_some]
    rw [ends_ok hq, begins_ok ho]
    simp only [Option.bind_some]
    rw [out_ok ho, away_ok ho]
    simp only [Option.bind_some]
    by_cases e : (row (rd (l.map weirref26_num) (((i + l.length - 1) % l.length : Nat) : Int))).f2 = (row (rd (l.map weirref26_num) (i : Int))).f1
    · refine ⟨r, ?_, hr.trans ⟨fun ⟨h1, h2⟩ => ⟨fun j a b => ?_, h2⟩, fun ⟨h1, h2⟩ => ⟨fun j a b => h1 j (by omega) b, h2⟩⟩⟩
      · rw [if_pos e, w1 _ (by omega), w1i _ c3.1 (by omega), w1i _ c4.1 (by omega)]
        by_cases e3 : (row (rd (l.map weirref26_num) (i : Int))).f3 = true <;> by_cases e4 : (row (rd (l.map weirref26_num) (i : Int))).f4 = true
        · rw [if_pos e3, if_pos e4] at hr1; rw [if_pos e3, if_pos e4]; exact hr1
        · rw [if_pos e3, if_neg e4] at hr1; rw [if_pos e3, if_neg e4]; exact hr1
        · rw [if_neg e3, if_pos e4] at hr1; rw [if_neg e3, if_pos e4]; exact hr1
        · rw [if_neg e3, if_neg e4] at hr1; rw [if_neg e3, if_neg e4]; exact hr1
      · rcases Nat.eq_or_lt_of_le a with rfl | a
        · exact e
        · exact h1 j a b
    · refine ⟨((i : Int), 260), by rw [if_neg e], ⟨fun h => by simp at h, fun h => absurd (h.1 i (Nat.le_refl _) hlt) e⟩⟩

/-- The reference's Check, of names. -/
theorem check_ref (l : List ByteArray) (hl : l.length ≤ 16) (hv : ∀ s ∈ l, ¬ weirref26_num s < 0) (k : Nat) (hk : l.length + 200 < k) :
    ∃ r : Int × Int, weirref26_Check.f k l weirref26_names = some r ∧
      (r.2 = 0 ↔ (∀ j : Nat, j < l.length → (row (rd (l.map weirref26_num) (((j + l.length - 1) % l.length : Nat) : Int))).f2 = (row (rd (l.map weirref26_num) (j : Int))).f1) ∧ 2 ≤ l.length ∧ 2 ≤ cnt S79.f3 (l.map weirref26_num) ∧ 2 ≤ cnt S79.f4 (l.map weirref26_num)) := by
  unfold weirref26_Check.f
  rw [if_neg (by omega)]
  have h0 := (refnum_loop l l [] [] k (by simp) (by omega) (by omega)).1 hv
  simp only [List.length_nil] at h0
  rw [show (0 : Int) = ((0 : Nat) : Int) from rfl, h0]
  obtain ⟨r, h1, h2⟩ := chainR l hl hv l.length 0 (k - l.length - 1) (by omega) (by omega)
  refine ⟨r, ?_, h2.trans ⟨fun ⟨a, b⟩ => ⟨fun j c => a j (by omega) c, b⟩, fun ⟨a, b⟩ => ⟨fun j _ c => a j c, b⟩⟩⟩
  simpa [cnt_nil] using h1
end Go.Proofs.YtjclpkddfpbdcaaDoor.PureB
