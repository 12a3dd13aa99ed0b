/-
  Plain facts on the printed functions of package cycle and of its reference (chapter 26): the table of edges, the numbers of names, and the two checks. No machine occurs here.
-/
import Derived.Test.YtjclpkddfpbdcaaDoorXC
namespace Go.Proofs.YtjclpkddfpbdcaaDoor.PureB
open Go.RowKit Go.Proofs.YtjclpkddfpbdcaaDoor.XC Go.Proofs.YtjclpkddfpbdcaaDoorW.PrintWords Go.Proofs.YtjclpkddfpbdcaaDoorW.PrintLast

theorem w1 (i : Nat) (h : i < 4611686018427387904) : wrap64 ((i : Int) + 1) = ((i + 1 : Nat) : Int) := by
  unfold wrap64; omega
theorem w1i (i : Int) (h0 : 0 ≤ i) (h : i < 4611686018427387904) : wrap64 (i + 1) = i + 1 := by
  unfold wrap64; omega
theorem wlen (i n : Nat) (hi : i < n) (hn : n < 4611686018427387904) : Int.tmod (wrap64 ((wrap64 ((i : Int) + (n : Int))) - 1)) (n : Int) = (((i + n - 1) % n : Nat) : Int) := by
  have e : wrap64 ((wrap64 ((i : Int) + (n : Int))) - 1) = ((i + n - 1 : Nat) : Int) := by unfold wrap64; omega
  rw [e, Int.tmod_eq_emod_of_nonneg (by omega)]
  omega
theorem rdS_mid (p r : List ByteArray) (s : ByteArray) : rdOf ByteArray.empty (p ++ s :: r) (p.length : Int) = s := by
  simp [rdOf]
theorem rdI_mid (p r : List Int) (s : Int) : rd (p ++ s :: r) (p.length : Int) = s := by
  simp [rd]

/-- The table of all edges. -/
def R : List S79 := [⟨⟨#[82, 102, 101]⟩, 87, 82, true, false, false⟩, ⟨⟨#[82, 102, 105]⟩, 87, 82, false, false, false⟩, ⟨⟨#[70, 114, 101]⟩, 82, 87, true, false, false⟩, ⟨⟨#[70, 114, 105]⟩, 82, 87, false, false, false⟩, ⟨⟨#[67, 111, 101]⟩, 87, 87, true, false, false⟩, ⟨⟨#[67, 111, 105]⟩, 87, 87, false, false, false⟩,
  ⟨⟨#[80, 111, 100, 82, 82]⟩, 82, 82, false, true, false⟩, ⟨⟨#[80, 111, 100, 82, 87]⟩, 82, 87, false, true, false⟩, ⟨⟨#[80, 111, 100, 87, 82]⟩, 87, 82, false, true, false⟩, ⟨⟨#[80, 111, 100, 87, 87]⟩, 87, 87, false, true, false⟩,
  ⟨⟨#[80, 111, 115, 82, 82]⟩, 82, 82, false, false, false⟩, ⟨⟨#[80, 111, 115, 82, 87]⟩, 82, 87, false, false, false⟩, ⟨⟨#[80, 111, 115, 87, 82]⟩, 87, 82, false, false, false⟩, ⟨⟨#[80, 111, 115, 87, 87]⟩, 87, 87, false, false, false⟩,
  ⟨⟨#[77, 70, 101, 110, 99, 101, 100, 82, 82]⟩, 82, 82, false, true, true⟩, ⟨⟨#[77, 70, 101, 110, 99, 101, 100, 82, 87]⟩, 82, 87, false, true, true⟩, ⟨⟨#[77, 70, 101, 110, 99, 101, 100, 87, 82]⟩, 87, 82, false, true, true⟩, ⟨⟨#[77, 70, 101, 110, 99, 101, 100, 87, 87]⟩, 87, 87, false, true, true⟩]
theorem R_len : R.length = 18 := rfl
theorem table_30 : cycle_table.f 30 = some R := by kernel_rfl
theorem table (k : Nat) (h : 30 ≤ k) : cycle_table.f k = some R := at_rounds cycle_table.mono h table_30
theorem edges_60 : cycle_Edges.f 60 = some weirref26_names := by kernel_rfl
theorem edges (k : Nat) (h : 60 ≤ k) : cycle_Edges.f k = some weirref26_names := at_rounds cycle_Edges.mono h edges_60
/-- The row of an edge. -/
def row (e : Int) : S79 := rd_T79 R e
def nm (e : Int) : ByteArray := (row e).f0
def Ok (e : Int) : Prop := 0 ≤ e ∧ e < 18
theorem Ok.cases {P : Int → Prop} {e : Int} (h : Ok e) (h0 : P 0) (h1 : P 1) (h2 : P 2) (h3 : P 3) (h4 : P 4) (h5 : P 5) (h6 : P 6) (h7 : P 7) (h8 : P 8) (h9 : P 9) (h10 : P 10) (h11 : P 11) (h12 : P 12) (h13 : P 13) (h14 : P 14) (h15 : P 15) (h16 : P 16) (h17 : P 17) : P e := by
  obtain ⟨a, b⟩ := h
  have : e = 0 ∨ e = 1 ∨ e = 2 ∨ e = 3 ∨ e = 4 ∨ e = 5 ∨ e = 6 ∨ e = 7 ∨ e = 8 ∨ e = 9 ∨ e = 10 ∨ e = 11 ∨ e = 12 ∨ e = 13 ∨ e = 14 ∨ e = 15 ∨ e = 16 ∨ e = 17 := by omega
  rcases this with rfl | rfl | rfl | rfl | rfl | rfl | rfl | rfl | rfl | rfl | rfl | rfl | rfl | rfl | rfl | rfl | rfl | rfl <;> assumption
theorem begins_ok {e : Int} (h : Ok e) : weirref26_begins.f e = some (row e).f1 := by
  refine h.cases (P := fun e => weirref26_begins.f e = some (row e).f1) ?_ ?_ ?_ ?_ ?_ ?_ ?_ ?_ ?_ ?_ ?_ ?_ ?_ ?_ ?_ ?_ ?_ ?_ <;> kernel_rfl
theorem ends_ok {e : Int} (h : Ok e) : weirref26_ends.f e = some (row e).f2 := by
  refine h.cases (P := fun e => weirref26_ends.f e = some (row e).f2) ?_ ?_ ?_ ?_ ?_ ?_ ?_ ?_ ?_ ?_ ?_ ?_ ?_ ?_ ?_ ?_ ?_ ?_ <;> kernel_rfl
theorem out_ok {e : Int} (h : Ok e) : weirref26_Out.f e = some (row e).f3 := by
  refine h.cases (P := fun e => weirref26_Out.f e = some (row e).f3) ?_ ?_ ?_ ?_ ?_ ?_ ?_ ?_ ?_ ?_ ?_ ?_ ?_ ?_ ?_ ?_ ?_ ?_ <;> kernel_rfl
theorem away_ok {e : Int} (h : Ok e) : weirref26_Away.f e = some (row e).f4 := by
  refine h.cases (P := fun e => weirref26_Away.f e = some (row e).f4) ?_ ?_ ?_ ?_ ?_ ?_ ?_ ?_ ?_ ?_ ?_ ?_ ?_ ?_ ?_ ?_ ?_ ?_ <;> kernel_rfl
theorem nm_names {e : Int} (h : Ok e) : nm e = weirref26_names.getD e.toNat ByteArray.empty := by
  refine h.cases (P := fun e => nm e = weirref26_names.getD e.toNat ByteArray.empty) ?_ ?_ ?_ ?_ ?_ ?_ ?_ ?_ ?_ ?_ ?_ ?_ ?_ ?_ ?_ ?_ ?_ ?_ <;> kernel_rfl

/-! ### numbers of names -/
theorem bytes_inj {a b : ByteArray} (h : a.toList = b.toList) : a = b := by
  rw [ByteArray.toList_eq, ByteArray.toList_eq] at h
  exact ByteArray.ext (Array.toList_inj.1 h)
theorem num_cases (s : ByteArray) : weirref26_num s = -1 ∨ (Ok (weirref26_num s) ∧ nm (weirref26_num s) = s) := by
  unfold weirref26_num
  cases e : weirref26_names.findIdx? (fun n => n.toList == s.toList) with
  | none => left; rfl
  | some j =>
    right
    rw [List.findIdx?_eq_some_iff_getElem] at e
    obtain ⟨hj, he, _⟩ := e
    have hj' : j < 18 := hj
    have hok : Ok (j : Int) := ⟨by omega, by omega⟩
    refine ⟨hok, ?_⟩
    show nm (j : Int) = s
    rw [nm_names hok, Int.toNat_natCast, List.getD_eq_getElem?_getD, List.getElem?_eq_getElem hj]
    exact bytes_inj (by simpa using he)
theorem num_ok {s : ByteArray} (h : ¬ weirref26_num s < 0) : Ok (weirref26_num s) := by
  rcases num_cases s with h1 | h1
  · omega
  · exact h1.1
theorem nm_num {s : ByteArray} (h : ¬ weirref26_num s < 0) : nm (weirref26_num s) = s := by
  rcases num_cases s with h1 | h1
  · omega
  · exact h1.2
theorem Number_f (s : ByteArray) : weirref26_Number.f s weirref26_names = some (weirref26_num s) := if_pos rfl

theorem index_loop (s : ByteArray) (r : List ByteArray) : ∀ (p : List ByteArray) (k : Nat), (p ++ r).length < 4611686018427387904 → r.length < k →
    slices_Index_string_string.l0 k (p ++ r) s ((p ++ r).length : Int) (p.length : Int) = some ((r.findIdx? (fun n => n.toList == s.toList)).elim (-1) (fun j => ((p.length + j : Nat) : Int))) := by
  induction r with
  | nil =>
    intro p k hp hk
    obtain ⟨k, rfl⟩ : ∃ m, k = m + 1 := ⟨k - 1, by simp at hk; omega⟩
    simp only [slices_Index_string_string.l0]
    rw [if_neg (by simp)]
    rfl
  | cons x r ih =>
    intro p k hp hk
    obtain ⟨k, rfl⟩ : ∃ m, k = m + 1 := ⟨k - 1, by simp at hk; omega⟩
    have hp' := hp
    simp only [List.length_append, List.length_cons] at hp hk
    simp only [slices_Index_string_string.l0]
    have hl : (p.length : Int) < ((p ++ x :: r).length : Int) := by simp; omega
    rw [if_pos hl, if_pos (by omega), if_pos hl, rdS_mid, List.findIdx?_cons]
    by_cases e : s.toList = x.toList
    · rw [if_pos e, e]
      simp
    · rw [if_neg e, w1 _ (by omega)]
      have h1 := ih (p ++ [x]) k (by simp; omega) (by omega)
      simp only [List.append_assoc, List.singleton_append, List.length_append, List.length_singleton] at h1
      have h2 : (x.toList == s.toList) = false := by rw [beq_eq_false_iff_ne]; exact fun h => e h.symm
      simp only [List.length_append, List.length_cons] at h1 ⊢
      rw [show p.length + (0 + 1) = p.length + 1 from by omega] at h1
      rw [h1, h2]
      cases List.findIdx? (fun n => n.toList == s.toList) r with
      | none => rfl
      | some j => simp; omega
theorem index_names (s : ByteArray) (k : Nat) (hk : 18 < k) : slices_Index_string_string.f k weirref26_names s = some (weirref26_num s) := by
  have h := index_loop s weirref26_names [] k (by decide) hk
  simp only [List.nil_append, List.length_nil] at h
  unfold slices_Index_string_string.f
  rw [show (0 : Int) = ((0 : Nat) : Int) from rfl, h]
  unfold weirref26_num
  cases List.findIdx? (fun n => n.toList == s.toList) weirref26_names with
  | none => rfl
  | some j => simp

/-- What 'numbers' tells: the numbers behind those that are told already, or the first name that is none. -/
def numRes : List Int → List ByteArray → Nat → List Int × Int
  | acc, [], _ => (acc, -1)
  | acc, s :: r, i => if weirref26_num s < 0 then ([], (i : Int)) else numRes (acc ++ [weirref26_num s]) r (i + 1)
theorem numbers_loop (r : List ByteArray) : ∀ (p : List ByteArray) (acc : List Int) (k : Nat), (p ++ r).length < 17592186044416 → acc.length = p.length → r.length + 20 < k →
    cycle_numbers.l0 k weirref26_names acc (p ++ r) ((p ++ r).length : Int) (p.length : Int) = some (numRes acc r p.length) := by
  induction r with
  | nil =>
    intro p acc k hp ha hk
    obtain ⟨k, rfl⟩ : ∃ m, k = m + 1 := ⟨k - 1, by omega⟩
    simp only [cycle_numbers.l0, numRes]
    rw [if_neg (by simp)]
  | cons x r ih =>
    intro p acc k hp ha hk
    obtain ⟨k, rfl⟩ : ∃ m, k = m + 1 := ⟨k - 1, by omega⟩
    simp only [List.length_append, List.length_cons] at hp hk
    simp only [cycle_numbers.l0, numRes]
    have hl : (p.length : Int) < ((p ++ x :: r).length : Int) := by simp; omega
    rw [if_pos hl, if_pos (by omega), if_pos hl, rdS_mid, index_names x k (by omega)]
    simp only [Option.bind_some]
    by_cases e : weirref26_num x < 0
    · rw [if_pos e, if_pos e]
    · rw [if_neg e, if_neg e, if_pos (by omega), w1 _ (by omega)]
      have h1 := ih (p ++ [x]) (acc ++ [weirref26_num x]) k (by simp; omega) (by simp; omega) (by omega)
      simp only [List.append_assoc, List.singleton_append, List.length_append, List.length_singleton] at h1
      simp only [List.length_append, List.length_cons] at h1 ⊢
      exact h1
theorem numbers_f (l : List ByteArray) (hl : l.length < 17592186044416) (k : Nat) (hk : l.length + 60 < k) : cycle_numbers.f k l = some (numRes [] l 0) := by
  unfold cycle_numbers.f
  rw [edges k (by omega)]
  simp only [Option.bind_some]
  have h := numbers_loop l [] [] k (by simpa using hl) rfl (by omega)
  simpa using h
/-- All are names; the numbers then. -/
theorem numRes_all (r : List ByteArray) : ∀ (acc : List Int) (i : Nat), (∀ s ∈ r, ¬ weirref26_num s < 0) → numRes acc r i = (acc ++ r.map weirref26_num, -1) := by
  induction r with
  | nil => intro acc i _; simp [numRes]
  | cons x r ih =>
    intro acc i h
    simp only [numRes]
    rw [if_neg (h x (by simp)), ih _ _ (fun s hs => h s (by simp [hs]))]
    simp
theorem numRes_bad (r : List ByteArray) : ∀ (acc : List Int) (i : Nat), (∃ s ∈ r, weirref26_num s < 0) → ∃ j : Nat, numRes acc r i = ([], ((i + j : Nat) : Int)) := by
  induction r with
  | nil => intro acc i ⟨s, hs, _⟩; simp at hs
  | cons x r ih =>
    intro acc i h
    simp only [numRes]
    by_cases e : weirref26_num x < 0
    · rw [if_pos e]; exact ⟨0, rfl⟩
    · rw [if_neg e]
      obtain ⟨j, hj⟩ := ih (acc ++ [weirref26_num x]) (i + 1) (by
        obtain ⟨s, hs, hn⟩ := h
        rcases List.mem_cons.1 hs with rfl | hs
        · exact absurd hn e
        · exact ⟨s, hs, hn⟩)
      exact ⟨1 + j, by rw [hj]; congr 2; omega⟩

/-! ### the reference's first loop -/
theorem refnum_loop (l : List ByteArray) (r : List ByteArray) : ∀ (p : List ByteArray) (acc : List Int) (k : Nat), p ++ r = l → l.length < 17592186044416 → r.length < k →
    ((∀ s ∈ r, ¬ weirref26_num s < 0) → weirref26_Check.l0 k l weirref26_names (p.length : Int) = weirref26_Check.l1 (k - r.length - 1) l weirref26_names 0 0 0) ∧
    ((∃ s ∈ r, weirref26_num s < 0) → weirref26_Check.l0 k l weirref26_names (p.length : Int) = some ((numRes acc r p.length).2, 260)) := by
  induction r with
  | nil =>
    intro p acc k hp hl hk
    obtain ⟨k, rfl⟩ : ∃ m, k = m + 1 := ⟨k - 1, by simp at hk; omega⟩
    subst hp
    refine ⟨fun _ => ?_, fun ⟨s, hs, _⟩ => by simp at hs⟩
    simp only [weirref26_Check.l0]
    rw [if_neg (by simp)]
    simp
  | cons x r ih =>
    intro p acc k hp hl hk
    obtain ⟨k, rfl⟩ : ∃ m, k = m + 1 := ⟨k - 1, by simp at hk; omega⟩
    have hp' : (p ++ x :: r).length < 17592186044416 := by rw [hp]; exact hl
    simp only [List.length_append, List.length_cons] at hp' hk
    have hlt : (p.length : Int) < (l.length : Int) := by rw [← hp]; simp; omega
    have hr : rdOf ByteArray.empty l (p.length : Int) = x := by rw [← hp]; exact rdS_mid p r x
    have h1 := ih (p ++ [x]) (acc ++ [weirref26_num x]) k (by simpa using hp) hl (by omega)
    simp only [List.length_append, List.length_singleton] at h1
    have h0 : weirref26_Check.l0 (k + 1) l weirref26_names (p.length : Int) = if weirref26_num x < 0 then some ((p.length : Int), 260) else weirref26_Check.l0 k l weirref26_names ((p.length + 1 : Nat) : Int) := by
      simp only [weirref26_Check.l0]
      rw [if_pos hlt, if_pos (by omega), hr, Number_f]
      simp only [Option.bind_some]
      rw [w1 _ (by omega)]
    rw [h0]
    simp only [numRes]
    constructor
    · intro h
      rw [if_neg (h x (by simp)), h1.1 (fun s hs => h s (by simp [hs]))]
      simp only [List.length_cons]
      rw [show k + 1 - (r.length + 1) - 1 = k - r.length - 1 from by omega]
    · intro h
      by_cases e : weirref26_num x < 0
      · rw [if_pos e, if_pos e]
      · rw [if_neg e, if_neg e]
        exact h1.2 (by
          obtain ⟨s, hs, hn⟩ := h
          rcases List.mem_cons.1 hs with rfl | hs
          · exact absurd hn e
          · exact ⟨s, hs, hn⟩)
end Go.Proofs.YtjclpkddfpbdcaaDoor.PureB
