/-
  Where edges are as many as are wanted: both looks give one answer. No machine occurs here.
-/
import Derived.Test.YtjclpkddfpbdcaaDoorPureB5
namespace Go.Proofs.YtjclpkddfpbdcaaDoor.PureB
open Go.RowKit Go.Proofs.YtjclpkddfpbdcaaDoor.XC Go.Proofs.YtjclpkddfpbdcaaDoor.Lay Go.Proofs.YtjclpkddfpbdcaaDoorW.PrintWords Go.Proofs.YtjclpkddfpbdcaaDoorW.PrintLast

/-- The canonical form. -/
def canonL (ns : List Int) : List Int := (cycle_canon.f 1000 ns).getD []
theorem nums_ok {ns : List Int} (h : ∀ e ∈ ns, Ok e) : ∀ s ∈ ns.map nm, ¬ weirref26_num s < 0 := by
  intro s hs
  obtain ⟨e, he, rfl⟩ := List.mem_map.1 hs
  rw [nm_inj_num (h e he)]
  have := (h e he).1
  omega
theorem canon_both (ns : List Int) (hn : ∀ e ∈ ns, Ok e) (hl : ns.length ≤ 16) (k : Nat) (hk : 1000 ≤ k) :
    cycle_canon.f k ns = some (canonL ns) ∧ weirref26_Canon.l0 k (ns.map nm) weirref26_names [] 0 = some ((canonL ns).map nm, 0) ∧ (canonL ns = [] ∨ (canonL ns).length = ns.length) ∧ ∀ e ∈ canonL ns, Ok e := by
  have key : ∀ k, 1000 ≤ k → ∃ c, cycle_canon.f k ns = some c ∧ weirref26_Canon.l0 k (ns.map nm) weirref26_names [] 0 = some (c.map nm, 0) ∧ (c = [] ∨ c.length = ns.length) ∧ ∀ e ∈ c, Ok e := fun k hk => by
    obtain ⟨c, h1, h2, h3, h4⟩ := canon_loop (ns.map nm) (by rw [List.length_map]; exact hl) (nums_ok hn) (ns.map nm).length 0 k [] (by omega) (by rw [List.length_map]; omega) (by simp) (.inl rfl)
    rw [map_nm hn] at h3
    refine ⟨c, ?_, h4, by rw [List.length_map] at h2; exact h2, h1⟩
    unfold cycle_canon.f
    rw [table k (by omega)]
    exact h3
  obtain ⟨c0, a0, _⟩ := key 1000 (Nat.le_refl _)
  obtain ⟨c, a1, a2, a3, a4⟩ := key k hk
  have e : canonL ns = c := by
    have h1 := at_rounds (cycle_canon.mono ns) hk a0
    rw [a1] at h1
    unfold canonL
    rw [a0]
    exact (Option.some.inj h1).symm
  rw [e]
  exact ⟨a1, a2, a3, a4⟩

theorem cmpL_zero : ∀ (a b : List Int), b.length = a.length → (cmpL a b = 0 ↔ a = b)
  | [], [], _ => by simp [cmpL]
  | [], _ :: _, h => by simp at h
  | _ :: _, [], h => by simp at h
  | x :: r, y :: q, h => by
    have ih := cmpL_zero r q (by simpa using h)
    simp only [cmpL]
    by_cases h1 : x < y
    · rw [if_pos h1]
      refine ⟨fun h => by simp at h, fun h => ?_⟩
      injection h with h2
      omega
    · rw [if_neg h1]
      by_cases h2 : y < x
      · rw [if_pos h2]
        refine ⟨fun h => by simp at h, fun h => ?_⟩
        injection h with h3
        omega
      · rw [if_neg h2]
        refine ih.trans ⟨fun h => by rw [h, show x = y by omega], fun h => ?_⟩
        injection h
theorem cmp_any (c ns : List Int) (h0 : ns ≠ []) (hl : ns.length ≤ 16) (h : c = [] ∨ c.length = ns.length) (k : Nat) (hk : 100 < k) : ∃ v, slices_Compare_int_int.f k c ns = some v ∧ (v = 0 ↔ c = ns) := by
  rcases h with rfl | h
  · refine ⟨-1, ?_, ⟨fun h => by simp at h, fun h => absurd h.symm h0⟩⟩
    obtain ⟨k, rfl⟩ : ∃ m, k = m + 1 := ⟨k - 1, by omega⟩
    unfold slices_Compare_int_int.f
    simp only [slices_Compare_int_int.l0]
    have : 0 < ns.length := List.length_pos_iff.2 h0
    rw [if_neg (by simp), if_pos (by simp; omega)]
  · exact ⟨cmpL c ns, compare_f c ns h.symm (by omega) k (by omega), cmpL_zero c ns h.symm⟩

theorem rsame_loop (d : Nat) : ∀ (a b : List ByteArray) (i k : Nat), a.length = b.length → a.length < 17592186044416 → i + d = a.length → d < k → weirref26_same.l0 k a b (i : Int) = some (decide (a.drop i = b.drop i)) := by
  induction d with
  | zero =>
    intro a b i k hab hl hi hk
    obtain ⟨k, rfl⟩ : ∃ m, k = m + 1 := ⟨k - 1, by omega⟩
    simp only [weirref26_same.l0]
    rw [if_neg (by omega), List.drop_of_length_le (by omega), List.drop_of_length_le (by omega)]
    rfl
  | succ d ih =>
    intro a b i k hab hl hi hk
    obtain ⟨k, rfl⟩ : ∃ m, k = m + 1 := ⟨k - 1, by omega⟩
    simp only [weirref26_same.l0]
    have ha : i < a.length := by omega
    have hb : i < b.length := by omega
    have ra : rdOf ByteArray.empty a (i : Int) = a[i] := by simp [rdOf, List.getD_eq_getElem?_getD, List.getElem?_eq_getElem ha]
    have rb : rdOf ByteArray.empty b (i : Int) = b[i] := by simp [rdOf, List.getD_eq_getElem?_getD, List.getElem?_eq_getElem hb]
    rw [if_pos (by omega), if_pos (by omega), if_pos (by omega), ra, rb, List.drop_eq_getElem_cons ha, List.drop_eq_getElem_cons hb]
    by_cases e : a[i].toList = b[i].toList
    · rw [if_pos e, w1 _ (by omega), ih a b (i + 1) k hab hl (by omega) (by omega), bytes_inj e]
      simp only [List.cons.injEq, true_and]
    · rw [if_neg e]
      have e' : a[i] ≠ b[i] := fun h => e (by rw [h])
      simp only [List.cons.injEq, e', false_and, decide_false]
theorem rsame_f (a b : List ByteArray) (hl : a.length < 17592186044416) (k : Nat) (hk : a.length < k) : weirref26_same.f k a b = some (decide (a = b)) := by
  unfold weirref26_same.f
  by_cases h : a.length = b.length
  · rw [if_pos (by omega), show (0 : Int) = ((0 : Nat) : Int) from rfl, rsame_loop a.length a b 0 k h hl (by omega) hk]
    simp
  · rw [if_neg (by omega)]
    have : a ≠ b := fun e => h (by rw [e])
    simp [this]

/-- Do so many edges make a canonical form? -/
def roundB (ns : List Int) : Bool := decide ((ns.length : Int) ≥ 2) && (decide (cnt S79.f3 ns ≥ 2) && decide (cnt S79.f4 ns ≥ 2))
def leafB (ns : List Int) : Bool := decide ((row (rd ns ((ns.length - 1 : Nat) : Int))).f2 = (row (rd ns 0)).f1) && (roundB ns && decide (canonL ns = ns))

theorem leaf_cycle (ns : List Int) (hn : ∀ e ∈ ns, Ok e) (h2 : 2 ≤ ns.length) (hl : ns.length ≤ 16) (k : Nat) (hk : 1200 ≤ k) : lay_leafF k ns (ns.length : Int) = some (!leafB ns) := by
  have h0 : ns ≠ [] := fun e => by rw [e] at h2; simp at h2
  have ho := rd_ok hn (ns.length - 1) (by omega)
  have hz : Ok (rd ns 0) := rd_ok hn 0 (by omega)
  have hw : wrap64 ((ns.length : Int) - 1) = ((ns.length - 1 : Nat) : Int) := by unfold wrap64; omega
  have hfl : ∀ x, lay_flag k ns x = some x := fun x => by
    obtain ⟨k, rfl⟩ : ∃ m, k = m + 1 := ⟨k - 1, by omega⟩
    rfl
  obtain ⟨c1, _, c3, _⟩ := canon_both ns hn hl k (by omega)
  obtain ⟨v, v1, v2⟩ := cmp_any (canonL ns) ns h0 hl c3 k (by omega)
  unfold lay_leafF leafB
  rw [table k (by omega)]
  simp only [Option.bind_some]
  rw [hw, if_pos (by omega), if_pos (by omega), if_pos ho.1, if_pos (by rw [R_len]; exact ho.2), if_pos (by omega), if_pos hz.1, if_pos (by rw [R_len]; exact hz.2)]
  by_cases e1 : (row (rd ns ((ns.length - 1 : Nat) : Int))).f2 = (row (rd ns 0)).f1
  · rw [if_pos (show (rd_T79 R _).f2 = (rd_T79 R _).f1 from e1), show cycle_round.f k ns = some (roundB ns) from round_f ns hn (by omega) k (by omega)]
    simp only [Option.bind_some]
    by_cases e2 : roundB ns = true
    · rw [if_pos e2, c1]
      simp only [Option.bind_some, v1, hfl]
      by_cases e3 : canonL ns = ns
      · have := v2.2 e3
        simp [e1, e2, e3, this]
      · have : v ≠ 0 := fun h => e3 (v2.1 h)
        simp [e1, e2, e3, this]
    · rw [if_neg e2, hfl]
      simp [e2]
  · rw [if_neg (show ¬ (rd_T79 R _).f2 = (rd_T79 R _).f1 from e1), hfl]
    simp [e1]

/-- Each edge goes on as it must. -/
def Chained (ns : List Int) : Prop := ∀ j : Nat, j + 1 < ns.length → (row (rd ns (j : Int))).f2 = (row (rd ns ((j + 1 : Nat) : Int))).f1

theorem leaf_ref (ns : List Int) (hn : ∀ e ∈ ns, Ok e) (h2 : 2 ≤ ns.length) (hl : ns.length ≤ 16) (hc : Chained ns) (k : Nat) (hk : 1200 ≤ k) :
    ∃ (c : List ByteArray) (e : Int), weirref26_Canon.f k (ns.map nm) weirref26_names = some (c, e) ∧ (e = 0 → weirref26_same.f k c (ns.map nm) = some (leafB ns)) ∧ (e ≠ 0 → leafB ns = false) := by
  obtain ⟨r, h1, hr⟩ := check_ref (ns.map nm) (by rw [List.length_map]; exact hl) (nums_ok hn) k (by rw [List.length_map]; omega)
  rw [map_nm hn, List.length_map] at hr
  obtain ⟨c1, c2, c3, c4⟩ := canon_both ns hn hl k (by omega)
  have hall : (∀ j : Nat, j < ns.length → (row (rd ns (((j + ns.length - 1) % ns.length : Nat) : Int))).f2 = (row (rd ns (j : Int))).f1) ↔ (row (rd ns ((ns.length - 1 : Nat) : Int))).f2 = (row (rd ns 0)).f1 := by
    refine ⟨fun h => ?_, fun h j hj => ?_⟩
    · have := h 0 (by omega)
      rw [show (0 + ns.length - 1) % ns.length = ns.length - 1 from by rw [Nat.zero_add]; exact Nat.mod_eq_of_lt (by omega)] at this
      exact this
    · cases j with
      | zero =>
        rw [show (0 + ns.length - 1) % ns.length = ns.length - 1 from by rw [Nat.zero_add]; exact Nat.mod_eq_of_lt (by omega)]
        exact h
      | succ j =>
        rw [show (j + 1 + ns.length - 1) % ns.length = j from by
          rw [show j + 1 + ns.length - 1 = j + ns.length by omega, Nat.add_mod_right]
          exact Nat.mod_eq_of_lt (by omega)]
        exact hc j hj
  rw [hall] at hr
  have hrb : roundB ns = true ↔ 2 ≤ ns.length ∧ 2 ≤ cnt S79.f3 ns ∧ 2 ≤ cnt S79.f4 ns := by
    unfold roundB
    simp only [Bool.and_eq_true, decide_eq_true_eq, ge_iff_le]
    omega
  unfold weirref26_Canon.f
  rw [h1]
  simp only [Option.bind_some]
  by_cases e0 : r.2 = 0
  · rw [if_pos e0, c2]
    refine ⟨_, _, rfl, fun _ => ?_, fun h => absurd rfl h⟩
    obtain ⟨g1, g2⟩ := hr.1 e0
    rw [rsame_f _ _ (by rw [List.length_map]; rcases c3 with h | h; (rw [h]; decide); omega) k (by rw [List.length_map]; rcases c3 with h | h; (rw [h]; simp; omega); omega)]
    unfold leafB
    rw [hrb.2 g2, decide_eq_true g1]
    simp only [Bool.true_and]
    congr 1
    have : ((canonL ns).map nm = ns.map nm) ↔ canonL ns = ns := ⟨fun h => by rw [← map_nm c4, h, map_nm hn], fun h => by rw [h]⟩
    simp only [this]
  · rw [if_neg e0]
    refine ⟨_, _, rfl, fun h => absurd h e0, fun _ => ?_⟩
    unfold leafB
    by_cases g1 : (row (rd ns ((ns.length - 1 : Nat) : Int))).f2 = (row (rd ns 0)).f1
    · have g2 : roundB ns = false := by
        cases h : roundB ns with
        | false => rfl
        | true => exact absurd (hr.2 ⟨g1, hrb.1 h⟩) e0
      rw [g2]
      simp
    · simp [g1]
end Go.Proofs.YtjclpkddfpbdcaaDoor.PureB
