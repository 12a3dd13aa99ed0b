/-
  CycleAll's pure law: the numbers sorted, each once, are the edges that the reference goes through; all that the walk asks is so. No machine occurs here.
-/
import Derived.Test.YtjclpkddfpbdcaaDoorPureB8
import Derived.Test.YtjclpkddfpbdcaaDoorLay9
import Derived.Lib.RowBridge
namespace Go.Proofs.YtjclpkddfpbdcaaDoor.PureB
open Go.RowKit Go.Proofs.YtjclpkddfpbdcaaDoor.XC Go.Proofs.YtjclpkddfpbdcaaDoor.Lay Go.Proofs.YtjclpkddfpbdcaaDoorW.PrintWords Go.Proofs.YtjclpkddfpbdcaaDoorW.PrintLast

/-- Rising. -/
def Rising : List Int → Prop
  | [] => True
  | x :: r => (∀ y ∈ r, x < y) ∧ Rising r
theorem rising_eq : ∀ (a b : List Int), Rising a → Rising b → (∀ x, x ∈ a ↔ x ∈ b) → a = b
  | [], [], _, _, _ => rfl
  | [], y :: q, _, _, h => absurd ((h y).2 (by simp)) (by simp)
  | x :: r, [], _, _, h => absurd ((h x).1 (by simp)) (by simp)
  | x :: r, y :: q, ⟨h1, h2⟩, ⟨h3, h4⟩, h => by
    have hxy : x = y := by
      rcases List.mem_cons.1 ((h x).1 (by simp)) with e | e
      · exact e
      · rcases List.mem_cons.1 ((h y).2 (by simp)) with e' | e'
        · exact e'.symm
        · have := h1 y e'
          have := h3 x e
          omega
    subst hxy
    congr 1
    refine rising_eq r q h2 h4 fun z => ⟨fun hz => ?_, fun hz => ?_⟩
    · rcases List.mem_cons.1 ((h z).1 (List.mem_cons_of_mem _ hz)) with e | e
      · have := h1 z hz
        omega
      · exact e
    · rcases List.mem_cons.1 ((h z).2 (List.mem_cons_of_mem _ hz)) with e | e
      · have := h3 z hz
        omega
      · exact e
theorem rising_filter (f : Int → Bool) : ∀ a : List Int, Rising a → Rising (a.filter f)
  | [], _ => trivial
  | x :: r, ⟨h1, h2⟩ => by
    rw [List.filter_cons]
    split
    · exact ⟨fun y hy => h1 y ((List.mem_filter.1 hy).1), rising_filter f r h2⟩
    · exact rising_filter f r h2
theorem rising_snoc : ∀ (a : List Int) (x : Int), Rising a → (∀ y ∈ a, y < x) → Rising (a ++ [x])
  | [], x, _, _ => ⟨by simp, trivial⟩
  | z :: r, x, ⟨h1, h2⟩, h => ⟨fun y hy => by
      rcases List.mem_append.1 hy with hy | hy
      · exact h1 y hy
      · rw [List.mem_singleton.1 hy]
        exact h z (by simp), rising_snoc r x h2 (fun y hy => h y (List.mem_cons_of_mem _ hy))⟩
theorem rising_E18 : Rising E18 := by
  have : ∀ n : Nat, Rising ((List.range n).map fun (i : Nat) => (i : Int)) := by
    intro n
    induction n with
    | zero => trivial
    | succ n ih =>
      rw [List.range_succ, List.map_append]
      refine rising_snoc _ _ ih fun y hy => ?_
      obtain ⟨i, hi, rfl⟩ := List.mem_map.1 hy
      rw [List.mem_range] at hi
      show (i : Int) < (n : Int)
      omega
  exact this 18

/-- What slices.Compact leaves of a list in order. -/
theorem compact_rising (zs : List Int) (hs : ∀ i j : Nat, i < j → j < zs.length → zs.getD i 0 ≤ zs.getD j 0) : ∀ m : Nat, m ≤ zs.length →
    Rising (Lib.compactUpTo zs.toArray m) ∧ (∀ x, x ∈ Lib.compactUpTo zs.toArray m ↔ ∃ j, j < m ∧ zs.getD j 0 = x) := by
  have hget : ∀ j, j < zs.length → zs.toArray[j]! = zs.getD j 0 := fun j hj => by
    rw [getElem!_pos _ j (by simpa using hj), List.getD_eq_getElem?_getD, List.getElem?_eq_getElem hj]
    simp
  intro m
  induction m with
  | zero => intro _; exact ⟨trivial, fun x => by simp [Lib.compactUpTo]⟩
  | succ m ih =>
    intro hm
    obtain ⟨h1, h2⟩ := ih (by omega)
    rw [Lib.compactUpTo_succ, hget m (by omega)]
    cases hk : Lib.keeps zs.toArray m with
    | true =>
      rw [if_pos rfl]
      refine ⟨rising_snoc _ _ h1 fun y hy => ?_, fun x => ?_⟩
      · obtain ⟨j, hj, rfl⟩ := (h2 y).1 hy
        have hk' : m = 0 ∨ zs.toArray[m]! ≠ zs.toArray[m - 1]! := by unfold Lib.keeps at hk; exact of_decide_eq_true hk
        rcases hk' with rfl | hk'
        · omega
        · rw [hget m (by omega), hget (m - 1) (by omega)] at hk'
          have a1 := hs (m - 1) m (by omega) (by omega)
          rcases Nat.lt_or_ge j (m - 1) with h | h
          · have := hs j (m - 1) h (by omega)
            omega
          · rw [show j = m - 1 by omega]
            omega
      · rw [List.mem_append, h2, List.mem_singleton]
        refine ⟨fun h => ?_, fun ⟨j, hj, e⟩ => ?_⟩
        · rcases h with ⟨j, hj, e⟩ | e
          · exact ⟨j, by omega, e⟩
          · exact ⟨m, by omega, e.symm⟩
        · rcases Nat.lt_or_ge j m with h | h
          · exact .inl ⟨j, h, e⟩
          · exact .inr (by rw [show m = j by omega]; exact e.symm)
    | false =>
      rw [if_neg (by decide), List.append_nil]
      refine ⟨h1, fun x => (h2 x).trans ⟨fun ⟨j, hj, e⟩ => ⟨j, by omega, e⟩, fun ⟨j, hj, e⟩ => ?_⟩⟩
      have hk' : ¬ (m = 0 ∨ zs.toArray[m]! ≠ zs.toArray[m - 1]!) := by unfold Lib.keeps at hk; exact of_decide_eq_false hk
      rw [hget m (by omega)] at hk'
      have hm0 : m ≠ 0 := fun e => hk' (.inl e)
      rw [hget (m - 1) (by omega)] at hk'
      have hme : zs.getD m 0 = zs.getD (m - 1) 0 := Classical.byContradiction fun e => hk' (.inr e)
      rcases Nat.lt_or_ge j m with h | h
      · exact ⟨j, h, e⟩
      · exact ⟨m - 1, by omega, by rw [← hme, show m = j by omega]; exact e⟩

theorem edges_are (l : List ByteArray) (hv : ∀ s ∈ l, ¬ weirref26_num s < 0) : Lib.compact (sortI (l.map weirref26_num)) = E18.filter (inB l) := by
  have hp : (sortI (l.map weirref26_num)).Perm (l.map weirref26_num) := List.mergeSort_perm _ _
  have hsort : (sortI (l.map weirref26_num)).Pairwise fun x y => decide (x ≤ y) = true := List.pairwise_mergeSort (fun a b c h1 h2 => decide_eq_true (by have := of_decide_eq_true h1; have := of_decide_eq_true h2; omega)) (fun a b => by simp only [Bool.or_eq_true, decide_eq_true_eq]; omega) _
  have hs : ∀ i j : Nat, i < j → j < (sortI (l.map weirref26_num)).length → (sortI (l.map weirref26_num)).getD i 0 ≤ (sortI (l.map weirref26_num)).getD j 0 := fun i j hij hj => by
    have := List.pairwise_iff_getElem.1 hsort i j (by omega) hj hij
    rw [List.getD_eq_getElem?_getD, List.getD_eq_getElem?_getD, List.getElem?_eq_getElem (by omega), List.getElem?_eq_getElem hj]
    exact of_decide_eq_true this
  obtain ⟨h1, h2⟩ := compact_rising _ hs _ (Nat.le_refl _)
  refine rising_eq _ _ h1 (rising_filter _ _ rising_E18) fun x => (h2 x).trans ?_
  rw [List.mem_filter, E18_mem]
  have hmem : (∃ j, j < (sortI (l.map weirref26_num)).length ∧ (sortI (l.map weirref26_num)).getD j 0 = x) ↔ x ∈ l.map weirref26_num := by
    rw [← hp.mem_iff, List.mem_iff_getElem]
    refine ⟨fun ⟨j, hj, e⟩ => ⟨j, hj, by rw [List.getD_eq_getElem?_getD, List.getElem?_eq_getElem hj] at e; exact e⟩, fun ⟨j, hj, e⟩ => ⟨j, hj, by rw [List.getD_eq_getElem?_getD, List.getElem?_eq_getElem hj]; exact e⟩⟩
  rw [hmem]
  unfold inB
  rw [List.mem_map, List.any_eq_true]
  refine ⟨fun ⟨s, hs, e⟩ => ?_, fun ⟨ho, s, hs, e⟩ => ⟨s, hs, ?_⟩⟩
  · rw [← e]
    exact ⟨num_ok (hv s hs), s, hs, by rw [nm_num (hv s hs)]; simp⟩
  · have : s = nm x := bytes_inj (by simpa using e)
    rw [this, nm_inj_num ho]

/-! ### the reference's numbers -/
theorem rnum_loop (r : List ByteArray) : ∀ (p : List ByteArray) (acc : List Int) (k : Nat), acc.length = p.length → (p ++ r).length < 17592186044416 → r.length < k →
    ∃ q : List Int, ∃ b : Bool, weirref26_numbers.l0 k (p ++ r) weirref26_names acc (p.length : Int) = some (q, b) ∧ (b = true ↔ ∀ s ∈ r, ¬ weirref26_num s < 0) := by
  induction r with
  | nil =>
    intro p acc k ha hl hk
    obtain ⟨k, rfl⟩ : ∃ m, k = m + 1 := ⟨k - 1, by simp at hk; omega⟩
    simp only [weirref26_numbers.l0]
    rw [if_neg (by simp)]
    exact ⟨_, _, rfl, by simp⟩
  | cons x r ih =>
    intro p acc k ha hl hk
    simp only [List.length_append, List.length_cons] at hl hk
    obtain ⟨k, rfl⟩ : ∃ m, k = m + 1 := ⟨k - 1, by omega⟩
    simp only [weirref26_numbers.l0]
    rw [if_pos (by simp; omega), if_pos (by omega), rdS_mid, Number_f]
    simp only [Option.bind_some]
    rw [if_pos (by omega), if_pos (by simp; omega), show (p.length : Int) = (acc.length : Int) by omega, rdI_mid acc [] _]
    by_cases e : weirref26_num x < 0
    · rw [if_pos e]
      exact ⟨_, _, rfl, ⟨(fun h => by cases h), fun h => absurd e (h x (by simp))⟩⟩
    · rw [if_neg e, w1 _ (by omega)]
      obtain ⟨q, b, h1, h2⟩ := ih (p ++ [x]) (acc ++ [weirref26_num x]) k (by simp [ha]) (by simp; omega) (by omega)
      rw [List.append_assoc, List.length_append, List.length_singleton] at h1
      refine ⟨q, b, ?_, h2.trans ⟨fun h s hs => ?_, fun h s hs => h s (List.mem_cons_of_mem _ hs)⟩⟩
      · rw [ha]
        exact h1
      · rcases List.mem_cons.1 hs with rfl | hs
        · exact e
        · exact h s hs
theorem sameAll_loop (ls : List (List ByteArray)) (hl : ls.length < 1000) (hx : ∀ x ∈ ls, x.length ≤ 16) (d : Nat) : ∀ (i k : Nat), i + d = ls.length → d + 100 < k → weirlaw26_sameAll.l0 k ls ls (i : Int) = some true := by
  induction d with
  | zero =>
    intro i k hi hk
    obtain ⟨k, rfl⟩ : ∃ m, k = m + 1 := ⟨k - 1, by omega⟩
    simp only [weirlaw26_sameAll.l0]
    rw [if_neg (by omega)]
  | succ d ih =>
    intro i k hi hk
    obtain ⟨k, rfl⟩ : ∃ m, k = m + 1 := ⟨k - 1, by omega⟩
    have hlt : i < ls.length := by omega
    have hr : rd_L1 ls (i : Int) = ls[i] := by simp [rd_L1, List.getD_eq_getElem?_getD, List.getElem?_eq_getElem hlt]
    have hxi := hx ls[i] (List.getElem_mem hlt)
    simp only [weirlaw26_sameAll.l0]
    rw [if_pos (by omega), if_pos (by omega), if_pos (by omega), hr, same_f ls[i] (by omega) k (by omega)]
    simp only [Option.bind_some]
    rw [if_pos trivial, w1 _ (by omega)]
    exact ih (i + 1) k (by omega) (by omega)
theorem sameAll_f (ls : List (List ByteArray)) (hl : ls.length < 1000) (hx : ∀ x ∈ ls, x.length ≤ 16) (k : Nat) (hk : 1200 ≤ k) : weirlaw26_sameAll.f k ls ls = some true := by
  unfold weirlaw26_sameAll.f
  rw [if_pos rfl]
  exact sameAll_loop ls hl hx ls.length 0 k (by omega) (by omega)

/-- ALL THAT THE WALK ASKS IS SO. -/
theorem law (l : List ByteArray) (h : l.length * 16 ≤ 140737488351232) (n : Int) : ∃ (k : Nat) (r1 : List Int) (r2 : Int) (q1 : List Int) (ok : Bool), LawPure k l n r1 r2 q1 ok := by
  obtain ⟨q1, ok, hq, hok⟩ := rnum_loop l [] [] (100000 + 2000 * l.length) rfl (by simp; omega) (by omega)
  have hback := back_f l (by omega) (100000 + 2000 * l.length) (by omega)
  have hlent : weirlaw26_lent.f l = some (l, l ++ [weirlaw26_holder]) := by
    unfold weirlaw26_lent.f
    rw [if_pos (by omega)]
  have hnum := numbers_f l (by omega) (100000 + 2000 * l.length) (by omega)
  have hg0 : weirref26_grow.f (100000 + 2000 * l.length) l [] n 0 [] weirref26_names = some [] := by
    obtain ⟨k, hk⟩ : ∃ k, 100000 + 2000 * l.length = k + 1 := ⟨99999 + 2000 * l.length, by omega⟩
    rw [hk]
    simp only [weirref26_grow.f]
    rw [if_pos (by simp)]
  by_cases hv : ∀ s ∈ l, ¬ weirref26_num s < 0
  · rw [numRes_all l [] 0 hv, List.nil_append] at hnum
    refine ⟨100000 + 2000 * l.length, l.map weirref26_num, -1, q1, ok, hnum, by rw [List.length_map]; omega, Lib.compact_length_le _, hq, ⟨fun _ => by decide, fun _ => hok.2 hv⟩, hback, hlent, fun _ _ _ => hg0, fun h2 h5 _ => ?_⟩
    obtain ⟨N, rfl⟩ : ∃ N : Nat, n = (N : Int) := ⟨n.toNat, by omega⟩
    have hL : ∀ e ∈ E18.filter (inB l), Ok e := fun e he => (E18_mem e).1 (List.mem_filter.1 he).1
    have hLl : (E18.filter (inB l)).length ≤ 18 := by rw [← E18_len]; exact List.length_filter_le _ _
    refine ⟨enumN (E18.filter (inB l)) N [], ?_, ?_, fun x hx => ?_, fun i hi => ?_⟩
    · have hb : N * (18 * (l.length + 4) + 10) ≤ 5 * (18 * (l.length + 4) + 10) := Nat.mul_le_mul_right _ (by omega)
      have := grow_f l (by omega) N (by omega) (by omega) N [] [] (100000 + 2000 * l.length) (by simp) (fun j hj => by simp at hj) (by simp) (by simp) (by omega)
      rw [List.nil_append] at this
      exact this
    · rw [edges_are l hv]
      have hb : N * (2 * (E18.filter (inB l)).length + 10) ≤ 5 * (2 * 18 + 10) := Nat.mul_le_mul (by omega) (by omega)
      exact node_f _ hL (by omega) N (by omega) (by omega) N [] _ (by simp) (by simp) (by omega)
    · have := enum_len _ N [] x hx
      exact spoil_f x (by simp at this; omega) _ (by omega)
    · refine sameAll_f _ (by rw [List.length_take]; omega) (fun x hx => ?_) _ (by omega)
      have := enum_len _ N [] x (List.mem_of_mem_take hx)
      simp at this
      omega
  · have hv' : ∃ s ∈ l, weirref26_num s < 0 := by
      refine Classical.byContradiction fun h => hv fun s hs hn => h ⟨s, hs, hn⟩
    obtain ⟨j, hj⟩ := numRes_bad l [] 0 hv'
    rw [hj] at hnum
    have hok' : ok = false := by
      cases e : ok with
      | false => rfl
      | true => exact absurd (hok.1 e) hv
    subst hok'
    exact ⟨100000 + 2000 * l.length, [], _, q1, false, hnum, by simp, Lib.compact_length_le _, hq, ⟨(fun h => by cases h), (fun h => by omega)⟩, hback, hlent, (fun _ _ h => by cases h), (fun _ _ h => by cases h)⟩
#print axioms law
end Go.Proofs.YtjclpkddfpbdcaaDoor.PureB
