/-
  The two canonical forms of a list of edges are one (chapter 26, Canon): plain facts on the printed functions. No machine occurs here.
-/
import Derived.Test.YtjclpkddfpbdcaaDoorPureB2
namespace Go.Proofs.YtjclpkddfpbdcaaDoor.PureB
open Go.RowKit Go.Proofs.YtjclpkddfpbdcaaDoor.XC Go.Proofs.YtjclpkddfpbdcaaDoorW.PrintWords Go.Proofs.YtjclpkddfpbdcaaDoorW.PrintLast

theorem nm_inj_num {e : Int} (h : Ok e) : weirref26_num (nm e) = e := by
  refine h.cases (P := fun e => weirref26_num (nm e) = e) ?_ ?_ ?_ ?_ ?_ ?_ ?_ ?_ ?_ ?_ ?_ ?_ ?_ ?_ ?_ ?_ ?_ ?_ <;> kernel_rfl
theorem map_nm {ns : List Int} (h : ∀ e ∈ ns, Ok e) : (ns.map nm).map weirref26_num = ns := by
  induction ns with
  | nil => rfl
  | cons x r ih => simp only [List.map_cons]; rw [nm_inj_num (h x (by simp)), ih (fun e he => h e (by simp [he]))]
theorem map_num {l : List ByteArray} (h : ∀ s ∈ l, ¬ weirref26_num s < 0) : (l.map weirref26_num).map nm = l := by
  induction l with
  | nil => rfl
  | cons x r ih => simp only [List.map_cons]; rw [nm_num (h x (by simp)), ih (fun e he => h e (by simp [he]))]

/-- Number by number: the first list, behind a begin that is alike, held against the second. -/
def cmpL : List Int → List Int → Int
  | x :: r, y :: q => if x < y then -1 else if y < x then 1 else cmpL r q
  | _, _ => 0
theorem cmp_f (a b : Int) : cmp_Compare_int.f a b = some (if a < b then -1 else if b < a then 1 else 0) := by
  unfold cmp_Compare_int.f cmp_isNaN_int.f
  simp only [Option.bind_some, bne_self_eq_false, Bool.false_eq_true, if_false]
  by_cases h : a < b
  · rw [if_pos h, if_pos h]
  · rw [if_neg h, if_neg h]
    by_cases h2 : b < a
    · rw [if_pos h2, if_pos h2]
    · rw [if_neg h2, if_neg h2]
theorem compare_loop (r : List Int) : ∀ (q p c : List Int) (k : Nat), c.length = p.length → q.length = r.length → (p ++ r).length < 17592186044416 → r.length < k →
    slices_Compare_int_int.l0 k (p ++ r) (c ++ q) (p ++ r) ((p ++ r).length : Int) (p.length : Int) = some (cmpL r q) := by
  induction r with
  | nil =>
    intro q p c k hc hq hl hk
    obtain ⟨k, rfl⟩ : ∃ m, k = m + 1 := ⟨k - 1, by omega⟩
    have : q = [] := List.length_eq_zero_iff.1 hq
    subst this
    simp only [slices_Compare_int_int.l0, cmpL]
    rw [if_neg (by simp), if_neg (by simp; omega)]
  | cons x r ih =>
    intro q p c k hc hq hl hk
    obtain ⟨k, rfl⟩ : ∃ m, k = m + 1 := ⟨k - 1, by omega⟩
    match q, hq with
    | y :: q, hq =>
      simp only [List.length_cons] at hq
      simp only [List.length_append, List.length_cons] at hl hk
      have h1 := ih q (p ++ [x]) (c ++ [y]) k (by simp [hc]) (by omega) (by simp; omega) (by omega)
      simp only [List.append_assoc, List.singleton_append, List.length_append, List.length_singleton] at h1
      simp only [slices_Compare_int_int.l0, cmpL]
      have hx : rd (p ++ x :: r) (p.length : Int) = x := rdI_mid p r x
      have hy : rd (c ++ y :: q) (p.length : Int) = y := by rw [← hc]; exact rdI_mid c q y
      rw [if_pos (by simp; omega), if_pos (by omega), if_pos (by simp; omega), if_neg (by simp; omega), if_pos (by simp; omega), hx, hy, cmp_f]
      simp only [Option.bind_some]
      by_cases h2 : x < y
      · rw [if_pos h2, if_pos h2, if_neg (by decide)]
      · rw [if_neg h2, if_neg h2]
        by_cases h3 : y < x
        · rw [if_pos h3, if_pos h3, if_neg (by decide)]
        · rw [if_neg h3, if_neg h3, if_pos rfl, w1 _ (by omega)]
          simp only [List.length_append, List.length_cons] at h1 ⊢
          exact h1
theorem compare_f (a b : List Int) (hab : b.length = a.length) (hl : a.length < 17592186044416) (k : Nat) (hk : a.length < k) : slices_Compare_int_int.f k a b = some (cmpL a b) := by
  have h := compare_loop a b [] [] k rfl hab (by simpa using hl) hk
  unfold slices_Compare_int_int.f
  simpa using h
theorem below_loop (r : List ByteArray) : ∀ (q p c : List ByteArray) (k : Nat), c.length = p.length → q.length = r.length → (p ++ r).length < 17592186044416 → r.length < k →
    weirref26_below.l0 k (p ++ r) (c ++ q) weirref26_names (p.length : Int) = some (decide (cmpL (r.map weirref26_num) (q.map weirref26_num) < 0)) := by
  induction r with
  | nil =>
    intro q p c k hc hq hl hk
    obtain ⟨k, rfl⟩ : ∃ m, k = m + 1 := ⟨k - 1, by omega⟩
    simp only [weirref26_below.l0, List.map_nil, cmpL]
    rw [if_neg (by simp)]
    rfl
  | cons x r ih =>
    intro q p c k hc hq hl hk
    obtain ⟨k, rfl⟩ : ∃ m, k = m + 1 := ⟨k - 1, by omega⟩
    match q, hq with
    | y :: q, hq =>
      simp only [List.length_cons] at hq
      simp only [List.length_append, List.length_cons] at hl hk
      have h1 := ih q (p ++ [x]) (c ++ [y]) k (by simp [hc]) (by omega) (by simp; omega) (by omega)
      simp only [List.append_assoc, List.singleton_append, List.length_append, List.length_singleton] at h1
      simp only [weirref26_below.l0, List.map_cons, cmpL]
      have hx : rdOf ByteArray.empty (p ++ x :: r) (p.length : Int) = x := rdS_mid p r x
      have hy : rdOf ByteArray.empty (c ++ y :: q) (p.length : Int) = y := by rw [← hc]; exact rdS_mid c q y
      rw [if_pos (by simp; omega), if_pos (by omega), hx, Number_f]
      simp only [Option.bind_some]
      rw [if_pos (by simp; omega), hy, Number_f]
      simp only [Option.bind_some]
      by_cases h2 : weirref26_num x < weirref26_num y
      · rw [if_neg (by omega), if_pos h2]
        simp [h2]
      · by_cases h3 : weirref26_num y < weirref26_num x
        · rw [if_neg (by omega), if_neg h2, if_pos h3]
          simp [h2]
        · rw [if_pos (by omega), if_neg h2, if_neg h3, w1 _ (by omega)]
          exact h1
theorem below_f (a b : List ByteArray) (hab : b.length = a.length) (hl : a.length < 17592186044416) (k : Nat) (hk : a.length < k) : weirref26_below.f k a b weirref26_names = some (decide (cmpL (a.map weirref26_num) (b.map weirref26_num) < 0)) := by
  have h := below_loop a b [] [] k rfl hab (by simpa using hl) hk
  unfold weirref26_below.f
  simpa using h

theorem clone_f (l : List Int) (h : l.length < 17592186044416) : slices_Clone_int_int.f l = some l := by
  unfold slices_Clone_int_int.f
  simp only [Option.bind_some, List.length_nil, List.nil_append]
  rw [if_pos (by omega)]
theorem turn_f (l : List ByteArray) (i : Nat) (hi : i ≤ l.length) (h : l.length ≤ 16) : weirref26_Turn.f l (i : Int) = some (l.drop i ++ l.take i) := by
  unfold weirref26_Turn.f
  simp only [Option.bind_some, List.length_nil, List.nil_append]
  rw [if_pos (by omega), if_pos (by omega), Int.toNat_natCast, if_pos (by rw [List.length_drop]; omega)]
  rw [if_pos (by rw [List.length_drop, List.length_take]; omega)]

/-- THE TWO CANONICAL FORMS, turn by turn. -/
theorem canon_loop (l : List ByteArray) (hl : l.length ≤ 16) (hv : ∀ s ∈ l, ¬ weirref26_num s < 0) (d : Nat) : ∀ (i k : Nat) (best : List Int), i + d = l.length → d + 80 < k → (∀ e ∈ best, Ok e) → (best = [] ∨ best.length = l.length) →
    ∃ c : List Int, (∀ e ∈ c, Ok e) ∧ (c = [] ∨ c.length = l.length) ∧
      cycle_canon.l0 k (l.map weirref26_num) R best ((l.map weirref26_num).length : Int) (i : Int) = some c ∧
      weirref26_Canon.l0 k l weirref26_names (best.map nm) (i : Int) = some (c.map nm, 0) := by
  have hn : ∀ e ∈ l.map weirref26_num, Ok e := by
    intro e he
    obtain ⟨s, hs, rfl⟩ := List.mem_map.1 he
    exact num_ok (hv s hs)
  have hlen : (l.map weirref26_num).length = l.length := List.length_map _
  induction d with
  | zero =>
    intro i k best hi hk hb hbl
    obtain ⟨k, rfl⟩ : ∃ m, k = m + 1 := ⟨k - 1, by omega⟩
    refine ⟨best, hb, hbl, ?_, ?_⟩
    · simp only [cycle_canon.l0]
      rw [if_neg (by rw [hlen]; omega)]
    · simp only [weirref26_Canon.l0]
      rw [if_neg (by omega)]
  | succ d ih =>
    intro i k best hi hk hb hbl
    obtain ⟨k, rfl⟩ : ∃ m, k = m + 1 := ⟨k - 1, by omega⟩
    -- the turn
    obtain ⟨t, ht⟩ : ∃ t, t = (l.map weirref26_num).drop i ++ (l.map weirref26_num).take i := ⟨_, rfl⟩
    have htl : t.length = l.length := by rw [ht]; simp; omega
    have hto : ∀ e ∈ t, Ok e := by
      intro e he
      rw [ht] at he
      rcases List.mem_append.1 he with h | h
      · exact hn e (List.mem_of_mem_drop h)
      · exact hn e (List.mem_of_mem_take h)
    have htn : t.map nm = l.drop i ++ l.take i := by
      rw [ht, List.map_append, List.map_drop, List.map_take, map_num hv]
    have htm : (l.drop i ++ l.take i).map weirref26_num = t := by rw [← htn, map_nm hto]
    have hlast : wrap64 ((t.length : Int) - 1) = ((l.length - 1 : Nat) : Int) := by rw [htl]; unfold wrap64; omega
    have ho := rd_ok hto (l.length - 1) (by omega)
    -- with a best one that is known, both go on alike
    have go : ∀ b : List Int, (∀ e ∈ b, Ok e) → (b = [] ∨ b.length = l.length) →
        ∃ c : List Int, (∀ e ∈ c, Ok e) ∧ (c = [] ∨ c.length = l.length) ∧
          cycle_canon.l0 k (l.map weirref26_num) R b ((l.map weirref26_num).length : Int) ((i + 1 : Nat) : Int) = some c ∧
          weirref26_Canon.l0 k l weirref26_names (b.map nm) ((i + 1 : Nat) : Int) = some (c.map nm, 0) := fun b h1 h2 => ih (i + 1) k b (by omega) (by omega) h1 h2
    have e1 : cycle_canon.l0 (k + 1) (l.map weirref26_num) R best ((l.map weirref26_num).length : Int) (i : Int) =
        (if (row (rd t ((l.length - 1 : Nat) : Int))).f3 = true then (if best = [] then cycle_canon.l0 k (l.map weirref26_num) R t ((l.map weirref26_num).length : Int) ((i + 1 : Nat) : Int)
          else (slices_Compare_int_int.f k t best).bind fun c => if c < 0 then cycle_canon.l0 k (l.map weirref26_num) R t ((l.map weirref26_num).length : Int) ((i + 1 : Nat) : Int) else cycle_canon.l0 k (l.map weirref26_num) R best ((l.map weirref26_num).length : Int) ((i + 1 : Nat) : Int))
          else cycle_canon.l0 k (l.map weirref26_num) R best ((l.map weirref26_num).length : Int) ((i + 1 : Nat) : Int)) := by
      simp only [cycle_canon.l0]
      rw [hlen, if_pos (by omega), if_pos (by omega), if_pos (by omega), Int.toNat_natCast, clone_f _ (by rw [List.length_drop, hlen]; omega)]
      simp only [Option.bind_some]
      rw [if_pos (by rw [List.length_drop, List.length_take, hlen]; omega), ← ht, hlast, if_pos (by omega), if_pos (by rw [htl]; omega), if_pos ho.1, if_pos (by rw [R_len]; exact ho.2), w1 _ (by omega)]
      rfl
    have e2 : weirref26_Canon.l0 (k + 1) l weirref26_names (best.map nm) (i : Int) =
        (if (row (rd t ((l.length - 1 : Nat) : Int))).f3 = true then (if best.map nm = [] then weirref26_Canon.l0 k l weirref26_names (t.map nm) ((i + 1 : Nat) : Int)
          else (weirref26_below.f k (t.map nm) (best.map nm) weirref26_names).bind fun c => if c = true then weirref26_Canon.l0 k l weirref26_names (t.map nm) ((i + 1 : Nat) : Int) else weirref26_Canon.l0 k l weirref26_names (best.map nm) ((i + 1 : Nat) : Int))
          else weirref26_Canon.l0 k l weirref26_names (best.map nm) ((i + 1 : Nat) : Int)) := by
      simp only [weirref26_Canon.l0]
      rw [if_pos (by omega), turn_f l i (by omega) hl]
      simp only [Option.bind_some]
      rw [← htn]
      have hlast' : wrap64 (((t.map nm).length : Int) - 1) = ((l.length - 1 : Nat) : Int) := by rw [List.length_map]; exact hlast
      rw [hlast', if_pos (by omega), if_pos (by rw [List.length_map, htl]; omega), Number_f, num_rd _ _ (by rw [List.length_map, htl]; omega), map_nm hto]
      simp only [Option.bind_some]
      rw [out_ok ho, w1 _ (by omega)]
      simp only [Option.bind_some]
    rw [e1, e2]
    by_cases h3 : (row (rd t ((l.length - 1 : Nat) : Int))).f3 = true
    · rw [if_pos h3, if_pos h3]
      by_cases hbn : best = []
      · subst hbn
        rw [if_pos rfl, if_pos (show List.map nm [] = [] from rfl)]
        exact go t hto (.inr htl)
      · have hbl' : best.length = l.length := by rcases hbl with h | h; exact absurd h hbn; exact h
        rw [if_neg hbn, if_neg (by simpa using hbn), compare_f t best (by omega) (by omega) k (by omega), below_f (t.map nm) (best.map nm) (by simp; omega) (by simp; omega) k (by simp; omega), map_nm hto, map_nm hb]
        simp only [Option.bind_some, decide_eq_true_eq]
        by_cases hc : cmpL t best < 0
        · rw [if_pos hc, if_pos hc]
          exact go t hto (.inr htl)
        · rw [if_neg hc, if_neg hc]
          exact go best hb hbl
    · rw [if_neg h3, if_neg h3]
      exact go best hb hbl

theorem named_loop (ns r : List Int) : ∀ (p : List Int) (acc : List ByteArray) (k : Nat), p ++ r = ns → (∀ e ∈ ns, Ok e) → ns.length < 8796093022208 → acc.length = p.length → r.length < k →
    cycle_named.l0 k R acc ns (ns.length : Int) (p.length : Int) = some (acc ++ r.map nm) := by
  induction r with
  | nil =>
    intro p acc k hp hn hl ha hk
    obtain ⟨k, rfl⟩ : ∃ m, k = m + 1 := ⟨k - 1, by omega⟩
    subst hp
    simp only [cycle_named.l0]
    rw [if_neg (by simp)]
    simp
  | cons x r ih =>
    intro p acc k hp hn hl ha hk
    obtain ⟨k, rfl⟩ : ∃ m, k = m + 1 := ⟨k - 1, by omega⟩
    have hln : p.length + (r.length + 1) = ns.length := by rw [← hp]; simp
    simp only [List.length_cons] at hk
    have hx : rd ns (p.length : Int) = x := by rw [← hp]; exact rdI_mid p r x
    have hox : Ok x := hn x (by rw [← hp]; simp)
    simp only [cycle_named.l0]
    rw [hx, if_pos (by omega), if_pos (by omega), if_pos (by omega), if_pos hox.1, if_pos (by rw [R_len]; exact hox.2), if_pos (by omega), w1 _ (by omega)]
    have h1 := ih (p ++ [x]) (acc ++ [nm x]) k (by simpa using hp) hn hl (by simp [ha]) (by omega)
    simp only [List.length_append, List.length_singleton] at h1
    rw [show (rd_T79 R x).f0 = nm x from rfl, h1]
    simp
theorem named_f (ns : List Int) (hn : ∀ e ∈ ns, Ok e) (hl : ns.length < 8796093022208) (k : Nat) (hk : ns.length + 40 < k) : cycle_named.f k ns = some (ns.map nm) := by
  unfold cycle_named.f
  rw [table k (by omega)]
  simp only [Option.bind_some]
  have h := named_loop ns ns [] [] k rfl hn hl rfl (by omega)
  simpa using h

end Go.Proofs.YtjclpkddfpbdcaaDoor.PureB
