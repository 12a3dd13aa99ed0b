/-
  All canonical forms that begin with some edges, in order: as cycle.lay hands them out. No machine occurs here.
-/
import Derived.Test.YtjclpkddfpbdcaaDoorPureB6
namespace Go.Proofs.YtjclpkddfpbdcaaDoor.PureB
open Go.RowKit Go.Proofs.YtjclpkddfpbdcaaDoor.XC Go.Proofs.YtjclpkddfpbdcaaDoor.Lay Go.Proofs.YtjclpkddfpbdcaaDoorW.PrintWords Go.Proofs.YtjclpkddfpbdcaaDoorW.PrintLast

/-- Does an edge go on behind some? -/
def fitsB (p : List Int) (e : Int) : Bool := if p.length = 0 then true else decide ((row (rd p ((p.length - 1 : Nat) : Int))).f2 = (row e).f1)
def enumN (L : List Int) : Nat → List Int → List (List ByteArray)
  | 0, p => if leafB p = true then [p.map nm] else []
  | d + 1, p => L.flatMap fun e => if fitsB p e = true then enumN L d (p ++ [e]) else []

theorem rd_last (p : List Int) (e : Int) : rd (p ++ [e]) (p.length : Int) = e := rdI_mid p [] e
theorem rd_front (p : List Int) (e : Int) (j : Nat) (h : j < p.length) : rd (p ++ [e]) (j : Int) = rd p (j : Int) := by
  simp [rd, List.getElem?_append_left h]
theorem chained_snoc {p : List Int} {e : Int} (h : Chained p) (hf : fitsB p e = true) : Chained (p ++ [e]) := by
  intro j hj
  rw [List.length_append, List.length_singleton] at hj
  rcases Nat.lt_or_ge (j + 1) p.length with h1 | h1
  · rw [rd_front p e j (by omega), rd_front p e (j + 1) h1]
    exact h j h1
  · have e1 : j + 1 = p.length := by omega
    rw [e1, rd_last, rd_front p e j (by omega)]
    unfold fitsB at hf
    rw [if_neg (by omega)] at hf
    have := of_decide_eq_true hf
    rw [show p.length - 1 = j by omega] at this
    exact this
theorem enum_len (L : List Int) : ∀ (d : Nat) (p : List Int), ∀ x ∈ enumN L d p, x.length = p.length + d
  | 0, p, x, hx => by
    simp only [enumN] at hx
    split at hx
    · rw [List.mem_singleton.1 hx, List.length_map]
      rfl
    · simp at hx
  | d + 1, p, x, hx => by
    simp only [enumN, List.mem_flatMap] at hx
    obtain ⟨e, _, hx⟩ := hx
    split at hx
    · have := enum_len L d (p ++ [e]) x hx
      rw [List.length_append, List.length_singleton] at this
      omega
    · simp at hx

theorem node_f (L : List Int) (hL : ∀ e ∈ L, Ok e) (hLl : L.length < 17592186044416) (n : Nat) (hn2 : 2 ≤ n) (hn : n ≤ 16) : ∀ (d : Nat) (p : List Int) (k : Nat), (∀ e ∈ p, Ok e) → p.length + d = n → 1300 + d * (2 * L.length + 10) ≤ k →
    cycle_node.f k L p (n : Int) = some (enumN L d p) := by
  intro d
  induction d with
  | zero =>
    intro p k hp hl hk
    obtain ⟨k, rfl⟩ : ∃ m, k = m + 1 := ⟨k - 1, by omega⟩
    simp only [cycle_node.f, enumN]
    rw [if_pos (by omega), show (n : Int) = (p.length : Int) by omega, leaf_cycle p hp (by omega) (by omega) k (by omega)]
    simp only [Option.bind_some]
    cases leafB p with
    | true =>
      rw [if_neg (by decide), named_f p hp (by omega) k (by omega)]
      rfl
    | false => rfl
  | succ d ih =>
    intro p k hp hl hk
    obtain ⟨k, rfl⟩ : ∃ m, k = m + 1 := ⟨k - 1, by omega⟩
    have hmul : (d + 1) * (2 * L.length + 10) = d * (2 * L.length + 10) + (2 * L.length + 10) := Nat.succ_mul _ _
    simp only [cycle_node.f, enumN]
    rw [if_neg (by omega), table k (by omega)]
    simp only [Option.bind_some]
    have loop : ∀ (r q : List Int) (k : Nat), q ++ r = L → 1300 + d * (2 * L.length + 10) + 2 * r.length + 2 ≤ k →
        cycle_node.l0 k L p (n : Int) R L (L.length : Int) (q.length : Int) = some (r.flatMap fun e => if fitsB p e = true then enumN L d (p ++ [e]) else []) := by
      intro r
      induction r with
      | nil =>
        intro q k hq hk
        obtain ⟨k, rfl⟩ : ∃ m, k = m + 1 := ⟨k - 1, by omega⟩
        simp only [cycle_node.l0]
        rw [if_neg (by rw [← hq]; simp)]
        rfl
      | cons e r ihr =>
        intro q k hq hk
        simp only [List.length_cons] at hk
        obtain ⟨k, rfl⟩ : ∃ m, k = m + 2 := ⟨k - 2, by omega⟩
        have he : Ok e := hL e (by rw [← hq]; simp)
        have hrd : rd L (q.length : Int) = e := by rw [← hq]; exact rdI_mid q r e
        have hlq : q.length < L.length := by rw [← hq]; simp
        have h1 : cycle_node.l0 (k + 2) L p (n : Int) R L (L.length : Int) (q.length : Int) = cycle_node.j2 (k + 1) L p (n : Int) R e L (L.length : Int) (q.length : Int) (!fitsB p e) := by
          simp only [cycle_node.l0]
          rw [if_pos (by omega), if_pos (by omega), if_pos (by omega), hrd]
          unfold fitsB
          by_cases h0 : p.length = 0
          · rw [if_neg (by omega), if_pos h0]
            try rfl
          · have hw : wrap64 ((p.length : Int) - 1) = ((p.length - 1 : Nat) : Int) := by unfold wrap64; omega
            have ho := rd_ok hp (p.length - 1) (by omega)
            rw [if_pos (by omega), if_neg h0, hw, if_pos (by omega), if_pos (by omega), if_pos ho.1, if_pos (by rw [R_len]; exact ho.2), if_pos he.1, if_pos (by rw [R_len]; exact he.2)]
            congr 1
        rw [h1]
        have h2 := ihr (q ++ [e]) k (by rw [← hq]; simp) (by omega)
        rw [List.length_append, List.length_singleton] at h2
        simp only [cycle_node.j2]
        rw [w1 _ (by omega)]
        cases hf : fitsB p e with
        | false =>
          rw [if_pos (by rfl), h2]
          simp [hf]
        | true =>
          rw [if_neg (by decide), clone_f p (by omega)]
          simp only [Option.bind_some]
          rw [if_pos (by omega), ih (p ++ [e]) k (fun x hx => by
            rcases List.mem_append.1 hx with h | h
            · exact hp x h
            · rw [List.mem_singleton.1 h]; exact he) (by simp; omega) (by omega)]
          simp only [Option.bind_some]
          rw [h2]
          simp [hf]
    exact loop L [] k rfl (by omega)
end Go.Proofs.YtjclpkddfpbdcaaDoor.PureB
