/-
  All canonical forms that begin with some edges, in order: as the reference grows them. No machine occurs here.
-/
import Derived.Test.YtjclpkddfpbdcaaDoorPureB7
namespace Go.Proofs.YtjclpkddfpbdcaaDoor.PureB
open Go.RowKit Go.Proofs.YtjclpkddfpbdcaaDoor.XC Go.Proofs.YtjclpkddfpbdcaaDoor.Lay Go.Proofs.YtjclpkddfpbdcaaDoorW.PrintWords Go.Proofs.YtjclpkddfpbdcaaDoorW.PrintLast

def E18 : List Int := (List.range 18).map fun (i : Nat) => (i : Int)
theorem E18_len : E18.length = 18 := by simp [E18]
theorem E18_mem (e : Int) : e ∈ E18 ↔ Ok e := by
  unfold E18 Ok
  rw [List.mem_map]
  refine ⟨fun ⟨i, h, e1⟩ => ?_, fun ⟨a, b⟩ => ⟨e.toNat, ?_, ?_⟩⟩
  · rw [List.mem_range] at h
    omega
  · rw [List.mem_range]
    omega
  · omega
/-- Is an edge's name one of some? -/
def inB (l : List ByteArray) (e : Int) : Bool := l.any fun s => s.toList == (nm e).toList

theorem names_at {e : Int} (h : Ok e) : rdOf ByteArray.empty weirref26_names e = nm e := by
  rw [nm_names h]
  rfl

theorem grow_in (l p : List ByteArray) (n m : Int) (out : List (List ByteArray)) (e : Int) (he : Ok e) (d : Nat) : ∀ (i k : Nat) (b : Bool), i + d = l.length → l.length < 17592186044416 →
    weirref26_grow.l1 (k + d) l p n m out weirref26_names e b (i : Int) = weirref26_grow.l1 k l p n m out weirref26_names e (b || (l.drop i).any fun s => s.toList == (nm e).toList) (l.length : Int) := by
  induction d with
  | zero =>
    intro i k b hi hl
    rw [List.drop_of_length_le (by omega), show i = l.length by omega]
    simp
  | succ d ih =>
    intro i k b hi hl
    have hlt : i < l.length := by omega
    have hr : rdOf ByteArray.empty l (i : Int) = l[i] := by simp [rdOf, List.getD_eq_getElem?_getD, List.getElem?_eq_getElem hlt]
    have h1 : weirref26_grow.l1 (k + (d + 1)) l p n m out weirref26_names e b (i : Int) = weirref26_grow.l1 (k + d) l p n m out weirref26_names e (b || (l[i].toList == (nm e).toList)) ((i + 1 : Nat) : Int) := by
      rw [show k + (d + 1) = (k + d) + 1 by omega]
      conv => lhs; unfold weirref26_grow.l1
      rw [if_pos (by omega), w1 _ (by omega)]
      cases b with
      | true =>
        rw [if_pos rfl]
        rfl
      | false =>
        rw [if_neg (by decide), if_pos (by omega), if_pos he.1, if_pos (by have := he.2; rw [weirref26_names_len]; exact this), hr, names_at he]
        rfl
    rw [h1, ih (i + 1) k _ (by omega) hl, List.drop_eq_getElem_cons hlt]
    simp only [List.any_cons, Bool.or_assoc]

theorem take_more (a b : List (List ByteArray)) (n : Nat) : (a.take n ++ b).take n = (a ++ b).take n := by
  rw [List.take_append, List.take_append, List.take_take, List.length_take]
  congr 1
  · rw [Nat.min_self]
  · by_cases h : a.length ≤ n
    · rw [Nat.min_eq_right h]
    · rw [show n - min n a.length = 0 by omega, show n - a.length = 0 by omega]

/-- One edge more. -/
theorem grow_one (l : List ByteArray) (p : List Int) (n m : Int) (out : List (List ByteArray)) (e : Int) (he : Ok e) (hp : ∀ e ∈ p, Ok e) (hpl : p.length ≤ 16) (k : Nat) (b : Bool) :
    weirref26_grow.l1 (k + 1) l (p.map nm) n m out weirref26_names e b (l.length : Int) =
      if b = true ∧ fitsB p e = true then (weirref26_grow.f k l ((p ++ [e]).map nm) n m out weirref26_names).bind fun z => weirref26_grow.l0 k l (p.map nm) n m z weirref26_names (e + 1)
      else weirref26_grow.l0 k l (p.map nm) n m out weirref26_names (e + 1) := by
  have hw1 : wrap64 (e + 1) = e + 1 := by have := he.1; have := he.2; unfold wrap64; omega
  have hlm : (p.map nm).length = p.length := List.length_map _
  have hgo : ((some ([] : List ByteArray)).bind fun y147 => (if y147.length + (p.map nm).length < 8796093022208 then ((some (y147 ++ p.map nm : List ByteArray)).bind fun y150 => (if 0 ≤ e then (if e < (weirref26_names.length : Int) then ((some (([rdOf ByteArray.empty weirref26_names e] : List ByteArray) : List ByteArray)).bind fun y154 => (if y150.length + y154.length < 8796093022208 then ((weirref26_grow.f k l (y150 ++ y154) n m out weirref26_names).bind fun z_ => (weirref26_grow.l0 k l (p.map nm) n m z_ weirref26_names (wrap64 (e + 1)))) else (none))) else (none)) else (none))) else (none))) =
      (weirref26_grow.f k l ((p ++ [e]).map nm) n m out weirref26_names).bind fun z => weirref26_grow.l0 k l (p.map nm) n m z weirref26_names (e + 1) := by
    simp only [Option.bind_some]
    rw [if_pos (by rw [hlm]; simp; omega), if_pos he.1, if_pos (by rw [weirref26_names_len]; exact he.2), if_pos (by rw [List.length_append, hlm]; simp; omega), names_at he, hw1, List.map_append]
    rfl
  conv => lhs; unfold weirref26_grow.l1
  rw [if_neg (by omega), hw1]
  rw [hw1] at hgo
  cases b with
  | false => rw [if_neg (by decide), if_neg (by simp)]
  | true =>
    rw [if_pos rfl]
    unfold fitsB
    by_cases h0 : p.length = 0
    · rw [if_pos (show ((p.map nm).length : Int) = 0 by rw [hlm]; omega), if_pos h0, if_pos (show true = true ∧ true = true from ⟨rfl, rfl⟩)]
      exact hgo
    · have hw : wrap64 (((p.map nm).length : Int) - 1) = ((p.length - 1 : Nat) : Int) := by rw [hlm]; unfold wrap64; omega
      have ho := rd_ok hp (p.length - 1) (by omega)
      rw [if_neg (by rw [hlm]; omega), if_neg h0, hw, if_pos (by omega), if_pos (by rw [hlm]; omega), Number_f, num_rd _ _ (by rw [hlm]; omega), map_nm hp]
      simp only [Option.bind_some]
      rw [ends_ok ho, begins_ok he]
      simp only [Option.bind_some]
      by_cases e1 : (row (rd p ((p.length - 1 : Nat) : Int))).f2 = (row e).f1
      · rw [if_pos e1, if_pos (show True ∧ decide ((row (rd p ((p.length - 1 : Nat) : Int))).f2 = (row e).f1) = true from ⟨trivial, decide_eq_true e1⟩)]
        exact hgo
      · rw [if_neg e1, if_neg (by simp [e1])]

theorem grow_f (l : List ByteArray) (hl : l.length < 8796093022208) (n : Nat) (hn2 : 2 ≤ n) (hn : n ≤ 16) : ∀ (d : Nat) (p : List Int) (out : List (List ByteArray)) (k : Nat), (∀ e ∈ p, Ok e) → Chained p → p.length + d = n → out.length ≤ 60 → 1300 + d * (18 * (l.length + 4) + 10) ≤ k →
    weirref26_grow.f k l (p.map nm) (n : Int) 60 out weirref26_names = some ((out ++ enumN (E18.filter (inB l)) d p).take 60) := by
  intro d
  induction d with
  | zero =>
    intro p out k hp hc hpl ho hk
    obtain ⟨k, rfl⟩ : ∃ m, k = m + 1 := ⟨k - 1, by omega⟩
    simp only [weirref26_grow.f, enumN]
    by_cases h60 : (out.length : Int) ≥ 60
    · rw [if_pos h60, List.take_append_of_le_length (by omega), List.take_of_length_le (by omega)]
    · rw [if_neg h60, if_pos (by rw [List.length_map]; omega)]
      obtain ⟨c, e, h1, h2, h3⟩ := leaf_ref p hp (by omega) (by omega) hc k (by omega)
      rw [h1]
      simp only [Option.bind_some]
      by_cases e0 : e = 0
      · rw [if_pos e0, h2 e0]
        simp only [Option.bind_some]
        cases leafB p with
        | true => rw [if_pos rfl, if_pos rfl, List.take_of_length_le (by simp; omega)]
        | false => rw [if_neg (by decide), if_neg (by decide), List.append_nil, List.take_of_length_le ho]
      · rw [if_neg e0, h3 e0, if_neg (by decide), List.append_nil, List.take_of_length_le ho]
  | succ d ih =>
    intro p out k hp hc hpl ho hk
    obtain ⟨k, rfl⟩ : ∃ m, k = m + 1 := ⟨k - 1, by omega⟩
    have hmul : (d + 1) * (18 * (l.length + 4) + 10) = d * (18 * (l.length + 4) + 10) + (18 * (l.length + 4) + 10) := Nat.succ_mul _ _
    by_cases h60 : (out.length : Int) ≥ 60
    · simp only [weirref26_grow.f]
      rw [if_pos h60, List.take_append_of_le_length (by omega), List.take_of_length_le (by omega)]
    have loop : ∀ (r : List Int) (q : Nat) (out : List (List ByteArray)) (k : Nat), E18.drop q = r → q + r.length = 18 → out.length ≤ 60 → 1300 + d * (18 * (l.length + 4) + 10) + r.length * (l.length + 4) + 2 ≤ k →
        weirref26_grow.l0 k l (p.map nm) (n : Int) 60 out weirref26_names (q : Int) = some ((out ++ r.flatMap fun e => if inB l e = true ∧ fitsB p e = true then enumN (E18.filter (inB l)) d (p ++ [e]) else []).take 60) := by
      intro r
      induction r with
      | nil =>
        intro q out k hq hql ho hk
        obtain ⟨k, rfl⟩ : ∃ m, k = m + 1 := ⟨k - 1, by omega⟩
        simp only [weirref26_grow.l0]
        rw [if_neg (by simp at hql; omega), List.flatMap_nil, List.append_nil, List.take_of_length_le ho]
      | cons e r ihr =>
        intro q out k hq hql ho hk
        simp only [List.length_cons] at hk hql
        have hsm : (r.length + 1) * (l.length + 4) = r.length * (l.length + 4) + (l.length + 4) := Nat.succ_mul _ _
        obtain ⟨k, rfl⟩ : ∃ m, k = (m + 1 + l.length) + 1 := ⟨k - l.length - 2, by omega⟩
        have heq : e = (q : Int) := by
          have h1 : (E18.drop q)[0]? = some e := by rw [hq]; rfl
          rw [List.getElem?_drop] at h1
          unfold E18 at h1
          rw [List.getElem?_map, Nat.add_zero, List.getElem?_range (by omega)] at h1
          simpa using h1.symm
        have he : Ok e := by rw [heq]; constructor <;> omega
        have hd : E18.drop (q + 1) = r := by rw [← List.drop_drop, hq]; rfl
        simp only [weirref26_grow.l0]
        have hin : weirref26_grow.l1 (k + 1 + l.length) l (p.map nm) (n : Int) 60 out weirref26_names e false 0 = weirref26_grow.l1 (k + 1) l (p.map nm) (n : Int) 60 out weirref26_names e (inB l e) (l.length : Int) := by
          have h1 := grow_in l (p.map nm) (n : Int) 60 out e he l.length 0 (k + 1) false (by omega) (by omega)
          rw [List.drop_zero, Bool.false_or] at h1
          exact h1
        rw [if_pos (by omega), ← heq, hin, grow_one l p (n : Int) 60 out e he hp (by omega) k (inB l e), show e + 1 = ((q + 1 : Nat) : Int) by omega, List.flatMap_cons]
        by_cases hb : inB l e = true ∧ fitsB p e = true
        · rw [if_pos hb, if_pos hb, ih (p ++ [e]) out k (fun x hx => by
            rcases List.mem_append.1 hx with h | h
            · exact hp x h
            · rw [List.mem_singleton.1 h]; exact he) (chained_snoc hc hb.2) (by simp; omega) ho (by omega)]
          simp only [Option.bind_some]
          rw [ihr (q + 1) _ k hd (by omega) (by rw [List.length_take]; omega) (by omega), take_more, List.append_assoc]
        · rw [if_neg hb, if_neg hb, List.nil_append]
          exact ihr (q + 1) out k hd (by omega) ho (by omega)
    have hfil : ∀ L : List Int, ((L.filter (inB l)).flatMap fun e => if fitsB p e = true then enumN (E18.filter (inB l)) d (p ++ [e]) else []) = L.flatMap fun e => if inB l e = true ∧ fitsB p e = true then enumN (E18.filter (inB l)) d (p ++ [e]) else [] := by
      intro L
      induction L with
      | nil => rfl
      | cons x L ihL =>
        rw [List.flatMap_cons, ← ihL, List.filter_cons]
        cases h : inB l x with
        | true => rw [if_pos rfl, List.flatMap_cons]; simp
        | false => rw [if_neg (by decide), if_neg (by simp), List.nil_append]
    simp only [weirref26_grow.f, enumN]
    rw [if_neg h60, if_neg (by rw [List.length_map]; omega), hfil E18]
    exact loop E18 0 out k rfl (by rw [E18_len]) ho (by rw [E18_len]; omega)
end Go.Proofs.YtjclpkddfpbdcaaDoor.PureB
