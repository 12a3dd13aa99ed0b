/- weirlaw30.HistTexts: part of the proof (a value semantics for the model's code, and the functions told by it). -/
import Derived.CallsIn
import Derived.Below
import Derived.Laws.Sem
import Derived.Laws.BytesArg
import Derived.Deep.MidRow
import Derived.Laws.CopyRow
import Derived.Lib.AppendStr
import Derived.Lib.UnsafeStr
import Derived.Laws.Strings
import Derived.Laws.Concat
import Derived.Laws.StructEq
import Derived.ChangeKeysEq
set_option linter.unusedSimpArgs false
set_option linter.unusedVariables false
set_option linter.deprecated false
namespace Go.Ve
inductive PV where
 | val (v : Value)
 | sl (k : Nat) (xs : List PV) (own : Bool)
 | ptr (b off : Nat)
 | vptr (cells : List PV) (off : Nat)
 | rs (k b off len cap : Nat)
 | slt (k : Nat) (xs ys : List PV)
 | func (fn : Fn) (first captured : List PV)
 | iface (t : TypeId) (v : PV)
 | agg (cells : List PV)
 | tuple (vs : List PV)
 | junk
 deriving Inhabited
def PV.cells : PV → List PV
 | .agg cs => cs
 | v => [v]
mutual
def PV.strip : PV → PV
 | .sl k xs _ => .sl k xs false
 | .iface t v => .iface t v.strip
 | .agg cs => .agg (stripL cs)
 | .tuple vs => .tuple (stripL vs)
 | .func fn a c => .func fn (stripL a) (stripL c)
 | .val v => .val v
 | .ptr b o => .ptr b o
 | .vptr c o => .vptr c o
 | .rs k b o n c => .rs k b o n c
 | .slt k xs ys => .slt k xs ys
 | .junk => .junk
def stripL : List PV → List PV
 | [] => []
 | x :: xs => x.strip :: stripL xs
end
theorem stripL_eq : ∀ l : List PV, stripL l = l.map PV.strip
 | [] => rfl
 | x :: xs => by simp [stripL, stripL_eq xs]
mutual
def PV.free : PV → Bool
 | .val _ => true
 | .sl _ _ own => !own
 | .vptr _ _ => true
 | .ptr _ _ => false
 | .rs _ _ _ _ _ => false
 | .slt _ _ _ => true
 | .iface _ v => v.free
 | .agg cs => freeL cs
 | .tuple vs => freeL vs
 | .func _ a c => freeL a && freeL c
 | .junk => true
def freeL : List PV → Bool
 | [] => true
 | x :: xs => x.free && freeL xs
end
theorem freeL_eq : ∀ l : List PV, freeL l = l.all PV.free
 | [] => rfl
 | x :: xs => by simp [freeL, freeL_eq xs]
mutual
def PV.noref : PV → Bool
 | .val _ => true
 | .sl _ _ _ => true
 | .vptr _ _ => true
 | .ptr _ _ => false
 | .rs _ _ _ _ _ => false
 | .slt _ _ _ => true
 | .iface _ v => v.noref
 | .agg cs => norefL cs
 | .tuple vs => norefL vs
 | .func _ a c => norefL a && norefL c
 | .junk => true
def norefL : List PV → Bool
 | [] => true
 | x :: xs => x.noref && norefL xs
end
mutual
theorem PV.noref_of_free : ∀ p : PV, p.free = true → p.noref = true
 | .val _, _ => rfl
 | .sl _ _ _, _ => rfl
 | .vptr _ _, _ => rfl
 | .ptr _ _, h => by simp [PV.free] at h
 | .rs _ _ _ _ _, h => by simp [PV.free] at h
 | .slt _ _ _, _ => rfl
 | .iface _ v, h => PV.noref_of_free v h
 | .agg cs, h => norefL_of_free cs h
 | .tuple vs, h => norefL_of_free vs h
 | .func _ a c, h => by simp [PV.free] at h; simp [PV.noref, norefL_of_free a h.1, norefL_of_free c h.2]
 | .junk, _ => rfl
theorem norefL_of_free : ∀ l : List PV, freeL l = true → norefL l = true
 | [], _ => rfl
 | x :: xs, h => by simp [freeL] at h; simp [norefL, PV.noref_of_free x h.1, norefL_of_free xs h.2]
end
mutual
def PV.lt (n : Nat) : PV → Bool
 | .ptr b _ => decide (b < n)
 | .rs _ b _ _ _ => decide (b < n)
 | .slt _ _ _ => true
 | .iface _ v => v.lt n
 | .agg cs => ltL n cs
 | .tuple vs => ltL n vs
 | .func _ a c => ltL n a && ltL n c
 | .val _ => true
 | .sl _ _ _ => true
 | .vptr _ _ => true
 | .junk => true
def ltL (n : Nat) : List PV → Bool
 | [] => true
 | x :: xs => x.lt n && ltL n xs
end
mutual
def PV.avoid (b : Nat) : PV → Bool
 | .ptr c _ => decide (c ≠ b)
 | .rs _ c _ _ _ => decide (c ≠ b)
 | .iface _ v => v.avoid b
 | .agg cs => avoidL b cs
 | .tuple vs => avoidL b vs
 | .func _ a c => avoidL b a && avoidL b c
 | .val _ => true
 | .sl _ _ _ => true
 | .slt _ _ _ => true
 | .vptr _ _ => true
 | .junk => true
def avoidL (b : Nat) : List PV → Bool
 | [] => true
 | x :: xs => x.avoid b && avoidL b xs
end
abbrev Fz := Nat → Nat → Option Value
mutual
inductive Rep (F : Fz) : List Nat → PV → Value → Prop
 | val {R : List Nat} {v : Value} (h : v.oneCell' = true) : Rep F R (.val v) v
 | sl {R : List Nat} {k : Nat} {xs : List PV} {own : Bool} {b o len cap : Nat} (us : List Value) (hk0 : 0 < k) (hl : len = xs.length) (hc : len ≤ cap) (hk : ∀ x ∈ xs, x.cells.length = k)
   (hF : ∀ (j : Nat) u, us[j]? = some u → F b (o + j) = some u) (hR : RepL F [] (xs.flatMap PV.cells) us) : Rep F R (.sl k xs own) (.slice (some ⟨b, o, none⟩) len cap)
 | slnil {R : List Nat} {k : Nat} {own : Bool} : Rep F R (.sl k [] own) (.slice none 0 0)
 | ptr {R : List Nat} {i off c : Nat} (h : R[i]? = some c) : Rep F R (.ptr i off) (.pointer (some ⟨c, off, none⟩))
 | vptr {R : List Nat} {cs : List PV} {off b o : Nat} (us : List Value) (hF : ∀ (j : Nat) u, us[j]? = some u → F b (o + j) = some u) (hR : RepL F [] cs us) :
   Rep F R (.vptr cs off) (.pointer (some ⟨b, o + off, none⟩))
 | rs {R : List Nat} {k i off len cap c : Nat} (h : R[i]? = some c) (hc : len ≤ cap) : Rep F R (.rs k i off len cap) (.slice (some ⟨c, off, none⟩) len cap)
 | slt {R : List Nat} {k : Nat} {xs ys : List PV} {b o len cap : Nat} (us : List Value) (hk0 : 0 < k) (hl : len = xs.length) (hc : len + ys.length ≤ cap) (hk : ∀ x ∈ xs ++ ys, x.cells.length = k)
   (hF : ∀ (j : Nat) u, us[j]? = some u → F b (o + j) = some u) (hR : RepL F [] ((xs ++ ys).flatMap PV.cells) us) : Rep F R (.slt k xs ys) (.slice (some ⟨b, o, none⟩) len cap)
 | sltnil {R : List Nat} {k : Nat} : Rep F R (.slt k [] []) (.slice none 0 0)
 | sltz {R : List Nat} {k b o : Nat} (hk : k = 0) : Rep F R (.slt k [] []) (.slice (some ⟨b, o, none⟩) 0 0)
 | func {R : List Nat} {fn : Fn} {a c : List PV} {A C : Array Value} (h1 : RepL F R a A.toList) (h2 : RepL F R c C.toList) : Rep F R (.func fn a c) (.func fn A C)
 | iface {R : List Nat} {t : TypeId} {v : PV} {V : Value} (h : Rep F R v V) : Rep F R (.iface t v) (.iface t V)
 | agg {R : List Nat} {cs : List PV} {vs : Array Value} (h1 : ∀ v ∈ vs.toList, v.oneCell' = true) (h : RepL F R cs vs.toList) : Rep F R (.agg cs) (.agg vs)
 | tuple {R : List Nat} {cs : List PV} {vs : Array Value} (h : RepL F R cs vs.toList) : Rep F R (.tuple cs) (.tuple vs)
 | junk {R : List Nat} {v : Value} : Rep F R .junk v
inductive RepL (F : Fz) : List Nat → List PV → List Value → Prop
 | nil {R : List Nat} : RepL F R [] []
 | cons {R : List Nat} {p : PV} {v : Value} {ps : List PV} {vs : List Value} (h : Rep F R p v) (t : RepL F R ps vs) : RepL F R (p :: ps) (v :: vs)
end
def Fz.le (F F' : Fz) : Prop := ∀ b o v, F b o = some v → F' b o = some v
def Rle (R R' : List Nat) : Prop := ∀ (i c : Nat), R[i]? = some c → R'[i]? = some c
theorem Fz.le_refl (F : Fz) : F.le F := fun _ _ _ h => h
theorem Fz.le_trans {a b c : Fz} (h : a.le b) (k : b.le c) : a.le c := fun _ _ _ x => k _ _ _ (h _ _ _ x)
theorem Rle.refl (R : List Nat) : Rle R R := fun _ _ h => h
theorem Rle.trans {a b c : List Nat} (h : Rle a b) (k : Rle b c) : Rle a c := fun _ _ x => k _ _ (h _ _ x)
theorem Rle.append (R l : List Nat) : Rle R (R ++ l) := fun i c h => by
 obtain ⟨hi, _⟩ := List.getElem?_eq_some_iff.1 h
 rw [List.getElem?_append_left hi]; exact h
theorem Rle.nil (R : List Nat) : Rle [] R := fun i c h => by simp at h
mutual
theorem Rep.mono {F F' : Fz} (hF' : F.le F') : ∀ {R R' : List Nat} {p : PV} {v : Value}, Rle R R' → Rep F R p v → Rep F' R' p v
 | _, _, _, _, _, .val h => .val h
 | _, _, _, _, _, .sl us hk0 hl hc hk hF hR => .sl us hk0 hl hc hk (fun j u h => hF' _ _ _ (hF j u h)) (RepL.mono hF' (Rle.refl _) hR)
 | _, _, _, _, _, .slnil => .slnil
 | _, _, _, _, hr, .ptr h => .ptr (hr _ _ h)
 | _, _, _, _, _, .vptr us hF hR => .vptr us (fun j u h => hF' _ _ _ (hF j u h)) (RepL.mono hF' (Rle.refl _) hR)
 | _, _, _, _, hr, .rs h hc => .rs (hr _ _ h) hc
 | _, _, _, _, _, .slt us hk0 hl hc hk hF hR => .slt us hk0 hl hc hk (fun j u h => hF' _ _ _ (hF j u h)) (RepL.mono hF' (Rle.refl _) hR)
 | _, _, _, _, _, .sltnil => .sltnil
 | _, _, _, _, _, .sltz hk => .sltz hk
 | _, _, _, _, hr, .func h1 h2 => .func (RepL.mono hF' hr h1) (RepL.mono hF' hr h2)
 | _, _, _, _, hr, .iface h => .iface (Rep.mono hF' hr h)
 | _, _, _, _, hr, .agg h1 h => .agg h1 (RepL.mono hF' hr h)
 | _, _, _, _, hr, .tuple h => .tuple (RepL.mono hF' hr h)
 | _, _, _, _, _, .junk => .junk
theorem RepL.mono {F F' : Fz} (hF' : F.le F') : ∀ {R R' : List Nat} {p : List PV} {v : List Value}, Rle R R' → RepL F R p v → RepL F' R' p v
 | _, _, _, _, _, .nil => .nil
 | _, _, _, _, hr, .cons h t => .cons (Rep.mono hF' hr h) (RepL.mono hF' hr t)
end
mutual
theorem Rep.strip {F : Fz} : ∀ {R : List Nat} {p : PV} {v : Value}, Rep F R p v → Rep F R p.strip v
 | _, _, _, .val h => .val h
 | _, _, _, .sl us hk0 hl hc hk hF hR => .sl us hk0 hl hc hk hF hR
 | _, _, _, .slnil => .slnil
 | _, _, _, .ptr h => .ptr h
 | _, _, _, .vptr us hF hR => .vptr us hF hR
 | _, _, _, .rs h hc => .rs h hc
 | _, _, _, .slt us hk0 hl hc hk hF hR => .slt us hk0 hl hc hk hF hR
 | _, _, _, .sltnil => .sltnil
 | _, _, _, .sltz hk => .sltz hk
 | _, _, _, .func h1 h2 => .func (RepL.strip h1) (RepL.strip h2)
 | _, _, _, .iface h => .iface (Rep.strip h)
 | _, _, _, .agg h1 h => .agg h1 (RepL.strip h)
 | _, _, _, .tuple h => .tuple (RepL.strip h)
 | _, _, _, .junk => .junk
theorem RepL.strip {F : Fz} : ∀ {R : List Nat} {p : List PV} {v : List Value}, RepL F R p v → RepL F R (stripL p) v
 | _, _, _, .nil => .nil
 | _, _, _, .cons h t => .cons (Rep.strip h) (RepL.strip t)
end
mutual
theorem Rep.of_noref {F : Fz} {R' : List Nat} : ∀ {R : List Nat} {p : PV} {v : Value}, p.noref = true → Rep F R p v → Rep F R' p v
 | _, _, _, _, .val h => .val h
 | _, _, _, _, .sl us hk0 hl hc hk hF hR => .sl us hk0 hl hc hk hF hR
 | _, _, _, _, .slnil => .slnil
 | _, _, _, hf, .ptr _ => by simp [PV.noref] at hf
 | _, _, _, _, .vptr us hF hR => .vptr us hF hR
 | _, _, _, hf, .rs _ _ => by simp [PV.noref] at hf
 | _, _, _, _, .slt us hk0 hl hc hk hF hR => .slt us hk0 hl hc hk hF hR
 | _, _, _, _, .sltnil => .sltnil
 | _, _, _, _, .sltz hk => .sltz hk
 | _, _, _, hf, .func h1 h2 => by simp [PV.noref] at hf; exact .func (RepL.of_noref hf.1 h1) (RepL.of_noref hf.2 h2)
 | _, _, _, hf, .iface h => by simp [PV.noref] at hf; exact .iface (Rep.of_noref hf h)
 | _, _, _, hf, .agg h1 h => by simp [PV.noref] at hf; exact .agg h1 (RepL.of_noref hf h)
 | _, _, _, hf, .tuple h => by simp [PV.noref] at hf; exact .tuple (RepL.of_noref hf h)
 | _, _, _, _, .junk => .junk
theorem RepL.of_noref {F : Fz} {R' : List Nat} : ∀ {R : List Nat} {p : List PV} {v : List Value}, norefL p = true → RepL F R p v → RepL F R' p v
 | _, _, _, _, .nil => .nil
 | _, _, _, hf, .cons h t => by simp [norefL] at hf; exact .cons (Rep.of_noref hf.1 h) (RepL.of_noref hf.2 t)
end
mutual
theorem Rep.take {F : Fz} {n : Nat} : ∀ {R : List Nat} {p : PV} {v : Value}, p.lt n = true → Rep F R p v → Rep F (R.take n) p v
 | _, _, _, _, .val h => .val h
 | _, _, _, _, .sl us hk0 hl hc hk hF hR => .sl us hk0 hl hc hk hF hR
 | _, _, _, _, .slnil => .slnil
 | R, _, _, hf, .ptr h => by
  simp [PV.lt] at hf
  exact .ptr (by rw [List.getElem?_take]; simp [hf, h])
 | _, _, _, _, .vptr us hF hR => .vptr us hF hR
 | R, _, _, hf, .rs h hc => by
  simp [PV.lt] at hf
  exact .rs (by rw [List.getElem?_take]; simp [hf, h]) hc
 | _, _, _, _, .slt us hk0 hl hc hk hF hR => .slt us hk0 hl hc hk hF hR
 | _, _, _, _, .sltnil => .sltnil
 | _, _, _, _, .sltz hk => .sltz hk
 | _, _, _, hf, .func h1 h2 => by simp [PV.lt] at hf; exact .func (RepL.take_R hf.1 h1) (RepL.take_R hf.2 h2)
 | _, _, _, hf, .iface h => by simp [PV.lt] at hf; exact .iface (Rep.take hf h)
 | _, _, _, hf, .agg h1 h => by simp [PV.lt] at hf; exact .agg h1 (RepL.take_R hf h)
 | _, _, _, hf, .tuple h => by simp [PV.lt] at hf; exact .tuple (RepL.take_R hf h)
 | _, _, _, _, .junk => .junk
theorem RepL.take_R {F : Fz} {n : Nat} : ∀ {R : List Nat} {p : List PV} {v : List Value}, ltL n p = true → RepL F R p v → RepL F (R.take n) p v
 | _, _, _, _, .nil => .nil
 | _, _, _, hf, .cons h t => by simp [ltL] at hf; exact .cons (Rep.take hf.1 h) (RepL.take_R hf.2 t)
end
mutual
theorem Rep.moved {F : Fz} {i n : Nat} : ∀ {R : List Nat} {p : PV} {v : Value}, p.avoid i = true → Rep F R p v → Rep F (R.set i n) p v
 | _, _, _, _, .val h => .val h
 | _, _, _, _, .sl us hk0 hl hc hk hF hR => .sl us hk0 hl hc hk hF hR
 | _, _, _, _, .slnil => .slnil
 | R, _, _, hf, .ptr h => by
  simp [PV.avoid] at hf
  exact .ptr (by rw [List.getElem?_set_ne (fun e => hf e.symm)]; exact h)
 | _, _, _, _, .vptr us hF hR => .vptr us hF hR
 | R, _, _, hf, .rs h hc => by
  simp [PV.avoid] at hf
  exact .rs (by rw [List.getElem?_set_ne (fun e => hf e.symm)]; exact h) hc
 | _, _, _, _, .slt us hk0 hl hc hk hF hR => .slt us hk0 hl hc hk hF hR
 | _, _, _, _, .sltnil => .sltnil
 | _, _, _, _, .sltz hk => .sltz hk
 | _, _, _, hf, .func h1 h2 => by simp [PV.avoid] at hf; exact .func (RepL.moved hf.1 h1) (RepL.moved hf.2 h2)
 | _, _, _, hf, .iface h => by simp [PV.avoid] at hf; exact .iface (Rep.moved hf h)
 | _, _, _, hf, .agg h1 h => by simp [PV.avoid] at hf; exact .agg h1 (RepL.moved hf h)
 | _, _, _, hf, .tuple h => by simp [PV.avoid] at hf; exact .tuple (RepL.moved hf h)
 | _, _, _, _, .junk => .junk
theorem RepL.moved {F : Fz} {i n : Nat} : ∀ {R : List Nat} {p : List PV} {v : List Value}, avoidL i p = true → RepL F R p v → RepL F (R.set i n) p v
 | _, _, _, _, .nil => .nil
 | _, _, _, hf, .cons h t => by simp [avoidL] at hf; exact .cons (Rep.moved hf.1 h) (RepL.moved hf.2 t)
end
theorem Rep.of_free {F : Fz} {R R' : List Nat} {p : PV} {v : Value} (h : p.free = true) (hr : Rep F R p v) : Rep F R' p v := hr.of_noref (p.noref_of_free h)
theorem RepL.of_free {F : Fz} {R R' : List Nat} {p : List PV} {v : List Value} (h : freeL p = true) (hr : RepL F R p v) : RepL F R' p v := hr.of_noref (norefL_of_free p h)
theorem RepL.length {F : Fz} : ∀ {R : List Nat} {p : List PV} {v : List Value}, RepL F R p v → v.length = p.length
 | _, _, _, .nil => rfl
 | _, _, _, .cons _ t => by simp [RepL.length t]
theorem RepL.get {F : Fz} : ∀ {R : List Nat} {p : List PV} {v : List Value}, RepL F R p v → ∀ (i : Nat) q, p[i]? = some q → ∃ u, v[i]? = some u ∧ Rep F R q u
 | _, _, _, .nil, i, q, h => by simp at h
 | _, _, _, .cons h t, 0, q, hq => by simp at hq; subst hq; exact ⟨_, rfl, h⟩
 | _, _, _, .cons h t, i + 1, q, hq => by simpa using RepL.get t i q (by simpa using hq)
theorem RepL.get' {F : Fz} : ∀ {R : List Nat} {p : List PV} {v : List Value}, RepL F R p v → ∀ (i : Nat) u, v[i]? = some u → ∃ q, p[i]? = some q ∧ Rep F R q u
 | _, _, _, .nil, i, q, h => by simp at h
 | _, _, _, .cons h t, 0, q, hq => by simp at hq; subst hq; exact ⟨_, rfl, h⟩
 | _, _, _, .cons h t, i + 1, q, hq => by simpa using RepL.get' t i q (by simpa using hq)
theorem RepL.of_get {F : Fz} {R : List Nat} : ∀ {p : List PV} {v : List Value}, v.length = p.length → (∀ (i : Nat) q u, p[i]? = some q → v[i]? = some u → Rep F R q u) → RepL F R p v
 | [], [], _, _ => .nil
 | [], _ :: _, h, _ => by simp at h
 | _ :: _, [], h, _ => by simp at h
 | p :: ps, v :: vs, h, k => .cons (k 0 p v rfl rfl) (RepL.of_get (by simpa using h) (fun i q u hq hu => k (i + 1) q u (by simpa using hq) (by simpa using hu)))
theorem RepL.set {F : Fz} {R : List Nat} {p : PV} {v : Value} (h : Rep F R p v) : ∀ {ps : List PV} {vs : List Value}, RepL F R ps vs → ∀ i : Nat, RepL F R (ps.set i p) (vs.set i v)
 | _, _, .nil, _ => by simp; exact .nil
 | _, _, .cons _ t, 0 => .cons h t
 | _, _, .cons h' t, i + 1 => .cons h' (RepL.set h t i)
theorem RepL.append {F : Fz} {R : List Nat} {qs : List PV} {us : List Value} (h : RepL F R qs us) : ∀ {ps : List PV} {vs : List Value}, RepL F R ps vs → RepL F R (ps ++ qs) (vs ++ us)
 | _, _, .nil => h
 | _, _, .cons h' t => .cons h' (RepL.append h t)
theorem RepL.drop {F : Fz} {R : List Nat} : ∀ {ps : List PV} {vs : List Value}, RepL F R ps vs → ∀ n : Nat, RepL F R (ps.drop n) (vs.drop n)
 | _, _, h, 0 => h
 | _, _, .nil, n + 1 => by simp; exact .nil
 | _, _, .cons _ t, n + 1 => by simpa using RepL.drop t n
theorem RepL.take {F : Fz} {R : List Nat} : ∀ {ps : List PV} {vs : List Value}, RepL F R ps vs → ∀ n : Nat, RepL F R (ps.take n) (vs.take n)
 | _, _, _, 0 => by simp; exact .nil
 | _, _, .nil, n + 1 => by simp; exact .nil
 | _, _, .cons h t, n + 1 => by simpa using .cons h (RepL.take t n)
theorem RepL.split {F : Fz} {R : List Nat} : ∀ {ps qs : List PV} {vs : List Value}, RepL F R (ps ++ qs) vs → RepL F R ps (vs.take ps.length) ∧ RepL F R qs (vs.drop ps.length)
 | [], _, _, h => by simpa using ⟨.nil, h⟩
 | p :: ps, qs, _, .cons h t => by
  obtain ⟨a, b⟩ := RepL.split t
  exact ⟨by simpa using .cons h a, by simpa using b⟩
def PV.solid : PV → Bool
 | .tuple _ => false
 | .junk => false
 | _ => true
theorem Rep.cells {F : Fz} {R : List Nat} {p : PV} {v : Value} (h : Rep F R p v) (hs : p.solid = true) : RepL F R p.cells v.cells.toList := by
 cases h with
 | val h => cases v <;> simp [Value.oneCell'] at h <;> exact .cons (.val rfl) .nil
 | agg _ h => exact h
 | sl us hk0 hl hc hk hF hR => exact .cons (.sl us hk0 hl hc hk hF hR) .nil
 | slnil => exact .cons .slnil .nil
 | ptr h => exact .cons (.ptr h) .nil
 | vptr us hF hR => exact .cons (.vptr us hF hR) .nil
 | rs h hc => exact .cons (.rs h hc) .nil
 | slt us hk0 hl hc hk hF hR => exact .cons (.slt us hk0 hl hc hk hF hR) .nil
 | sltnil => exact .cons .sltnil .nil
 | sltz hk => exact .cons (.sltz hk) .nil
 | func h1 h2 => exact .cons (.func h1 h2) .nil
 | iface h => exact .cons (.iface h) .nil
 | tuple h => simp [PV.solid] at hs
 | junk => simp [PV.solid] at hs
theorem Rep.ones {F : Fz} {R : List Nat} {p : PV} {v : Value} (h : Rep F R p v) (hs : p.solid = true) : ∀ u ∈ v.cells.toList, u.oneCell' = true := by
 cases h with
 | val h => cases v <;> simp [Value.oneCell'] at h <;> simp [Value.cells, Value.oneCell']
 | agg h1 h => exact h1
 | tuple h => simp [PV.solid] at hs
 | sl us hk0 hl hc hk hF hR => simp [Value.cells, Value.oneCell']
 | slnil => simp [Value.cells, Value.oneCell']
 | ptr h => simp [Value.cells, Value.oneCell']
 | vptr us hF hR => simp [Value.cells, Value.oneCell']
 | rs h hc => simp [Value.cells, Value.oneCell']
 | slt us hk0 hl hc hk hF hR => simp [Value.cells, Value.oneCell']
 | sltnil => simp [Value.cells, Value.oneCell']
 | sltz hk => simp [Value.cells, Value.oneCell']
 | func h1 h2 => simp [Value.cells, Value.oneCell']
 | iface h => simp [Value.cells, Value.oneCell']
 | junk => simp [PV.solid] at hs
theorem Rep.size {F : Fz} {R : List Nat} {p : PV} {v : Value} (h : Rep F R p v) (hs : p.solid = true) : v.cells.size = p.cells.length := by
 have := (h.cells hs).length; simpa using this
structure Occ where
 k : Nat
 b : Nat
 o : Nat
 len : Nat
 cap : Nat
 ty : Option (TypeId × List Value)
mutual
def occ : PV → Value → List Occ
 | .sl k _ true, .slice (some ad) len cap => [⟨k, ad.block, ad.off, len, cap, none⟩]
 | .agg cs, .agg vs => occL cs vs.toList
 | .tuple cs, .tuple vs => occL cs vs.toList
 | .iface _ v, .iface _ V => occ v V
 | .func _ a c, .func _ A C => occL a A.toList ++ occL c C.toList
 | _, _ => []
def occL : List PV → List Value → List Occ
 | p :: ps, v :: vs => occ p v ++ occL ps vs
 | _, _ => []
end
mutual
theorem occ_strip : ∀ (p : PV) (v : Value), occ p.strip v = []
 | .sl k xs o, v => by cases v <;> simp [PV.strip, occ]
 | .agg cs, v => by cases v <;> simp [PV.strip, occ, occL_strip cs]
 | .tuple cs, v => by cases v <;> simp [PV.strip, occ, occL_strip cs]
 | .iface t p, v => by cases v <;> simp [PV.strip, occ, occ_strip p]
 | .func fn a c, v => by cases v <;> simp [PV.strip, occ, occL_strip a, occL_strip c]
 | .val u, v => by cases v <;> simp [PV.strip, occ]
 | .ptr _ _, v => by cases v <;> simp [PV.strip, occ]
 | .vptr _ _, v => by cases v <;> simp [PV.strip, occ]
 | .rs _ _ _ _ _, v => by cases v <;> simp [PV.strip, occ]
 | .slt _ _ _, v => by cases v <;> simp [PV.strip, occ]
 | .junk, v => by cases v <;> simp [PV.strip, occ]
theorem occL_strip : ∀ (ps : List PV) (vs : List Value), occL (stripL ps) vs = []
 | [], vs => by simp [stripL, occL]
 | p :: ps, [] => by simp [stripL, occL]
 | p :: ps, v :: vs => by simp [stripL, occL, occ_strip p, occL_strip ps]
end
mutual
theorem occ_free : ∀ (p : PV) (v : Value), p.free = true → occ p v = []
 | .sl k xs o, v, h => by cases o <;> cases v <;> simp [PV.free, occ] at h ⊢
 | .agg cs, v, h => by simp [PV.free] at h; cases v <;> simp [occ, occL_free cs _ h]
 | .tuple cs, v, h => by simp [PV.free] at h; cases v <;> simp [occ, occL_free cs _ h]
 | .iface t p, v, h => by simp [PV.free] at h; cases v <;> simp [occ, occ_free p _ h]
 | .func fn a c, v, h => by simp [PV.free] at h; cases v <;> simp [occ, occL_free a _ h.1, occL_free c _ h.2]
 | .val u, v, _ => by cases v <;> simp [occ]
 | .ptr _ _, v, _ => by cases v <;> simp [occ]
 | .vptr _ _, v, _ => by cases v <;> simp [occ]
 | .rs _ _ _ _ _, v, _ => by cases v <;> simp [occ]
 | .slt _ _ _, v, _ => by cases v <;> simp [occ]
 | .junk, v, _ => by cases v <;> simp [occ]
theorem occL_free : ∀ (ps : List PV) (vs : List Value), freeL ps = true → occL ps vs = []
 | [], vs, _ => by simp [occL]
 | p :: ps, [], _ => by simp [occL]
 | p :: ps, v :: vs, h => by simp [freeL] at h; simp [occL, occ_free p v h.1, occL_free ps vs h.2]
end
def cnt (c : Nat) (l : List Occ) : Nat := l.countP (·.b == c)
@[simp] theorem cnt_nil (c : Nat) : cnt c [] = 0 := rfl
@[simp] theorem cnt_append (c : Nat) (a b : List Occ) : cnt c (a ++ b) = cnt c a + cnt c b := by simp [cnt]
def Sub (l' l : List Occ) : Prop := (∀ c, cnt c l' ≤ cnt c l) ∧ ∀ q ∈ l', q ∈ l
theorem Sub.refl (l : List Occ) : Sub l l := ⟨fun _ => Nat.le_refl _, fun _ h => h⟩
theorem Sub.trans {a b c : List Occ} (h : Sub a b) (k : Sub b c) : Sub a c := ⟨fun x => Nat.le_trans (h.1 x) (k.1 x), fun q hq => k.2 q (h.2 q hq)⟩
theorem Sub.nil (l : List Occ) : Sub [] l := ⟨fun _ => by simp, fun _ h => by simp at h⟩
theorem Sub.append {a b c d : List Occ} (h : Sub a c) (k : Sub b d) : Sub (a ++ b) (c ++ d) :=
 ⟨fun x => by simp; exact Nat.add_le_add (h.1 x) (k.1 x), fun q hq => by
  rcases List.mem_append.1 hq with hq | hq
  ·exact List.mem_append_left _ (h.2 q hq)
  ·exact List.mem_append_right _ (k.2 q hq)⟩
theorem occL_append : ∀ (ps : List PV) (vs : List Value) (qs : List PV) (us : List Value), vs.length = ps.length → occL (ps ++ qs) (vs ++ us) = occL ps vs ++ occL qs us
 | [], [], qs, us, _ => by simp [occL]
 | [], v :: vs, _, _, h => by simp at h
 | p :: ps, [], _, _, h => by simp at h
 | p :: ps, v :: vs, qs, us, h => by simp [occL, occL_append ps vs qs us (by simpa using h)]
theorem occL_set : ∀ (ps : List PV) (vs : List Value) (i : Nat) (p : PV) (v : Value), vs.length = ps.length →
  (∀ c, cnt c (occL (ps.set i p) (vs.set i v)) + cnt c (match ps[i]?, vs[i]? with | some q, some u => occ q u | _, _ => []) = cnt c (occL ps vs) + cnt c (match ps[i]? with | some _ => occ p v | none => [])) ∧
  ∀ q ∈ occL (ps.set i p) (vs.set i v), q ∈ occL ps vs ∨ q ∈ occ p v
 | [], [], i, p, v, _ => by simp [occL]
 | [], v :: vs, _, _, _, h => by simp at h
 | p :: ps, [], _, _, _, h => by simp at h
 | p0 :: ps, v0 :: vs, 0, p, v, h => by
  refine ⟨fun c => by simp [occL]; omega, fun q hq => ?_⟩
  simp [occL] at hq ⊢
  rcases hq with hq | hq
  ·exact .inr hq
  ·exact .inl (.inr hq)
 | p0 :: ps, v0 :: vs, i + 1, p, v, h => by
  obtain ⟨h1, h2⟩ := occL_set ps vs i p v (by simpa using h)
  refine ⟨fun c => by have := h1 c; simp [occL] at this ⊢; omega, fun q hq => ?_⟩
  simp [occL] at hq ⊢
  rcases hq with hq | hq
  ·exact .inl (.inl hq)
  ·rcases h2 q hq with h3 | h3
   ·exact .inl (.inr h3)
   ·exact .inr h3
theorem occL_set_le (ps : List PV) (vs : List Value) (i : Nat) (p : PV) (v : Value) (hl : vs.length = ps.length) : Sub (occL (ps.set i p) (vs.set i v)) (occ p v ++ occL ps vs) := by
 obtain ⟨h1, h2⟩ := occL_set ps vs i p v hl
 refine ⟨fun c => ?_, fun q hq => ?_⟩
 ·have h3 := h1 c
  simp only [cnt_append]
  split at h3 <;> split at h3 <;> (try simp only [cnt_nil] at h3) <;> omega
 ·rcases h2 q hq with h3 | h3
  ·exact List.mem_append_right _ h3
  ·exact List.mem_append_left _ h3
theorem occL_set_none (ps : List PV) (vs : List Value) (i : Nat) (p : PV) (v : Value) (hl : vs.length = ps.length) (h : occ p v = []) : Sub (occL (ps.set i p) (vs.set i v)) (occL ps vs) := by
 obtain ⟨h1, h2⟩ := occL_set ps vs i p v hl
 refine ⟨fun c => ?_, fun q hq => ?_⟩
 ·have h3 := h1 c
  rw [h] at h3
  split at h3 <;> split at h3 <;> simp at h3 <;> omega
 ·rcases h2 q hq with h3 | h3
  ·exact h3
  ·rw [h] at h3; simp at h3
end Go.Ve
namespace Go.Ve
inductive Blk where
 | live (cells : List PV)
 | frz (cells : List PV)
 | loop (s : LoopState) (pend : Option Code) (T : List PV) (ps : Array Tmp) (assign body : Code)
 | bld (T e : TypeId) (pre : List PV) (s : ByteArray)
 deriving Inhabited
def Blk.cells : Blk → List PV
 | .live c => c
 | .frz c => c
 | .loop .. => []
 | .bld _ _ pre _ => pre
structure St where
 tmps : List PV
 blks : List Blk
abbrev PT := List PV → List Blk → (PV → List Blk → Prop) → Prop
structure Yd where
 l : Nat
 R0 : List Nat
 T : PT
def up (T : PT) : PT := fun args B K => ∃ K0, T args B K0 ∧ ∀ r b, K0 r b → K r b
theorem up_mono {T : PT} {args : List PV} {B : List Blk} {K K' : PV → List Blk → Prop} (hk : ∀ r b, K r b → K' r b) (h : up T args B K) : up T args B K' := by
 obtain ⟨K0, h1, h2⟩ := h
 exact ⟨K0, h1, fun r b h => hk _ _ (h2 r b h)⟩
structure Env where
 P : Program
 G : Nat → Option (List PV)
 Y : Option Yd
 ro : Option Nat
 lo : Nat
 vc : List Tmp
 dk : Bool
def undefP : PV := .junk
def ofC1 : Value → PV
 | .slice none 0 0 => .sl 0 [] true
 | v => if v.oneCell' then .val v else .junk
def ofC : Value → PV
 | .agg cs => if cs.toList.all (·.oneCell') then .agg (cs.toList.map ofC1) else .junk
 | v => ofC1 v
def sz (P : Program) (t : TypeId) : Nat := match P.info? t with | some i => i.size | none => 0
def byt (P : Program) (t : TypeId) : Nat := match P.info? t with | some i => i.bytes | none => 0
def zeroV (P : Program) (t : TypeId) : Option Value := (P.info? t).bind (·.zero)
def zeroP (P : Program) (t : TypeId) : Option PV := match zeroV P t with | some v => some (ofC v) | none => none
def aggT (P : Program) (t : TypeId) : Option Bool := match P.underlying t with
 | some (.struct _) => some true
 | some (.array _ _) => some true
 | some _ => some false
 | none => none
def aev (E : Env) (st : St) : Operand → PV
 | .tmp t => st.tmps.getD t undefP
 | .const v => ofC v
 | .global g => match E.G g with | some cs => .vptr cs 0 | none => .val (.pointer (some ⟨g, 0, none⟩))
 | .func f => .func (.func f) [] []
def St.put (st : St) (d : Option Tmp) (v : PV) : St :=
 match d with
 | some d => { st with tmps := st.tmps.set d v }
 | none => st
structure RI where
 ds : List (Option Tmp)
 fd : List Tmp
 dr : Bool
def feedL : List Oper → List Tmp
 | [] => []
 | o :: os => (match o.op with
  | .call { callee := .builtin .append, args, .. } => (match args.toList with | .tmp t :: _ => [t] | _ => [])
  | _ => []) ++ feedL os
def ri (ops : List Oper) : RI := ⟨ops.map (·.dst), feedL ops, false⟩
def riD (ops : List Oper) : RI := ⟨ops.map (·.dst), feedL ops, true⟩
def seen {α : Type} (d : Bool) (M : α) (N : α) : α := match d with | true => N | false => M
def feeds (r : RI) (d : Option Tmp) : Bool :=
 match d with
 | none => false
 | some d => r.fd.contains d
def cellsAt (M : List Blk) (a : PV) (n : Nat) : Option (List PV) :=
 match a with
 | .ptr b off => match M[b]? with
  | some blk => if off + n ≤ blk.cells.length then some ((blk.cells.drop off).take n) else none
  | none => none
 | .vptr cs off => if off + n ≤ cs.length then some ((cs.drop off).take n) else none
 | _ => none
def loadP (P : Program) (M : List Blk) (t : TypeId) (a : PV) : Option PV :=
 match aggT P t with
 | some true => (cellsAt M a (sz P t)).map .agg
 | some false => match cellsAt M a 1 with | some [c] => some c | _ => none
 | none => none
def splice (l : List PV) (off : Nat) (vs : List PV) : List PV := l.take off ++ vs ++ l.drop (off + vs.length)
def binI (op : BinOp) (k : IntKind) (a b : Int) : Option Value :=
 match op with
 | .add => some (.int k (k.wrap (a + b)))
 | .sub => some (.int k (k.wrap (a - b)))
 | .mul => some (.int k (k.wrap (a * b)))
 | .quo => if b = 0 then none else some (.int k (k.wrap (a.tdiv b)))
 | .rem => if b = 0 then none else some (.int k (a.tmod b))
 | .and => some (.int k (k.wrap (BitVec.ofInt k.bits a &&& BitVec.ofInt k.bits b).toNat))
 | .or => some (.int k (k.wrap (BitVec.ofInt k.bits a ||| BitVec.ofInt k.bits b).toNat))
 | .xor => some (.int k (k.wrap (BitVec.ofInt k.bits a ^^^ BitVec.ofInt k.bits b).toNat))
 | .andNot => some (.int k (k.wrap (BitVec.ofInt k.bits a &&& ~~~ BitVec.ofInt k.bits b).toNat))
 | .eql => some (.bool (decide (a = b)))
 | .neq => some (.bool (decide (a ≠ b)))
 | .lss => some (.bool (decide (a < b)))
 | .leq => some (.bool (decide (a ≤ b)))
 | .gtr => some (.bool (decide (b < a)))
 | .geq => some (.bool (decide (b ≤ a)))
 | _ => none
def binS (op : BinOp) (a b : ByteArray) : Option Value :=
 match op with
 | .add => if a.size + b.size ≤ 9223372036854775807 then some (.string (a ++ b)) else none
 | .eql => some (.bool (decide (a = b)))
 | .neq => some (.bool (decide (a ≠ b)))
 | .lss => some (.bool (Op.bytesLess a.data.toList b.data.toList))
 | .leq => some (.bool (Op.bytesLess a.data.toList b.data.toList || decide (a = b)))
 | .gtr => some (.bool (!(Op.bytesLess a.data.toList b.data.toList || decide (a = b))))
 | .geq => some (.bool (!Op.bytesLess a.data.toList b.data.toList))
 | _ => none
def binV (op : BinOp) (x y : Value) : Option Value :=
 match x, y with
 | .int k a, .int k' b =>
  match op with
  | .shl => if b < 0 then none else some (.int k (k.wrap (a * 2 ^ min b.toNat k.bits)))
  | .shr => if b < 0 then none else some (.int k (a.fdiv (2 ^ min b.toNat k.bits)))
  | _ => if k = k' then binI op k a b else none
 | .string a, .string b => binS op a b
 | _, _ => none
def eqD (d : TypeDesc) (x y : PV) : Option Bool :=
 match d, x, y with
 | .bool, .val (.bool a), .val (.bool b) => some (decide (a = b))
 | .interface _, .val .nilIface, .iface _ _ => some false
 | .interface _, .iface _ _, .val .nilIface => some false
 | .interface _, .val .nilIface, .val .nilIface => some true
 | .pointer _, .val (.pointer none), .val (.pointer none) => some true
 | .pointer _, .val (.pointer none), .ptr _ _ => some false
 | .pointer _, .val (.pointer none), .vptr _ _ => some false
 | .pointer _, .ptr _ _, .val (.pointer none) => some false
 | .pointer _, .vptr _ _, .val (.pointer none) => some false
 | .func _ _ _, .val .nilFunc, .val .nilFunc => some true
 | .func _ _ _, .val .nilFunc, .func _ _ _ => some false
 | .func _ _ _, .func _ _ _, .val .nilFunc => some false
 | .slice _, .slt _ _ (_ :: _), .sl 0 [] _ => some false
 | _, _, _ => none
def askable (x y : Operand) (p q : PV) : Bool :=
 match p, q with
 | .val .nilIface, .val .nilIface => (match x with | .const _ => true | _ => false) || (match y with | .const _ => true | _ => false)
 | .agg _, .agg _ => false
 | .junk, _ => false
 | _, .junk => false
 | _, _ => true
def idx (i : Int) (n : Nat) : Option Nat := if 0 ≤ i ∧ i < n then some i.toNat else none
def lowB (h : Nat) : Option PV → Option (Nat × Nat)
 | none => some (0, h)
 | some (.val (.int _ l)) => if 0 ≤ l ∧ l ≤ h then some (l.toNat, h) else none
 | _ => none
def highB (len cap : Nat) : Option PV → Option Nat
 | none => some len
 | some (.val (.int _ h)) => if 0 ≤ h ∧ h ≤ cap then some h.toNat else none
 | _ => none
def bnds (len cap : Nat) (lo hi : Option PV) : Option (Nat × Nat) := (highB len cap hi).bind fun h => lowB h lo
def fillP (place : Nat → Option (Nat × Nat)) (cells : List PV) : List (Nat × PV) → Option (List PV)
 | [] => some cells
 | (i, v) :: rest =>
  match place i with
  | none => none
  | some (off, size) => if !v.solid ∨ v.cells.length ≠ size ∨ off + v.cells.length > cells.length then none else fillP place (splice cells off v.cells) rest
def byteOf : PV → Option Int
 | .val (.int .u8 n) => some n
 | _ => none
def bytesOf : List PV → Option (List Int)
 | [] => some []
 | x :: xs => match byteOf x, bytesOf xs with
  | some n, some ns => some (n :: ns)
  | _, _ => none
def fieldsOf (P : Program) (t : TypeId) : Option (Array Field) := match P.underlying t with | some (.struct fs) => some fs | _ => none
def places (P : Program) (t : TypeId) : Option (List (Nat × Nat)) := (fieldsOf P t).bind fun fs => fs.toList.mapM fun f => (P.info? f.type).map fun i => (f.offset, i.size)
def buildP (P : Program) (t : TypeId) (parts : List (Nat × PV)) : Option PV :=
 match zeroP P t, P.underlying t with
 | some z, some (.struct _) => if z.solid then (places P t).bind fun pl => (fillP (fun i => pl[i]?) z.cells parts).map .agg else none
 | some z, some (.array _ e) => if z.solid ∧ ¬ sz P e = 0 then (fillP (fun i => some (i * sz P e, sz P e)) z.cells parts).map .agg else none
 | _, _ => none
def PV.one : PV → Bool
 | .agg _ => false
 | _ => true
def chunks (k : Nat) (cs : List PV) : Nat → List PV
 | 0 => []
 | n + 1 => (if k = 1 then cs.getD 0 undefP else .agg (cs.take k)) :: chunks k (cs.drop k) n
def eqF (P : Program) (f : TypeId → PV → PV → Option Bool) (cs ds : List PV) : List Field → Option Bool
 | [] => some true
 | g :: gs => if g.name = "_" then eqF P f cs ds gs else match loadP P [] g.type (.vptr cs g.offset), loadP P [] g.type (.vptr ds g.offset) with
  | some p, some q => match f g.type p q, eqF P f cs ds gs with
   | some a, some b => some (a && b)
   | _, _ => none
  | _, _ => none
def eqN (P : Program) (f : PV → PV → Option Bool) (e : TypeId) (cs ds : List PV) : List Nat → Option Bool
 | [] => some true
 | i :: is => match loadP P [] e (.vptr cs (i * P.cellsOf e)), loadP P [] e (.vptr ds (i * P.cellsOf e)) with
  | some p, some q => match f p q, eqN P f e cs ds is with
   | some a, some b => some (a && b)
   | _, _ => none
  | _, _ => none
def eqI (P : Program) : Nat → TypeId → PV → PV → Option Bool
 | 0, _, _, _ => none
 | d + 1, t, x, y => match P.underlying t, x, y with
  | some .bool, .val (.bool a), .val (.bool b) => some (decide (a = b))
  | some (.int _), .val (.int k a), .val (.int k' b) => if k = k' then some (decide (a = b)) else none
  | some .string, .val (.string a), .val (.string b) => some (decide (a = b))
  | some (.struct fs), .agg cs, .agg ds => if P.stoodInHeld t = false then eqF P (eqI P d) cs ds fs.toList else none
  | some (.array n e), .agg cs, .agg ds => if n = 0 then none else eqN P (eqI P d e) e cs ds (List.range n)
  | _, _, _ => none
def aggEq (P : Program) (op : BinOp) (t : TypeId) (p q : PV) : Option PV := match p, q with
 | .agg cs, .agg ds => if P.eqGuardType P.depth t = false then match op with
   | .eql => (eqI P 9 t (.agg cs) (.agg ds)).map fun r => .val (.bool r)
   | .neq => (eqI P 9 t (.agg cs) (.agg ds)).map fun r => .val (.bool (!r))
   | _ => none
  else none
 | _, _ => none
def zOf (k z : Nat) : Nat := match k with
 | 0 => 0
 | _ + 1 => z
def slRes (own lo hi : Bool) (z : Nat) (xs : List PV) (l h : Nat) : PV := match own, lo, hi with
 | true, false, true => .slt z (xs.take h) (xs.drop h)
 | _, _, _ => .sl z ((xs.take h).drop l) false
def rsRes (b off l h cap z : Nat) : PV := if l = cap then .sl z [] false else .rs z b (off + l * z) (h - l) (cap - l)
def qvalE (P : Program) (ev : Operand → PV) (M : List Blk) (op : Op) : Option PV :=
 match op with
 | .pick c a b => match ev c with
  | .val (.bool t) => some (if t then ev a else ev b)
  | _ => none
 | .load t a => loadP P M t (ev a)
 | .nilCheck x => match ev x with
  | .ptr b off => some (.ptr b off)
  | .vptr cs off => some (.vptr cs off)
  | .func (.func f) a c => some (.func (.func f) a c)
  | .iface t v => some (.iface t v)
  | _ => none
 | .binOp op t x y _ => match (match ev x, ev y with | .val a, .val b => binV op a b | _, _ => none) with
  | some v => some (.val v)
  | none => match P.underlying t with
   | none => none
   | some d => if askable x y (ev x) (ev y) then match op with
     | .eql => (eqD d (ev x) (ev y)).map fun r => .val (.bool r)
     | .neq => (eqD d (ev x) (ev y)).map fun r => .val (.bool (!r))
     | _ => none
    else aggEq P op t (ev x) (ev y)
 | .unOp op _ x => match op, ev x with
  | .neg, .val (.int k n) => some (.val (.int k (k.wrap (0 - n))))
  | .not, .val (.bool b) => some (.val (.bool (!b)))
  | _, _ => none
 | .convert src dst x => match P.underlying src, P.underlying dst, ev x with
  | some _, some (.int k), .val (.int _ n) => some (.val (.int k (k.wrap n)))
  | some _, some .string, .val (.string s) => some (.val (.string s))
  | some (.slice e), some .string, .sl _ xs _ => match P.underlying e with
   | some (.int .u8) => (bytesOf xs).map fun ns => .val (.string (strOfNums ns))
   | _ => none
  | _, _, _ => none
 | .makeInterface t x => match P.underlying t with
  | none => none
  | some (.interface _) => none
  | some _ => some (.iface t (ev x))
 | .makeFunc fn first captured => some (.func fn (first.toList.map ev) (captured.toList.map ev))
 | .fieldAddr s x f => match (fieldsOf P s).bind (·.toList[f]?) with
  | none => none
  | some fd => if sz P fd.type = 0 then none else match ev x with
   | .ptr b off => some (.ptr b (off + fd.offset))
   | .vptr cs off => some (.vptr cs (off + fd.offset))
   | _ => none
 | .field s x f => match (fieldsOf P s).bind (·.toList[f]?), ev x with
  | some fd, .agg cs => loadP P M fd.type (.vptr cs fd.offset)
  | _, _ => none
 | .indexAddr t x ix => match ev ix, P.underlying t with
  | .val (.int _ i), some (.slice e) => if sz P e = 0 then none else match ev x with
   | .sl k xs _ => if k = sz P e then match idx i xs.length with
     | some j => match xs[j]? with | some v => some (.vptr v.cells 0) | none => none
     | none => none
    else none
   | .slt k xs _ => if k = sz P e then match idx i xs.length with
     | some j => match xs[j]? with | some v => some (.vptr v.cells 0) | none => none
     | none => none
    else none
   | .rs _ b off len _ => match idx i len with
    | some j => some (.ptr b (off + j * sz P e))
    | none => none
   | _ => none
  | .val (.int _ i), some (.array n e) => if sz P e = 0 then none else match idx i n, ev x with
   | some j, .ptr b off => some (.ptr b (off + j * sz P e))
   | some j, .vptr cs off => some (.vptr cs (off + j * sz P e))
   | _, _ => none
  | _, _ => none
 | .index t x ix => match ev ix, ev x, P.underlying t with
  | .val (.int _ i), .val (.string s), some .string => match idx i s.size with
   | some j => some (.val (.int .u8 (s.data.toList.getD j 0).toNat))
   | none => none
  | .val (.int _ i), .agg cs, some (.array n e) => if sz P e = 0 then none else match idx i n with
   | some j => loadP P M e (.vptr cs (j * sz P e))
   | none => none
  | _, _, _ => none
 | .slice t x lo hi none => match ev x, P.underlying t with
  | .val (.string s), some .string => match bnds s.size s.size (lo.map ev) (hi.map ev) with
   | some (l, h) => some (.val (.string (s.extract l h)))
   | none => none
  | .sl k xs own, some (.slice e) => if ¬ sz P e = 0 then if k = sz P e ∨ xs = [] then match bnds xs.length xs.length (lo.map ev) (hi.map ev) with
    | some (l, h) => some (slRes own lo.isSome hi.isSome (zOf k (sz P e)) xs l h)
    | none => none
   else none else none
  | .slt k xs ys, some (.slice e) => if ¬ sz P e = 0 then if k = sz P e then match bnds xs.length (xs.length + ys.length) (lo.map ev) (hi.map ev) with
    | some (l, h) => some (.slt k (((xs ++ ys).take h).drop l) ((xs ++ ys).drop h))
    | none => none
   else none else none
  | .rs _ b off len cap, some (.slice e) => if ¬ sz P e = 0 then match bnds len cap (lo.map ev) (hi.map ev) with
    | some (l, h) => some (rsRes b off l h cap (sz P e))
    | none => none
   else none
  | .ptr b off, some (.array n e) => if ¬ sz P e = 0 then match bnds n n (lo.map ev) (hi.map ev) with
    | some (l, h) => some (rsRes b off l h n (sz P e))
    | none => none
   else none
  | .vptr cs off, some (.array n e) => match bnds n n (lo.map ev) (hi.map ev) with
   | some (l, h) => if off + n * sz P e ≤ cs.length ∧ sz P e ≠ 0 ∧ cs.all PV.one then some (.sl (sz P e) (((chunks (sz P e) (cs.drop off) n).take h).drop l) false) else none
   | none => none
  | _, _ => none
 | .extract t i => match ev t with
  | .tuple vs => vs[i]?
  | _ => none
 | .call { callee := .builtin .len, args, argTypes } => match args.toList, argTypes.toList with
  | [x], [t] => match P.underlying t, ev x with
   | some .string, .val (.string s) => some (.val (.int .i64 s.size))
   | some (.array n _), _ => some (.val (.int .i64 n))
   | some (.slice _), .sl _ xs _ => some (.val (.int .i64 xs.length))
   | some (.slice _), .slt _ xs _ => some (.val (.int .i64 xs.length))
   | some (.slice _), .rs _ _ _ n _ => some (.val (.int .i64 n))
   | _, _ => none
  | _, _ => none
 | .call { callee := .builtin .min, args, .. } => match args.toList with
  | [x, y] => match ev x, ev y with
   | .val (.int k a), .val (.int _ b) => some (.val (.int k (if b < a then b else a)))
   | _, _ => none
  | _ => none
 | .call { callee := .builtin .max, args, .. } => match args.toList with
  | [x, y] => match ev x, ev y with
   | .val (.int k a), .val (.int _ b) => some (.val (.int k (if b > a then b else a)))
   | _, _ => none
  | _ => none
 | .typeAssert x _ asserted ok => match P.underlying asserted, ev x with
  | some (.interface _), _ => none
  | some _, .iface t v => if t = asserted then some (if ok then .tuple [v, .val (.bool true)] else v)
   else if ok then match zeroP P asserted with | some z => some (.tuple [z, .val (.bool false)]) | none => none else none
  | some _, .val .nilIface => if ok then match zeroP P asserted with | some z => some (.tuple [z, .val (.bool false)]) | none => none else none
  | _, _ => none
 | _ => none
def qval (E : Env) (st : St) (o : Oper) : Option PV := qvalE E.P (aev E st) st.blks o.op
end Go.Ve
namespace Go.Ve
def cellsW (w : World) (c : Nat) : List Value := match w.heap[c]? with | some (.cells vs _ _) => vs.toList | _ => []
def bldRow (e : TypeId) (s : ByteArray) : Value → List Occ
 | .slice (some ad) len cap => [⟨1, ad.block, ad.off, len, cap, some (e, Lib.strCells s)⟩]
 | _ => []
def occB (w : World) : List Nat → List Blk → List Occ
 | c :: R, .live cs :: bs => occL cs (cellsW w c) ++ occB w R bs
 | _ :: R, .frz _ :: bs => occB w R bs
 | _ :: R, .loop .. :: bs => occB w R bs
 | c :: R, .bld _ e pre s :: bs => bldRow e s ((cellsW w c).getD (pre.length + 1) undef) ++ occB w R bs
 | _, _ => []
theorem pre_take {α : Type} {l : List α} {L off n : Nat} (h : off + n ≤ L) : ((l.take L).drop off).take n = (l.drop off).take n := by
 rw [List.drop_take, List.take_take, Nat.min_eq_left (by omega)]
theorem pre_splice {α : Type} {vs us : List α} {L off : Nat} (h : off + us.length ≤ L) (hL : L ≤ vs.length) : (vs.take off ++ us ++ vs.drop (off + us.length)).take L = (vs.take L).take off ++ us ++ (vs.take L).drop (off + us.length) := by
 rw [List.take_take, Nat.min_eq_left (by omega), List.drop_take, List.append_assoc, List.append_assoc, List.take_append, List.take_of_length_le (by simp; omega)]
 congr 1
 rw [List.take_append, List.take_of_length_le (by simp; omega)]
 congr 1
 simp only [List.length_take]
 congr 1
 omega
def BlkOk (Pr : Nat → Prop) (F : Fz) (R : List Nat) (w : World) (c : Nat) : Blk → Prop
 | .live cs => ¬ Pr c ∧ (∀ o, F c o = none) ∧ ∃ vs T, w.heap[c]? = some (.cells vs T (0, 0)) ∧ RepL F R cs (vs.toList.take cs.length) ∧ (∀ v ∈ vs.toList, v.oneCell' = true) ∧ cs.length ≤ vs.size
 | .frz cs => ∃ us : List Value, RepL F R cs us ∧ ∀ (j : Nat) u, us[j]? = some u → F c j = some u
 | .loop s pend T ps assign body => ¬ Pr c ∧ ∃ fn tm d, w.heap[c]? = some (.loop { state := s, pending := pend, fn := fn, tmps := tm, params := ps, assign := assign, body := body, defers := d }) ∧ RepL F R T tm.toList ∧ occL T tm.toList = []
 | .bld T _ pre s => ¬ Pr c ∧ (∀ o, F c o = none) ∧ ∃ vs p v, w.heap[c]? = some (.cells (vs ++ [p, v]).toArray T (0, 0)) ∧ RepL F [] pre vs ∧ (∀ u ∈ vs, u.oneCell' = true) ∧ (p = .pointer none ∨ p = .pointer (some ⟨c, pre.length, none⟩)) ∧ ((v = .slice none 0 0 ∧ s.size = 0) ∨ ∃ g cap, v = .slice (some ⟨g, 0, none⟩) s.size cap)
def OccOk (Pr : Nat → Prop) (F : Fz) (R : List Nat) (w : World) (q : Occ) : Prop :=
 ¬ Pr q.b ∧ q.b ∉ R ∧ (0 < q.k ∧ q.o = 0) ∧ (∀ o, q.o + q.len * q.k ≤ o → F q.b o = none) ∧ ∃ vs T, w.heap[q.b]? = some (.cells vs T (0, 0)) ∧ q.o + q.cap * q.k ≤ vs.size ∧ (∀ v ∈ vs.toList, v.oneCell' = true) ∧ ∀ t, q.ty = some t → T = t.1 ∧ vs.size = q.cap ∧ q.cap ≤ maxLen ∧ vs.toList.take q.len = t.2 ∧ ∀ o, F q.b o = none
structure Base where
 Pr : Nat → Prop
 w0 : World
 F0 : Fz
 R0 : List Nat
 mrk : List Nat
 X : List Nat
def GlobOk (G : Nat → Option (List PV)) (Pr : Nat → Prop) (w0 : World) (F : Fz) : Prop :=
 ∀ g cs, G g = some cs → Pr g ∧ ∃ us : List Value, (∃ T f, w0.heap[g]? = some (.cells us.toArray T f)) ∧ RepL F [] cs us ∧ ∀ (j : Nat) u, us[j]? = some u → F g j = some u
theorem GlobOk.mono {G : Nat → Option (List PV)} {Pr : Nat → Prop} {w0 : World} {F F' : Fz} (h : GlobOk G Pr w0 F) (hF : F.le F') : GlobOk G Pr w0 F' := fun g cs hg =>
 let ⟨h1, us, h2, h3, h4⟩ := h g cs hg
 ⟨h1, us, h2, h3.mono hF (Rle.refl _), fun j u hj => hF _ _ _ (h4 j u hj)⟩
theorem GlobOk.rebase {G : Nat → Option (List PV)} {Pr Pr' : Nat → Prop} {w0 w : World} {F : Fz} (h : GlobOk G Pr w0 F) (h1 : ∀ g, Pr g → Pr' g) (h2 : ∀ g, Pr g → w.heap[g]? = w0.heap[g]?) : GlobOk G Pr' w F := fun g cs hg =>
 let ⟨k1, us, ⟨T, f, k2⟩, k3, k4⟩ := h g cs hg
 ⟨h1 g k1, us, ⟨T, f, (h2 g k1).trans k2⟩, k3, k4⟩
structure Mem (E : Env) (B : Base) (F : Fz) (R : List Nat) (blks : List Blk) (w : World) : Prop where
 os : w.os = B.w0.os
 tape : w.tape = B.w0.tape
 output : w.output = B.w0.output
 drn : E.dk = true → B.w0.drawn ≤ w.drawn
 size : B.w0.heap.size ≤ w.heap.size
 pr : ∀ b, B.Pr b → b < B.w0.heap.size ∧ w.heap[b]? = B.w0.heap[b]?
 fz : ∀ b o v, F b o = some v → w.cell? ⟨b, o, none⟩ = some v ∧ v.oneCell' = true
 fnew : ∀ b o v, F b o = some v → B.F0 b o = some v ∨ ¬ B.Pr b
 fold : B.F0.le F
 rnew : ∀ c ∈ R, c ∈ B.X ∨ B.w0.heap.size ≤ c
 rold : Rle B.R0 R
 bound : ∀ c ∈ R, c < w.heap.size
 glob : GlobOk E.G B.Pr B.w0 F
 len : R.length = blks.length
 nd : R.Nodup
 blk : ∀ (i : Nat) c b, R[i]? = some c → blks[i]? = some b → BlkOk B.Pr F R w c b
 mks : ∀ c ∈ B.mrk, w.heap[c]? = some (.deferred (some [])) ∧ c ∉ R ∧ ¬ B.Pr c
 mnd : B.mrk.Nodup
theorem Mem.globLt {E : Env} {B : Base} {F : Fz} {R : List Nat} {blks : List Blk} {w : World} (hm : Mem E B F R blks w) : GlobOk E.G (fun b => b < w.heap.size) w F :=
 hm.glob.rebase (fun g hg => Nat.lt_of_lt_of_le (hm.pr g hg).1 hm.size) (fun g hg => (hm.pr g hg).2)
def Owned (Pr : Nat → Prop) (F : Fz) (R : List Nat) (w : World) (l : List Occ) : Prop := (∀ c, cnt c l ≤ 1) ∧ ∀ q ∈ l, OccOk Pr F R w q
theorem Owned.sub {Pr : Nat → Prop} {F : Fz} {R : List Nat} {w : World} {l l' : List Occ} (h : Owned Pr F R w l) (hs : Sub l' l) : Owned Pr F R w l' :=
 ⟨fun c => Nat.le_trans (hs.1 c) (h.1 c), fun q hq => h.2 q (hs.2 q hq)⟩
def markOf (c : Nat) : Deferred := { target := .collected c, args := #[] }
structure Sim (E : Env) (B : Base) (F : Fz) (R : List Nat) (st : St) (a : Act) (w : World) : Prop where
 mem : Mem E B F R st.blks w
 tmps : RepL F R st.tmps a.tmps.toList
 defers : a.defers = B.mrk.map markOf
 own : Owned B.Pr F R w (occL st.tmps a.tmps.toList ++ occB w R st.blks)
section
variable {E : Env} {B : Base} {F : Fz} {R : List Nat} {st : St} {a : Act} {w : World}
theorem rep_ofC1 (v : Value) : Rep F R (ofC1 v) v ∧ occ (ofC1 v) v = [] := by
 unfold ofC1
 split
 ·exact ⟨.slnil, by simp [occ]⟩
 ·split
  ·rename_i h; exact ⟨.val h, occ_free _ _ rfl⟩
  ·exact ⟨.junk, occ_free _ _ rfl⟩
theorem repL_ofC1 {F : Fz} {R : List Nat} : ∀ (vs : List Value), RepL F R (vs.map ofC1) vs ∧ occL (vs.map ofC1) vs = []
 | [] => ⟨.nil, rfl⟩
 | v :: vs => by
  obtain ⟨h1, h3⟩ := rep_ofC1 (F := F) (R := R) v
  obtain ⟨k1, k3⟩ := repL_ofC1 (F := F) (R := R) vs
  exact ⟨.cons h1 k1, by simp [occL, k3, h3]⟩
theorem rep_ofC (v : Value) : Rep F R (ofC v) v ∧ occ (ofC v) v = [] := by
 unfold ofC
 split
 ·rename_i cs
  obtain ⟨k1, k3⟩ := repL_ofC1 (F := F) (R := R) cs.toList
  split
  ·rename_i h; exact ⟨.agg (List.all_eq_true.1 h) k1, by simpa [occ] using k3⟩
  ·exact ⟨.junk, occ_free _ _ rfl⟩
 ·exact rep_ofC1 v
theorem Mem.glob_rep (hm : Mem E B F R st.blks w) {g : Nat} {cs : List PV} (h : E.G g = some cs) : Rep F R (.vptr cs 0) (.pointer (some ⟨g, 0, none⟩)) := by
 obtain ⟨_, us, _, h1, h2⟩ := hm.glob g cs h
 have := Rep.vptr (F := F) (R := R) (cs := cs) (off := 0) (b := g) (o := 0) us (fun j u hu => by rw [Nat.zero_add]; exact h2 j u hu) h1
 simpa using this
theorem Sim.eval (h : Sim E B F R st a w) (x : Operand) : Rep F R (aev E st x) (a.eval x) := by
 cases x with
 | tmp t =>
  simp only [aev, Act.eval]
  by_cases ht : t < st.tmps.length
  ·obtain ⟨u, hu, hr⟩ := h.tmps.get t st.tmps[t] (List.getElem?_eq_getElem ht)
   have e1 : st.tmps.getD t undefP = st.tmps[t] := by simp [List.getD, ht]
   have e2 : a.tmps.getD t undef = u := by
    have : a.tmps[t]? = some u := by simpa using hu
    simp [Array.getD_eq_getD_getElem?, this]
   rw [e1, e2]; exact hr
  ·have hl := h.tmps.length
   have e1 : st.tmps.getD t undefP = undefP := by rw [List.getD, List.getElem?_eq_none (Nat.le_of_not_lt ht)]; rfl
   have e2 : a.tmps.getD t undef = undef := by
    have h2 : a.tmps.size = st.tmps.length := by simpa using hl
    have : a.tmps[t]? = none := Array.getElem?_eq_none (h2 ▸ Nat.le_of_not_lt ht)
    simp [Array.getD_eq_getD_getElem?, this]
   rw [e1, e2]; exact .junk
 | const v => exact (rep_ofC v).1
 | global g =>
  simp only [aev, Act.eval]
  cases hg : E.G g with
  | none => exact .val rfl
  | some cs => exact h.mem.glob_rep hg
 | func f => exact .func .nil .nil
theorem chunk_get {k : Nat} : ∀ (xs : List PV) (_ : ∀ x ∈ xs, x.cells.length = k) (j : Nat) (v : PV), xs[j]? = some v → ((xs.flatMap PV.cells).drop (j * k)).take k = v.cells
 | [], _, _, _, h => by simp at h
 | x :: xs, hk, 0, v, h => by
  simp at h; subst h
  have := hk x (by simp)
  simp [List.take_append_of_le_length (Nat.le_of_eq this.symm), ← this]
 | x :: xs, hk, j + 1, v, h => by
  have h0 := hk x (by simp)
  have := chunk_get xs (fun y hy => hk y (by simp [hy])) j v (by simpa using h)
  rw [← this]
  simp only [List.flatMap_cons]
  rw [show (j + 1) * k = x.cells.length + j * k by rw [h0, Nat.succ_mul, Nat.add_comm]]
  rw [List.drop_append, List.drop_eq_nil_of_le (by omega)]
  simp
theorem Mem.cellsAt (hm : Mem E B F R st.blks w) {p : PV} {v : Value} {n : Nat} {cs : List PV} (hp : Rep F R p v) (h : cellsAt st.blks p n = some cs) :
  ∃ b o us, v = .pointer (some ⟨b, o, none⟩) ∧ us.length = n ∧ w.rangeAt b o us ∧ RepL F R cs us ∧ ∀ u ∈ us, u.oneCell' = true := by
 unfold Ve.cellsAt at h
 cases hp with
 | ptr hc =>
  rename_i i off c
  simp only at h
  cases hb : st.blks[i]? with
  | none => simp [hb] at h
  | some blk =>
   simp only [hb] at h
   split at h
   ·rename_i hle
    simp at h; subst h
    have hok := hm.blk i c blk hc hb
    cases blk with
    | live cs =>
     obtain ⟨_, _, vs, T, hh, hr, h1, hpl⟩ := hok
     simp only [Blk.cells] at hle ⊢
     refine ⟨c, off, (vs.toList.drop off).take n, rfl, by simp; omega, ?_, by have := (hr.drop off).take n; rwa [pre_take hle] at this, ?_⟩
     ·intro j v hv
      have : vs.toList[off + j]? = some v := by
       rw [List.getElem?_take] at hv
       split at hv
       ·rw [List.getElem?_drop] at hv; exact hv
       ·simp at hv
      simp [World.cell?, hh]
      simpa using this
     ·intro u hu
      exact h1 u (List.mem_of_mem_drop (List.mem_of_mem_take hu))
    | frz cs =>
     obtain ⟨us, hr, hF⟩ := hok
     simp only [Blk.cells] at hle ⊢
     have hl := hr.length
     refine ⟨c, off, (us.drop off).take n, rfl, by simp at hl ⊢; omega, ?_, (hr.drop off).take n, ?_⟩
     ·intro j v hv
      have : us[off + j]? = some v := by
       rw [List.getElem?_take] at hv
       split at hv
       ·rw [List.getElem?_drop] at hv; exact hv
       ·simp at hv
      exact (hm.fz _ _ _ (hF _ _ this)).1
     ·intro u hu
      have hu' := List.mem_of_mem_drop (List.mem_of_mem_take hu)
      obtain ⟨j, hj, rfl⟩ := List.getElem_of_mem hu'
      exact (hm.fz _ _ _ (hF j _ (List.getElem?_eq_getElem hj))).2
    | bld T e pre s =>
     obtain ⟨_, _, vs, p, v, hh, hr, h1, _⟩ := hok
     simp only [Blk.cells] at hle ⊢
     have hl := hr.length
     refine ⟨c, off, (vs.drop off).take n, rfl, by simp; omega, ?_, ((hr.mono (Fz.le_refl F) (Rle.nil R)).drop off).take n, ?_⟩
     ·intro j u hu
      have : vs[off + j]? = some u := by
       rw [List.getElem?_take] at hu
       split at hu
       ·rw [List.getElem?_drop] at hu; exact hu
       ·simp at hu
      have hlt := (List.getElem?_eq_some_iff.1 this).1
      simp [World.cell?, hh, List.getElem?_append_left hlt, this]
     ·intro u hu
      exact h1 u (List.mem_of_mem_drop (List.mem_of_mem_take hu))
    | loop s pend T ps assign body =>
     simp only [Blk.cells, List.length_nil] at hle ⊢
     refine ⟨c, off, [], rfl, by simp; omega, fun j v hv => by simp at hv, by simp; exact .nil, fun u hu => by simp at hu⟩
   ·simp at h
 | vptr us hF hr =>
  rename_i cs' off b o
  simp only at h
  split at h
  ·rename_i hle
   simp at h; subst h
   have hl := hr.length
   refine ⟨b, o + off, (us.drop off).take n, rfl, by simp at hl ⊢; omega, ?_, ((hr.mono (Fz.le_refl F) (Rle.nil R)).drop off).take n, ?_⟩
   ·intro j v hv
    have : us[off + j]? = some v := by
     rw [List.getElem?_take] at hv
     split at hv
     ·rw [List.getElem?_drop] at hv; exact hv
     ·simp at hv
    have := (hm.fz _ _ _ (hF _ _ this)).1
    rw [Nat.add_assoc]; exact this
   ·intro u hu
    have hu' := List.mem_of_mem_drop (List.mem_of_mem_take hu)
    obtain ⟨j, hj, rfl⟩ := List.getElem_of_mem hu'
    exact (hm.fz _ _ _ (hF j _ (List.getElem?_eq_getElem hj))).2
  ·simp at h
 | val h1 => simp at h
 | sl us hk0 hl hc hk hF hR => simp at h
 | slnil => simp at h
 | rs h1 hc => simp at h
 | slt us hk0 hl hc hk hF hR => simp at h
 | sltnil => simp at h
 | sltz hk => simp at h
 | func h1 h2 => simp at h
 | iface h1 => simp at h
 | agg h1 h2 => simp at h
 | tuple h1 => simp at h
 | junk => simp at h
theorem aggT_run {t : TypeId} {b : Bool} (h : aggT E.P t = some b) (w : World) : (isAgg t).run E.P w = .ok b w := by
 unfold aggT at h
 unfold isAgg
 cases hu : E.P.underlying t with
 | none => simp [hu] at h
 | some d =>
  rw [hu] at h
  rw [Sem.run_bind, run_underlying hu w]
  cases d <;> simp at h <;> subst h <;> rfl
theorem sz_run {t : TypeId} {i : TypeInfo} (h : E.P.info? t = some i) (w : World) : (sizeOf t).run E.P w = .ok (sz E.P t) w := by
 simp [sizeOf, typeInfo, h, sz]
theorem info_of_underlying {P : Program} {t : TypeId} {d : TypeDesc} (h : P.underlying t = some d) : ∃ i, P.info? t = some i := by
 unfold Program.underlying at h
 cases hi : P.info? t with
 | none => simp [hi] at h
 | some i => exact ⟨i, rfl⟩
theorem underlying_of_aggT {P : Program} {t : TypeId} {b : Bool} (h : aggT P t = some b) : ∃ d, P.underlying t = some d := by
 unfold aggT at h
 cases hu : P.underlying t with
 | none => simp [hu] at h
 | some d => exact ⟨d, rfl⟩
theorem load_sound (hm : Mem E B F R st.blks w) {p r : PV} {v : Value} {t : TypeId} (hp : Rep F R p v) (h : loadP E.P st.blks t p = some r) :
  ∃ u, (Instr.loadAt t v).run E.P w = .ok u w ∧ Rep F R r u := by
 unfold loadP at h
 cases ha : aggT E.P t with
 | none => simp [ha] at h
 | some b =>
  obtain ⟨d, hd⟩ := underlying_of_aggT ha
  obtain ⟨ti, hti⟩ := info_of_underlying hd
  cases b with
  | true =>
   simp only [ha, Option.map_eq_some_iff] at h
   obtain ⟨cs, hcs, rfl⟩ := h
   obtain ⟨b, o, us, rfl, hl, hr, hrep, h1⟩ := hm.cellsAt hp hcs
   have hlc : (loadCells ⟨b, o, none⟩ us.length).run E.P w = .ok us.toArray w :=
    run_loadCells_list (P := E.P) w ⟨b, o, none⟩ us (fun j v hv => by rw [Addr.add_mid]; exact hr j v hv)
   rw [hl] at hlc
   refine ⟨.agg us.toArray, ?_, .agg (by simpa using h1) (by simpa using hrep)⟩
   simp [Instr.loadAt, Instr.sureAddr, loadVar, aggT_run ha, sz_run hti, hlc]
  | false =>
   simp only [ha] at h
   cases hc : Ve.cellsAt st.blks p 1 with
   | none => simp [hc] at h
   | some cs =>
    rw [hc] at h
    match cs, h with
    | [c], h =>
     simp at h; subst h
     obtain ⟨b, o, us, rfl, hl, hr, hrep, h1⟩ := hm.cellsAt hp hc
     cases hrep with
     | cons hrep ht =>
      rename_i u us
      refine ⟨u, ?_, hrep⟩
      have := hr 0 u rfl
      simp only [Nat.add_zero] at this
      simp [Instr.loadAt, Instr.sureAddr, loadVar, aggT_run ha, this]
end
end Go.Ve
namespace Go.Ve
section
variable {E : Env} {B : Base} {F : Fz} {R : List Nat} {st : St} {a : Act} {w : World}
theorem beq_toList (a b : ByteArray) : (a.toList == b.toList) = decide (a = b) := by
 rw [ByteArray.toList_eq, ByteArray.toList_eq]
 by_cases h : a = b
 ·subst h; simp
 ·have : ¬ a.data.toList = b.data.toList := fun e => h (by cases a; cases b; simp at e; rw [ByteArray.mk.injEq]; exact e)
  simpa [h] using this
theorem beq_int (a b : Int) : (a == b) = decide (a = b) := by by_cases h : a = b <;> simp [h]
theorem binV_sound {P : Program} {op : BinOp} {x y v : Value} {t : TypeId} (h : binV op x y = some v) (w : World) : (binOp op t x y).run P w = .ok v w ∧ v.oneCell' = true := by
 unfold binV at h
 split at h
 ·rename_i k a k' b
  split at h
  ·split at h
   ·simp at h
   ·simp at h; subst h
    rename_i hb
    exact ⟨by simp [binOp, Op.shift, hb], rfl⟩
  ·split at h
   ·simp at h
   ·simp at h; subst h
    rename_i hb
    exact ⟨by simp [binOp, Op.shift, hb], rfl⟩
  ·rename_i h1 h2
   split at h
   ·rename_i hk; subst hk
    unfold binI at h
    cases op <;> simp at h h1 h2
    case add => subst h; exact ⟨by simp [binOp, Op.intArith], rfl⟩
    case sub => subst h; exact ⟨by simp [binOp, Op.intArith], rfl⟩
    case mul => subst h; exact ⟨by simp [binOp, Op.intArith], rfl⟩
    case quo => obtain ⟨hb, h⟩ := h; subst h; exact ⟨by simp [binOp, Op.intDiv, hb], rfl⟩
    case rem => obtain ⟨hb, h⟩ := h; subst h; exact ⟨by simp [binOp, Op.intDiv, hb], rfl⟩
    case and => subst h; exact ⟨by simp [binOp, Op.intBits], rfl⟩
    case or => subst h; exact ⟨by simp [binOp, Op.intBits], rfl⟩
    case xor => subst h; exact ⟨by simp [binOp, Op.intBits], rfl⟩
    case andNot => subst h; exact ⟨by simp [binOp, Op.intBits], rfl⟩
    case eql => subst h; exact ⟨by simp [binOp, Op.intCmp, beq_int], rfl⟩
    case neq => subst h; exact ⟨by simp [binOp, Op.intCmp, bne, beq_int], rfl⟩
    case lss => subst h; exact ⟨by simp [binOp, Op.intCmp], rfl⟩
    case leq => subst h; exact ⟨by simp [binOp, Op.intCmp], rfl⟩
    case gtr => subst h; exact ⟨by simp [binOp, Op.intCmp], rfl⟩
    case geq => subst h; exact ⟨by simp [binOp, Op.intCmp], rfl⟩
   ·simp at h
 ·rename_i a b
  unfold binS at h
  cases op <;> simp at h
  case add => obtain ⟨hb, h⟩ := h; subst h; exact ⟨by simp only [binOp]; exact run_string_add_sum w a b hb, rfl⟩
  case eql => subst h; exact ⟨by simp [binOp, Op.stringOp, beq_toList], rfl⟩
  case neq => subst h; exact ⟨by simp [binOp, Op.stringOp, beq_toList], rfl⟩
  case lss => subst h; exact ⟨by simp [binOp, Op.stringOp, ByteArray.toList_eq], rfl⟩
  case leq => subst h; exact ⟨by simp [binOp, Op.stringOp, beq_toList]; simp [ByteArray.toList_eq], rfl⟩
  case gtr => subst h; exact ⟨by simp [binOp, Op.stringOp, beq_toList]; simp [ByteArray.toList_eq], rfl⟩
  case geq => subst h; exact ⟨by simp [binOp, Op.stringOp, ByteArray.toList_eq], rfl⟩
 ·simp at h
theorem eqD_sound {P : Program} {t : TypeId} {d : TypeDesc} {p q : PV} {x y : Value} {b : Bool} (hd : P.underlying t = some d) (hp : Rep F R p x) (hq : Rep F R q y) (h : eqD d p q = some b) (w : World) :
  (Op.equal t x y).run P w = .ok b w := by
 have hu := run_underlying hd w
 have e0 : Op.equal t x y = Op.equalIn (9999 + 1) t x y := rfl
 rw [e0, Op.equalIn, Sem.run_bind, hu, Result.andThen_ok]
 generalize 9999 = n
 unfold eqD at h
 split at h <;> simp at h <;> subst h
 case h_1 => cases hp; cases hq; rename_i a b _ _; cases a <;> cases b <;> rfl
 case h_13 =>
  cases hp
  cases hq
  ·omega
  ·rfl
 all_goals (cases hp; cases hq; rfl)
theorem eqGuard_run {P : Program} {op : BinOp} {t : TypeId} {x y : Operand} {u v : Value} (h1 : ∀ cs ds, ¬ (u = .agg cs ∧ v = .agg ds)) (h2 : u = .nilIface → v = .nilIface → (∃ c, x = .const c) ∨ (∃ c, y = .const c)) (w : World) :
  (eqGuard op t x y u v).run P w = .ok () w := by
 unfold eqGuard
 cases op
 case eql | neq =>
  simp only [Bool.not_true, Bool.false_eq_true, if_false]
  split
  ·rcases h2 rfl rfl with ⟨c, rfl⟩ | ⟨c, rfl⟩ <;> simp
  ·exact absurd ⟨rfl, rfl⟩ (h1 _ _)
  ·rfl
 all_goals rfl
theorem equal_op {P : Program} {t : TypeId} {p q : PV} {x y : Value} {d : TypeDesc} {b : Bool} (op : BinOp) (ho : op = .eql ∨ op = .neq) (hp : Rep F R p x) (hq : Rep F R q y) (h : eqD d p q = some b) (w : World)
  (he : (Op.equal t x y).run P w = .ok b w) : (binOp op t x y).run P w = .ok (.bool (if op = .eql then b else !b)) w := by
 unfold eqD at h
 rcases ho with rfl | rfl
 all_goals (split at h <;> simp at h <;> subst h <;> cases hp <;> cases hq <;> simp [binOp, he])
theorem Rep.val_inv {v : Value} {x : Value} (h : Rep F R (.val v) x) : x = v ∧ v.oneCell' = true := by cases h; exact ⟨rfl, ‹_›⟩
theorem info_of_sz {P : Program} {e : TypeId} (h : ¬ sz P e = 0) : ∃ i, P.info? e = some i := by
 unfold sz at h
 cases hi : P.info? e with
 | some i => exact ⟨i, rfl⟩
 | none => simp [hi] at h
theorem part_run {P : Program} {cs : List PV} {vs : Array Value} {t : TypeId} {off : Nat} {r : PV} {st : St} (hv : RepL F R cs vs.toList) (h1 : ∀ v ∈ vs.toList, v.oneCell' = true) (h : loadP P st.blks t (.vptr cs off) = some r) (w : World) :
  ∃ u, (part t vs off).run P w = .ok u w ∧ Rep F R r u := by
 have hl := hv.length
 unfold loadP at h
 cases ha : aggT P t with
 | none => simp [ha] at h
 | some b =>
  obtain ⟨d, hd⟩ := underlying_of_aggT ha
  obtain ⟨ti, hti⟩ := info_of_underlying hd
  have hagg : (isAgg t).run P w = .ok b w := aggT_run (E := ⟨P, fun _ => none, none, none, 0, [], false⟩) ha w
  have hsz : (sizeOf t).run P w = .ok (sz P t) w := sz_run (E := ⟨P, fun _ => none, none, none, 0, [], false⟩) hti w
  cases b with
  | true =>
   simp only [ha, Option.map_eq_some_iff, cellsAt] at h
   obtain ⟨c, hc, rfl⟩ := h
   split at hc
   ·rename_i hle
    simp at hc; subst hc
    have e : (vs.extract off (off + sz P t)).toList = (vs.toList.drop off).take (sz P t) := by simp [List.extract_eq_take_drop, Nat.add_sub_cancel_left]
    refine ⟨.agg (vs.extract off (off + sz P t)), by simp [part, hagg, hsz], .agg ?_ ?_⟩
    ·rw [e]; exact fun v hv => h1 v (List.mem_of_mem_drop (List.mem_of_mem_take hv))
    ·rw [e]; exact (hv.drop off).take _
   ·simp at hc
  | false =>
   simp only [ha, cellsAt] at h
   split at h
   ·rename_i c hc
    split at hc
    ·rename_i hle
     simp at hc
     simp at h; subst h
     have hg : cs[off]? = some c := by
      have := congrArg (fun l => l[0]?) hc
      simpa using this
     obtain ⟨u, hu, hr⟩ := hv.get off c hg
     have hu' : vs[off]? = some u := by simpa using hu
     exact ⟨u, by simp [part, hagg, hu'], hr⟩
    ·simp at hc
   ·simp at h
theorem eqF_sound {P : Program} {f : TypeId → PV → PV → Option Bool} {d : Nat} (hf : ∀ (t : TypeId) (p q : PV) (x y : Value) (b : Bool), Rep F R p x → Rep F R q y → f t p q = some b → ∀ w, (Op.equalIn d t x y).run P w = .ok b w)
  {cs ds : List PV} {xs ys : Array Value} (h1 : RepL F R cs xs.toList) (o1 : ∀ v ∈ xs.toList, v.oneCell' = true) (h2 : RepL F R ds ys.toList) (o2 : ∀ v ∈ ys.toList, v.oneCell' = true) (w : World) :
  ∀ (fs : List Field) (b : Bool), eqF P f cs ds fs = some b → (Op.eqFields d xs ys fs).run P w = .ok b w
 | [], b, h => by simp [eqF] at h; subst h; simp [Op.eqFields]
 | g :: gs, b, h => by
  unfold eqF at h
  by_cases hn : g.name = "_"
  ·rw [if_pos hn] at h
   simp only [Op.eqFields, hn, ne_eq, not_true_eq_false, if_false]
   exact eqF_sound hf h1 o1 h2 o2 w gs b h
  ·rw [if_neg hn] at h
   split at h
   ·rename_i p q hp hq
    split at h
    ·rename_i a c ha hc
     simp at h; subst h
     obtain ⟨u, k1, k2⟩ := part_run (st := ⟨[], []⟩) h1 o1 hp w
     obtain ⟨v, k3, k4⟩ := part_run (st := ⟨[], []⟩) h2 o2 hq w
     have he := hf g.type p q u v a k2 k4 ha w
     have hr := eqF_sound hf h1 o1 h2 o2 w gs c hc
     simp only [Op.eqFields, hn, ne_eq, not_false_eq_true, if_true, Sem.run_bind, k1, k3, he, Result.andThen_ok]
     cases a
     ·simp
     ·simpa using hr
    ·simp at h
   ·simp at h
theorem eqN_sound {P : Program} {e : TypeId} {f : PV → PV → Option Bool} {d : Nat} (hf : ∀ (p q : PV) (x y : Value) (b : Bool), Rep F R p x → Rep F R q y → f p q = some b → ∀ w, (Op.equalIn d e x y).run P w = .ok b w)
  {cs ds : List PV} {xs ys : Array Value} (h1 : RepL F R cs xs.toList) (o1 : ∀ v ∈ xs.toList, v.oneCell' = true) (h2 : RepL F R ds ys.toList) (o2 : ∀ v ∈ ys.toList, v.oneCell' = true) (w : World) :
  ∀ (is : List Nat) (b : Bool), eqN P f e cs ds is = some b → (Op.eqItems d e (P.cellsOf e) xs ys is).run P w = .ok b w
 | [], b, h => by simp [eqN] at h; subst h; simp [Op.eqItems]
 | g :: gs, b, h => by
  unfold eqN at h
  split at h
  ·rename_i p q hp hq
   split at h
   ·rename_i a c ha hc
    simp at h; subst h
    obtain ⟨u, k1, k2⟩ := part_run (st := ⟨[], []⟩) h1 o1 hp w
    obtain ⟨v, k3, k4⟩ := part_run (st := ⟨[], []⟩) h2 o2 hq w
    have he := hf p q u v a k2 k4 ha w
    have hr := eqN_sound hf h1 o1 h2 o2 w gs c hc
    simp only [Op.eqItems, Sem.run_bind, k1, k3, he, Result.andThen_ok]
    cases a
    ·simp
    ·simpa using hr
   ·simp at h
  ·simp at h
theorem eqI_sound {P : Program} (m : Nat) : ∀ (d : Nat) (t : TypeId) (p q : PV) (x y : Value) (b : Bool), Rep F R p x → Rep F R q y → eqI P d t p q = some b → ∀ w, (Op.equalIn (m + d) t x y).run P w = .ok b w
 | 0, _, _, _, _, _, _, _, _, h, _ => by simp [eqI] at h
 | d + 1, t, p, q, x, y, b, hx, hy, h, w => by
  rw [← Nat.add_assoc]
  unfold eqI at h
  split at h
  ·rename_i a c hu
   simp at h; subst h
   cases hx; cases hy
   rw [run_equalIn_bool' _ _ _ _ _ hu]; cases a <;> cases c <;> rfl
  ·rename_i k' k a k1 c hu
   split at h
   ·rename_i hk; subst hk
    simp at h; subst h
    cases hx; cases hy
    rw [run_equalIn_int _ _ _ _ _ _ _ hu, beq_int]
   ·simp at h
  ·rename_i a c hu
   simp at h; subst h
   cases hx; cases hy
   rw [run_equalIn_string _ _ _ _ _ hu, beq_toList]
  ·rename_i fs cs ds hu
   split at h
   ·rename_i hst
    have hu' : P.underlying t = some (.struct (P.fieldsOf t)) := by
     rw [hu]; simp [Program.fieldsOf, hu]
    have hfs : P.fieldsOf t = fs := by
     rw [hu] at hu'; injection hu' with hu'; injection hu' with hu'; exact hu'.symm
    cases hx with
    | agg o1 h1 =>
     cases hy with
     | agg o2 h2 =>
      rw [run_equalIn_struct _ _ _ _ _ hu' hst, hfs]
      exact eqF_sound (fun t p q x y b hx hy h w => eqI_sound m d t p q x y b hx hy h w) h1 o1 h2 o2 w _ _ h
   ·simp at h
  ·rename_i n e cs ds hu
   cases hx with
   | agg o1 h1 =>
    cases hy with
    | agg o2 h2 =>
     split at h
     ·simp at h
     rename_i hn0
     have hi : ∃ i, P.info? e = some i := by
      obtain ⟨n, rfl⟩ := Nat.exists_eq_succ_of_ne_zero hn0
      rw [List.range_succ_eq_map] at h
      unfold eqN at h
      split at h
      ·rename_i hp _
       unfold loadP at hp
       cases ha : aggT P e with
       | none => simp [ha] at hp
       | some b => obtain ⟨d, hd⟩ := underlying_of_aggT ha; exact info_of_underlying hd
      ·simp at h
     obtain ⟨i, hi⟩ := hi
     rw [run_equalIn_array _ _ _ _ hu hi]
     exact eqN_sound (fun p q x y b hx hy h w => eqI_sound m d e p q x y b hx hy h w) h1 o1 h2 o2 w _ _ h
  ·simp at h
theorem eqGuard_agg {P : Program} {op : BinOp} {t : TypeId} {x y : Operand} {xs ys : Array Value} (hm : P.eqGuardType P.depth t = false) (w : World) : (eqGuard op t x y (.agg xs) (.agg ys)).run P w = .ok () w := run_eqGuard_agg w op t x y xs ys hm
theorem binOp_sound (h : Sim E B F R st a w) {op : BinOp} {t u : TypeId} {x y : Operand} {o : Oper} {r : PV} (ho : o.op = .binOp op t x y u) (hq : qval E st o = some r) :
  ∃ v, (execOp a.eval o).run E.P w = .ok (.value v) w ∧ Rep F R r v := by
 have hx := h.eval x
 have hy := h.eval y
 unfold qval qvalE at hq
 simp only [ho] at hq
 unfold execOp
 simp only [ho]
 split at hq
 ·rename_i v hv
  simp at hq; subst hq
  split at hv
  ·rename_i p q hp hq
   rw [hp] at hx; rw [hq] at hy
   obtain ⟨e1, o1⟩ := hx.val_inv
   obtain ⟨e2, o2⟩ := hy.val_inv
   obtain ⟨h1, h2⟩ := binV_sound (P := E.P) (t := t) hv w
   have hg : (eqGuard op t x y (a.eval x) (a.eval y)).run E.P w = .ok () w := eqGuard_run (fun cs ds he => by rw [e1] at he; rw [he.1] at o1; simp [Value.oneCell'] at o1)
    (fun h3 h4 => by rw [e1] at h3; rw [h3] at hv; cases op <;> simp [binV] at hv) w
   rw [e1, e2] at hg
   exact ⟨v, by simp [hg, e1, e2, h1], .val h2⟩
  ·simp at hv
 ·split at hq
  ·simp at hq
  ·rename_i d hd
   split at hq
   ·rename_i hask
    have hg : (eqGuard op t x y (a.eval x) (a.eval y)).run E.P w = .ok () w := by
     clear hq
     generalize aev E st x = p at *
     generalize aev E st y = q at *
     refine eqGuard_run (fun cs ds he => ?_) (fun h3 h4 => ?_) w
     ·rw [he.1] at hx; rw [he.2] at hy
      cases hx <;> cases hy <;> simp_all [askable, Value.oneCell']
     ·rw [h3] at hx; rw [h4] at hy
      cases hx <;> cases hy <;> simp_all [askable]
      cases x <;> cases y <;> simp_all
    split at hq
    ·simp only [Option.map_eq_some_iff] at hq
     obtain ⟨b, hb, rfl⟩ := hq
     have he := eqD_sound hd hx hy hb w
     have := equal_op .eql (.inl rfl) hx hy hb w he
     exact ⟨.bool b, by simp [hg, this], .val rfl⟩
    ·simp only [Option.map_eq_some_iff] at hq
     obtain ⟨b, hb, rfl⟩ := hq
     have he := eqD_sound hd hx hy hb w
     have := equal_op .neq (.inr rfl) hx hy hb w he
     exact ⟨.bool (!b), by simp [hg, this], .val rfl⟩
    ·simp at hq
   ·unfold aggEq at hq
    split at hq
    ·rename_i cs ds e1 e2
     rw [e1] at hx; rw [e2] at hy
     split at hq
     ·rename_i hgt
      generalize a.eval x = vx at *
      generalize a.eval y = vy at *
      split at hq
      ·simp only [Option.map_eq_some_iff] at hq
       obtain ⟨b, hb, rfl⟩ := hq
       have he := eqI_sound (F := F) (R := R) 9991 9 _ _ _ _ _ b hx hy hb w
       obtain ⟨xs, rfl⟩ : ∃ xs, vx = .agg xs := by cases hx; exact ⟨_, rfl⟩
       obtain ⟨ys, rfl⟩ : ∃ ys, vy = .agg ys := by cases hy; exact ⟨_, rfl⟩
       refine ⟨.bool b, ?_, .val rfl⟩
       have hg := eqGuard_agg (op := .eql) (x := x) (y := y) (xs := xs) (ys := ys) hgt w
       have hb2 : (binOp .eql t (.agg xs) (.agg ys)).run E.P w = .ok (.bool (b)) w := by rw [run_eql_struct, he]; rfl
       simp [hg, hb2]
      ·simp only [Option.map_eq_some_iff] at hq
       obtain ⟨b, hb, rfl⟩ := hq
       have he := eqI_sound (F := F) (R := R) 9991 9 _ _ _ _ _ b hx hy hb w
       obtain ⟨xs, rfl⟩ : ∃ xs, vx = .agg xs := by cases hx; exact ⟨_, rfl⟩
       obtain ⟨ys, rfl⟩ : ∃ ys, vy = .agg ys := by cases hy; exact ⟨_, rfl⟩
       refine ⟨.bool (!b), ?_, .val rfl⟩
       have hg := eqGuard_agg (op := .neq) (x := x) (y := y) (xs := xs) (ys := ys) hgt w
       have hb2 : (binOp .neq t (.agg xs) (.agg ys)).run E.P w = .ok (.bool (!b)) w := by rw [run_neq_struct, he]; rfl
       simp [hg, hb2]
      ·simp at hq
     ·simp at hq
    ·simp at hq
theorem idx_some {i : Int} {n j : Nat} (h : idx i n = some j) : 0 ≤ i ∧ i < n ∧ i.toNat = j ∧ j < n := by
 unfold idx at h
 split at h
 ·rename_i hi; simp at h; subst h; exact ⟨hi.1, hi.2, rfl, by omega⟩
 ·simp at h
theorem bnds_sound {P : Program} {isSlice : Bool} {len cap l h : Nat} {lo hi : Option PV} {x y : Option Value} (hb : bnds len cap lo hi = some (l, h))
  (hlo : ∀ p v, lo = some p → x = some v → Rep F R p v) (hlo' : lo.isSome = x.isSome) (hhi : ∀ p v, hi = some p → y = some v → Rep F R p v) (hhi' : hi.isSome = y.isSome) (capC : Nat) (hc : cap ≤ capC) (w : World) :
  (Instr.sliceBounds isSlice len capC x y none).run P w = .ok (l, h, capC) w ∧ l ≤ h ∧ (h ≤ cap ∨ h = len) := by
 have hbound : ∀ (p : PV) (v : Value) (k : IntKind) (n : Int) (m : Nat) (code : BoundsCode), Rep F R p v → p = .val (.int k n) → 0 ≤ n → n ≤ m → (Instr.sliceBound v m code).run P w = .ok n.toNat w := by
  intro p v k n m code hr hp h0 h1
  subst hp
  obtain ⟨rfl, _⟩ := hr.val_inv
  simp [Instr.sliceBound, asIntOf, h0, h1]
 unfold bnds at hb
 obtain ⟨m, hm, hl⟩ := Option.bind_eq_some_iff.1 hb
 have hlow : h = m ∧ l ≤ h ∧ (match (generalizing := false) x with
   | some v => Instr.sliceBound v m .sliceB
   | none => pure 0 : Sem Nat).run P w = .ok l w := by
  cases lo with
  | none =>
   cases x with
   | some _ => simp at hlo'
   | none => simp [lowB] at hl; obtain ⟨rfl, rfl⟩ := hl; exact ⟨rfl, by omega, rfl⟩
  | some p =>
   cases x with
   | none => simp at hlo'
   | some v =>
    unfold lowB at hl
    split at hl
    ·simp at *
    ·rename_i k n he
     simp at he; subst he
     split at hl
     ·rename_i hn
      simp at hl; obtain ⟨rfl, rfl⟩ := hl
      exact ⟨rfl, by omega, hbound _ v k n m .sliceB (hlo _ _ rfl rfl) rfl hn.1 hn.2⟩
     ·simp at hl
    ·simp at hl
 obtain ⟨rfl, h2, h3⟩ := hlow
 cases hi with
 | none =>
  cases y with
  | some _ => simp at hhi'
  | none =>
   simp [highB] at hm; subst hm
   exact ⟨by cases x <;> simp_all [Instr.sliceBounds], h2, .inr rfl⟩
 | some ph =>
  cases y with
  | none => simp at hhi'
  | some vh =>
   unfold highB at hm
   split at hm
   ·simp at *
   ·rename_i k n he
    simp at he; subst he
    split at hm
    ·rename_i hn
     simp at hm; subst hm
     have h1 := fun code => hbound _ vh k n capC code (hhi _ _ rfl rfl) rfl hn.1 (by omega)
     exact ⟨by clear hb hl; cases x <;> simp_all [Instr.sliceBounds], h2, .inl (by omega)⟩
    ·simp at hm
   ·simp at hm
end
end Go.Ve
namespace Go.Ve
section
variable {E : Env} {B : Base} {F : Fz} {R : List Nat} {st : St} {a : Act} {w : World}
theorem repL_map (h : Sim E B F R st a w) : ∀ xs : List Operand, RepL F R (xs.map (aev E st)) (xs.map a.eval)
 | [] => .nil
 | x :: xs => .cons (h.eval x) (repL_map h xs)
theorem fieldPlace_run {P : Program} {f : Field} {b o : Nat} (hs : sz P f.type ≠ 0) (w : World) : (fieldPlace ⟨b, o, none⟩ f).run P w = .ok ⟨b, o + f.offset, none⟩ w := by
 unfold sz at hs
 cases hi : P.info? f.type with
 | none => simp [hi] at hs
 | some i =>
  simp only [hi] at hs
  simp [fieldPlace, sizeOf, typeInfo, hi, hs, Addr.add_mid]
theorem qv_fieldAddr (h : Sim E B F R st a w) {s : TypeId} {x : Operand} {f : Nat} {o : Oper} {r : PV} (ho : o.op = .fieldAddr s x f) (hq : qval E st o = some r) :
  ∃ v, (execOp a.eval o).run E.P w = .ok (.value v) w ∧ Rep F R r v := by
 have hx := h.eval x
 unfold qval qvalE at hq
 simp only [ho] at hq
 unfold execOp
 simp only [ho]
 split at hq
 ·simp at hq
 ·rename_i fd hfd
  obtain ⟨fs, hfs, hf⟩ := Option.bind_eq_some_iff.1 hfd
  unfold fieldsOf at hfs
  split at hfs
  ·rename_i fs' hu
   simp at hfs; subst hfs
   split at hq
   ·simp at hq
   ·rename_i hs
    have hf' : fs'[f]? = some fd := by simpa using hf
    split at hq
    ·rename_i b off he
     simp at hq; subst hq
     rw [he] at hx
     generalize a.eval x = v at *
     cases hx with
     | ptr hc => exact ⟨_, by simp [Instr.fieldAt, run_underlying hu, hf', Instr.sureAddr, fieldPlace_run hs], .ptr hc⟩
    ·rename_i cs off he
     simp at hq; subst hq
     rw [he] at hx
     generalize a.eval x = v at *
     cases hx with
     | vptr us hF hR =>
      rename_i b o
      exact ⟨.pointer (some ⟨b, o + (off + fd.offset), none⟩), by simp [Instr.fieldAt, run_underlying hu, hf', Instr.sureAddr, fieldPlace_run hs, Nat.add_assoc], .vptr us hF hR⟩
    ·simp at hq
  ·simp at hfs
theorem qv_field (h : Sim E B F R st a w) {s : TypeId} {x : Operand} {f : Nat} {o : Oper} {r : PV} (ho : o.op = .field s x f) (hq : qval E st o = some r) :
  ∃ v, (execOp a.eval o).run E.P w = .ok (.value v) w ∧ Rep F R r v := by
 have hx := h.eval x
 unfold qval qvalE at hq
 simp only [ho] at hq
 unfold execOp
 simp only [ho]
 split at hq
 ·rename_i fd cs hfd he
  obtain ⟨fs, hfs, hf⟩ := Option.bind_eq_some_iff.1 hfd
  unfold fieldsOf at hfs
  split at hfs
  ·rename_i fs' hu
   simp at hfs; subst hfs
   have hf' : fs'[f]? = some fd := by simpa using hf
   rw [he] at hx
   generalize a.eval x = v at *
   cases hx with
   | agg h1 hv =>
    obtain ⟨u, h2, h3⟩ := part_run (P := E.P) hv h1 hq w
    exact ⟨u, by simp [Instr.field, run_underlying hu, hf', asAgg, h2], h3⟩
  ·simp at hfs
 ·simp at hq
theorem qv_indexAddr (h : Sim E B F R st a w) {t : TypeId} {x ix : Operand} {o : Oper} {r : PV} (ho : o.op = .indexAddr t x ix) (hq : qval E st o = some r) :
  ∃ v, (execOp a.eval o).run E.P w = .ok (.value v) w ∧ Rep F R r v := by
 have hx := h.eval x
 have hix := h.eval ix
 unfold qval qvalE at hq
 simp only [ho] at hq
 unfold execOp
 simp only [ho]
 split at hq
 ·rename_i kk i e hi hu
  rw [hi] at hix
  obtain ⟨e1, _⟩ := hix.val_inv
  rw [e1]
  split at hq
  ·simp at hq
  rename_i hz
  split at hq
  ·rename_i k xs own he
   rw [he] at hx
   generalize a.eval x = v at *
   split at hq
   ·rename_i hk
    subst hk
    split at hq
    ·rename_i j hj
     obtain ⟨h0, h1, rfl, h3⟩ := idx_some hj
     split at hq
     ·rename_i p hp
      simp at hq; subst hq
      cases hx with
      | slnil => simp at hp
      | sl us hk0 hl hc hk hF hR =>
       rename_i b o len cap
       obtain ⟨ei, hei⟩ := info_of_sz hz
       have hg := chunk_get xs hk i.toNat p hp
       refine ⟨.pointer (some ⟨b, o + i.toNat * sz E.P e + 0, none⟩), ?_, .vptr ((us.drop (i.toNat * sz E.P e)).take (sz E.P e)) ?_ ?_⟩
       ·simp [Instr.indexAt, asIntOf, run_underlying hu, sz_run hei, hl, h0, h1, Addr.add_mid]
       ·intro j u hju
        rw [List.getElem?_take] at hju
        split at hju
        ·rw [List.getElem?_drop] at hju
         rw [Nat.add_assoc]; exact hF _ _ hju
        ·simp at hju
       ·rw [← hg]; exact (hR.drop _).take _
     ·simp at hq
    ·simp at hq
   ·simp at hq
  ·rename_i k xs ys he
   rw [he] at hx
   generalize a.eval x = v at *
   split at hq
   ·rename_i hk
    subst hk
    split at hq
    ·rename_i j hj
     obtain ⟨h0, h1, rfl, h3⟩ := idx_some hj
     split at hq
     ·rename_i p hp
      simp at hq; subst hq
      cases hx with
      | sltnil => simp at hp
      | sltz hk => simp at hp
      | slt us hk0 hl hc hk hF hR =>
       rename_i b o len cap
       obtain ⟨ei, hei⟩ := info_of_sz hz
       have hg := chunk_get (xs ++ ys) hk i.toNat p (by rw [List.getElem?_append_left (List.getElem?_eq_some_iff.1 hp).1]; exact hp)
       refine ⟨.pointer (some ⟨b, o + i.toNat * sz E.P e + 0, none⟩), ?_, .vptr ((us.drop (i.toNat * sz E.P e)).take (sz E.P e)) ?_ ?_⟩
       ·simp [Instr.indexAt, asIntOf, run_underlying hu, sz_run hei, hl, h0, h1, Addr.add_mid]
       ·intro j u hju
        rw [List.getElem?_take] at hju
        split at hju
        ·rw [List.getElem?_drop] at hju
         rw [Nat.add_assoc]; exact hF _ _ hju
        ·simp at hju
       ·rw [← hg]; exact (hR.drop _).take _
     ·simp at hq
    ·simp at hq
   ·simp at hq
  ·rename_i kk' b off len cap' he
   rw [he] at hx
   generalize a.eval x = v at *
   split at hq
   ·rename_i j hj
    obtain ⟨h0, h1, rfl, h3⟩ := idx_some hj
    simp at hq; subst hq
    cases hx with
    | rs hc hle =>
     rename_i c
     obtain ⟨ei, hei⟩ := info_of_sz hz
     exact ⟨_, by simp [Instr.indexAt, asIntOf, run_underlying hu, sz_run hei, h0, h1, Addr.add_mid], .ptr hc⟩
   ·simp at hq
  ·simp at hq
 ·rename_i kk i n e hi hu
  rw [hi] at hix
  obtain ⟨e1, _⟩ := hix.val_inv
  rw [e1]
  split at hq
  ·simp at hq
  rename_i hz
  obtain ⟨ei, hei⟩ := info_of_sz hz
  split at hq
  ·rename_i j b off hj he
   obtain ⟨h0, h1, rfl, h3⟩ := idx_some hj
   simp at hq; subst hq
   rw [he] at hx
   generalize a.eval x = v at *
   cases hx with
   | ptr hc => exact ⟨_, by simp [Instr.indexAt, Instr.sureAddr, asIntOf, run_underlying hu, sz_run hei, h0, h1, Addr.add_mid], .ptr hc⟩
  ·rename_i j cs off hj he
   obtain ⟨h0, h1, rfl, h3⟩ := idx_some hj
   simp at hq; subst hq
   rw [he] at hx
   generalize a.eval x = v at *
   cases hx with
   | vptr us hF hR =>
    rename_i b o
    exact ⟨.pointer (some ⟨b, o + (off + i.toNat * sz E.P e), none⟩), by simp [Instr.indexAt, Instr.sureAddr, asIntOf, run_underlying hu, sz_run hei, h0, h1, Addr.add_mid, Nat.add_assoc], .vptr us hF hR⟩
  ·simp at hq
 ·simp at hq
theorem qv_pick (h : Sim E B F R st a w) {c x y : Operand} {o : Oper} {r : PV} (ho : o.op = .pick c x y) (hq : qval E st o = some r) :
  ∃ v, (execOp a.eval o).run E.P w = .ok (.value v) w ∧ Rep F R r v := by
 have hc := h.eval c
 have hx := h.eval x
 have hy := h.eval y
 unfold qval qvalE at hq
 simp only [ho] at hq
 unfold execOp
 simp only [ho]
 split at hq
 ·rename_i t he
  simp at hq; subst hq
  rw [he] at hc
  obtain ⟨e1, _⟩ := hc.val_inv
  rw [e1]
  cases t
  ·exact ⟨_, by simp [asBool], hy⟩
  ·exact ⟨_, by simp [asBool], hx⟩
 ·simp at hq
theorem qv_load (h : Sim E B F R st a w) {t : TypeId} {x : Operand} {o : Oper} {r : PV} (ho : o.op = .load t x) (hq : qval E st o = some r) :
  ∃ v, (execOp a.eval o).run E.P w = .ok (.value v) w ∧ Rep F R r v := by
 have hx := h.eval x
 unfold qval qvalE at hq
 simp only [ho] at hq
 unfold execOp
 simp only [ho]
 obtain ⟨u, h1, h2⟩ := load_sound h.mem hx hq
 exact ⟨u, by simp [h1], h2⟩
theorem qv_nilCheck (h : Sim E B F R st a w) {x : Operand} {o : Oper} {r : PV} (ho : o.op = .nilCheck x) (hq : qval E st o = some r) :
  ∃ v, (execOp a.eval o).run E.P w = .ok (.value v) w ∧ Rep F R r v := by
 have hx := h.eval x
 unfold qval qvalE at hq
 simp only [ho] at hq
 unfold execOp
 simp only [ho]
 generalize a.eval x = v at *
 split at hq
 ·rename_i he; simp at hq; subst hq; rw [he] at hx; cases hx with | ptr hc => exact ⟨_, rfl, .ptr hc⟩
 ·rename_i he; simp at hq; subst hq; rw [he] at hx; cases hx with | vptr us hF hR => exact ⟨_, rfl, .vptr us hF hR⟩
 ·rename_i he; simp at hq; subst hq; rw [he] at hx; cases hx with | func h1 h2 => exact ⟨_, rfl, .func h1 h2⟩
 ·rename_i he; simp at hq; subst hq; rw [he] at hx; cases hx with | iface h1 => exact ⟨_, rfl, .iface h1⟩
 ·simp at hq
theorem qv_unOp (h : Sim E B F R st a w) {op : UnOp} {t : TypeId} {x : Operand} {o : Oper} {r : PV} (ho : o.op = .unOp op t x) (hq : qval E st o = some r) :
  ∃ v, (execOp a.eval o).run E.P w = .ok (.value v) w ∧ Rep F R r v := by
 have hx := h.eval x
 unfold qval qvalE at hq
 simp only [ho] at hq
 unfold execOp
 simp only [ho]
 split at hq
 ·rename_i k n he; simp at hq; subst hq; rw [he] at hx
  obtain ⟨e1, _⟩ := hx.val_inv
  exact ⟨_, by simp [e1, Op.unary, Op.intArith], .val rfl⟩
 ·rename_i b he; simp at hq; subst hq; rw [he] at hx
  obtain ⟨e1, _⟩ := hx.val_inv
  exact ⟨_, by simp [e1, Op.unary], .val rfl⟩
 ·simp at hq
theorem qv_convert (h : Sim E B F R st a w) {s d : TypeId} {x : Operand} {o : Oper} {r : PV} (ho : o.op = .convert s d x) (hq : qval E st o = some r) :
  ∃ v, (execOp a.eval o).run E.P w = .ok (.value v) w ∧ Rep F R r v := by
 have hx := h.eval x
 unfold qval qvalE at hq
 simp only [ho] at hq
 unfold execOp
 simp only [ho]
 split at hq
 ·rename_i ds k kk n h1 h2 he; simp at hq; subst hq; rw [he] at hx
  obtain ⟨e1, _⟩ := hx.val_inv
  exact ⟨_, by simp [e1, convert, run_underlying h1, run_underlying h2, Conv.intToInt], .val rfl⟩
 ·rename_i ds s h1 h2 he; simp at hq; subst hq; rw [he] at hx
  obtain ⟨e1, _⟩ := hx.val_inv
  exact ⟨.string s, by cases ds <;> simp [e1, convert, run_underlying h1, run_underlying h2], .val rfl⟩
 ·rename_i e k xs ow h1 h2 he
  split at hq
  ·rename_i hu
   obtain ⟨ns, hns, hq⟩ := Option.map_eq_some_iff.1 hq
   subst hq
   rw [he] at hx
   have hb : ∀ {xs : List PV} {ns : List Int}, bytesOf xs = some ns → xs = ns.map fun n => .val (.int .u8 n) := by
    intro xs
    induction xs with
    | nil => intro ns h; simp [bytesOf] at h; subst h; rfl
    | cons x xs ih =>
     intro ns h
     simp only [bytesOf] at h
     split at h
     ·rename_i n m hn hm
      injection h with h
      subst h
      have e0 : x = .val (.int .u8 n) := by
       unfold byteOf at hn
       split at hn
       ·injection hn with hn; subst hn; rfl
       ·cases hn
      rw [e0, ih hm]; rfl
     ·cases h
   have hxs := hb hns
   have hrl : ∀ {ns : List Int} {us : List Value}, RepL F [] ((ns.map fun n => PV.val (.int .u8 n)).flatMap PV.cells) us → us = ns.map (Value.int .u8) := by
    intro ns
    induction ns with
    | nil => intro us h; cases h; rfl
    | cons n ns ih =>
     intro us h
     simp only [List.map_cons, List.flatMap_cons, PV.cells, List.cons_append, List.nil_append] at h
     cases h with
     | cons h1 h2 =>
      obtain ⟨e1, _⟩ := h1.val_inv
      rw [List.map_cons, ← ih h2, e1]
   refine ⟨.string (strOfNums ns), ?_, .val rfl⟩
   generalize hv : a.eval x = v at hx ⊢
   cases hx with
   | slnil =>
    have e0 : ns = [] := by simpa [bytesOf] using hns.symm
    subst e0
    simp [run_convert_bytes_nil w s e h1 hu 0 0 d h2]
    rfl
   | @sl _ _ _ _ b1 o1 len1 cap1 us hk0 hl hc hk hF hR =>
    subst hxs
    have hus := hrl hR
    have hl' : ns.length = len1 := by rw [hl, List.length_map]
    have hcv := run_convert_bytes_arg w s e h1 hu b1 o1 len1 cap1 ns hl' (fun i hi => by
     have hi' : i < ns.length := by rw [hl']; exact hi
     refine (h.mem.fz _ _ _ (hF i _ (by rw [hus, List.getElem?_map, List.getElem?_eq_getElem hi']; rfl))).1.trans ?_
     rw [List.getD_eq_getElem?_getD, List.getElem?_eq_getElem hi']; rfl) d h2
    simp [hcv]
  ·cases hq
 ·simp at hq
theorem qv_makeInterface (h : Sim E B F R st a w) {t : TypeId} {x : Operand} {o : Oper} {r : PV} (ho : o.op = .makeInterface t x) (hq : qval E st o = some r) :
  ∃ v, (execOp a.eval o).run E.P w = .ok (.value v) w ∧ Rep F R r v := by
 have hx := h.eval x
 unfold qval qvalE at hq
 simp only [ho] at hq
 unfold execOp
 simp only [ho]
 split at hq
 ·simp at hq
 ·simp at hq
 ·rename_i d hn h1; simp at hq; subst hq
  exact ⟨.iface t (a.eval x), by cases d <;> simp_all [Instr.makeInterface, run_underlying h1], .iface hx⟩
theorem qv_makeFunc (h : Sim E B F R st a w) {fn : Fn} {x y : Array Operand} {o : Oper} {r : PV} (ho : o.op = .makeFunc fn x y) (hq : qval E st o = some r) :
  ∃ v, (execOp a.eval o).run E.P w = .ok (.value v) w ∧ Rep F R r v := by
 unfold qval qvalE at hq
 simp only [ho] at hq
 unfold execOp
 simp only [ho]
 simp at hq; subst hq
 exact ⟨.func fn (x.map a.eval) (y.map a.eval), by simp [Instr.makeFunc], .func (by simpa using repL_map h x.toList) (by simpa using repL_map h y.toList)⟩
theorem qv_extract (h : Sim E B F R st a w) {x : Operand} {i : Nat} {o : Oper} {r : PV} (ho : o.op = .extract x i) (hq : qval E st o = some r) :
  ∃ v, (execOp a.eval o).run E.P w = .ok (.value v) w ∧ Rep F R r v := by
 have hx := h.eval x
 unfold qval qvalE at hq
 simp only [ho] at hq
 unfold execOp
 simp only [ho]
 split at hq
 ·rename_i vs he
  rw [he] at hx
  generalize a.eval x = v at *
  cases hx with
  | tuple hr =>
   rename_i us
   obtain ⟨u, h1, h2⟩ := hr.get i r hq
   have : us[i]? = some u := by simpa using h1
   exact ⟨u, by simp [Instr.extract, this], h2⟩
 ·simp at hq
theorem qv_index (h : Sim E B F R st a w) {t : TypeId} {x ix : Operand} {o : Oper} {r : PV} (ho : o.op = .index t x ix) (hq : qval E st o = some r) :
  ∃ v, (execOp a.eval o).run E.P w = .ok (.value v) w ∧ Rep F R r v := by
 have hx := h.eval x
 have hix := h.eval ix
 unfold qval qvalE at hq
 simp only [ho] at hq
 unfold execOp
 simp only [ho]
 split at hq
 ·rename_i kk i s hi he hu
  rw [hi] at hix
  rw [he] at hx
  obtain ⟨e1, _⟩ := hix.val_inv
  obtain ⟨e2, _⟩ := hx.val_inv
  split at hq
  ·rename_i j hj
   obtain ⟨h0, h1, rfl, h3⟩ := idx_some hj
   injection hq with hq; subst hq
   refine ⟨.int .u8 (s.data.toList.getD i.toNat 0).toNat, ?_, .val rfl⟩
   have hg : s[i.toNat]? = some (s.data.toList.getD i.toNat 0) := by
    have hlt : i.toNat < s.data.toList.length := by simpa using h3
    have e : s[i.toNat]? = some s[i.toNat] := getElem?_pos s i.toNat h3
    rw [e, List.getD, List.getElem?_eq_getElem hlt]
    rfl
   simp [e1, e2, Instr.index, asIntOf, run_underlying hu, h0, hg]
  ·simp at hq
 ·rename_i kk i cs n e hi he hu
  rw [hi] at hix
  rw [he] at hx
  obtain ⟨e1, _⟩ := hix.val_inv
  generalize a.eval x = v at *
  split at hq
  ·simp at hq
  rename_i hz
  obtain ⟨ei, hei⟩ := info_of_sz hz
  split at hq
  ·rename_i j hj
   obtain ⟨h0, h1, rfl, h3⟩ := idx_some hj
   cases hx with
   | agg h4 hv =>
    obtain ⟨u, h5, h6⟩ := part_run (P := E.P) hv h4 hq w
    exact ⟨u, by simp [e1, Instr.index, asIntOf, run_underlying hu, sz_run hei, h0, h1, h5], h6⟩
  ·simp at hq
 ·simp at hq
theorem flat_take {k : Nat} : ∀ (xs : List PV) (_ : ∀ x ∈ xs, x.cells.length = k) (n : Nat), (xs.take n).flatMap PV.cells = (xs.flatMap PV.cells).take (n * k)
 | [], _, n => by simp
 | x :: xs, hk, 0 => by simp
 | x :: xs, hk, n + 1 => by
  have h0 := hk x (by simp)
  simp only [List.take_succ_cons, List.flatMap_cons, flat_take xs (fun y hy => hk y (by simp [hy])) n]
  rw [show (n + 1) * k = x.cells.length + n * k by rw [h0, Nat.succ_mul, Nat.add_comm], List.take_length_add_append]
theorem flat_drop {k : Nat} : ∀ (xs : List PV) (_ : ∀ x ∈ xs, x.cells.length = k) (n : Nat), (xs.drop n).flatMap PV.cells = (xs.flatMap PV.cells).drop (n * k)
 | [], _, n => by simp
 | x :: xs, hk, 0 => by simp
 | x :: xs, hk, n + 1 => by
  have h0 := hk x (by simp)
  simp only [List.drop_succ_cons, List.flatMap_cons, flat_drop xs (fun y hy => hk y (by simp [hy])) n]
  rw [show (n + 1) * k = x.cells.length + n * k by rw [h0, Nat.succ_mul, Nat.add_comm], List.drop_length_add_append]
theorem Rep.piece {k : Nat} {xs : List PV} {own : Bool} {b o len cap l h : Nat} (hr : Rep F R (.sl k xs own) (.slice (some ⟨b, o, none⟩) len cap)) (h1 : l ≤ h) (h2 : h ≤ len) :
  Rep F R (.sl k ((xs.take h).drop l) false) (.slice (some (if cap = l then ⟨b, o, none⟩ else ⟨b, o + l * k, none⟩)) (h - l) (cap - l)) := by
 cases hr with
 | sl us hk0 hl hc hk hF hR =>
  have hk' : ∀ x ∈ (xs.take h).drop l, x.cells.length = k := fun x hx => hk x (List.mem_of_mem_take (List.mem_of_mem_drop hx))
  split
  ·rename_i he
   have : (xs.take h).drop l = [] := List.drop_eq_nil_of_le (by simp; omega)
   rw [this]
   exact .sl [] hk0 (by simp; omega) (by omega) (by simp) (by simp) (by simpa using .nil)
  ·refine .sl ((us.take (h * k)).drop (l * k)) hk0 (by simp; omega) (by omega) hk' (fun j u hj => ?_) ?_
   ·rw [List.getElem?_drop, List.getElem?_take] at hj
    split at hj
    ·rw [Nat.add_assoc]; exact hF _ _ hj
    ·simp at hj
   ·rw [flat_drop _ (fun x hx => hk x (List.mem_of_mem_take hx)), flat_take _ hk]
    exact (hR.take _).drop _
theorem chunks_flat {k : Nat} (hk : k ≠ 0) : ∀ (n : Nat) (cs : List PV), n * k ≤ cs.length → (∀ c ∈ cs, c.cells = [c]) → (chunks k cs n).flatMap PV.cells = cs.take (n * k) ∧ ∀ x ∈ chunks k cs n, x.cells.length = k
 | 0, cs, _, _ => by simp [chunks]
 | n + 1, cs, h, h1 => by
  rw [Nat.succ_mul] at h
  obtain ⟨h2, h3⟩ := chunks_flat hk n (cs.drop k) (by simp; omega) (fun c hc => h1 c (List.mem_of_mem_drop hc))
  have e : (if k = 1 then cs.getD 0 undefP else PV.agg (cs.take k)).cells = cs.take k := by
   split
   ·rename_i hk1; subst hk1
    match cs, h with
    | c :: cs, _ => simpa using h1 c (by simp)
   ·rfl
  refine ⟨?_, ?_⟩
  ·simp only [chunks, List.flatMap_cons, h2, e]
   rw [Nat.succ_mul, Nat.add_comm, ← List.take_append_drop k (cs.take (k + n * k)), List.take_take, List.drop_take, Nat.min_eq_left (by omega), Nat.add_sub_cancel_left]
  ·intro x hx
   simp only [chunks, List.mem_cons] at hx
   rcases hx with rfl | hx
   ·rw [e]; simp; omega
   ·exact h3 x hx
theorem chunks_length {k : Nat} : ∀ (n : Nat) (cs : List PV), (chunks k cs n).length = n
 | 0, _ => rfl
 | n + 1, cs => by simp [chunks, chunks_length n]
theorem slice_run {P : Program} {t e : TypeId} {ei : TypeInfo} {b o len cap l hh : Nat} {lo hi : Option Value} (hu : P.underlying t = some (.slice e)) (hei : P.info? e = some ei) (w : World)
  (h1 : (Instr.sliceBounds true len cap lo hi none).run P w = .ok (l, hh, cap) w) :
  (Instr.slice t (.slice (some ⟨b, o, none⟩) len cap) lo hi none).run P w = .ok (.slice (some (if cap = l then ⟨b, o, none⟩ else ⟨b, o + l * sz P e, none⟩)) (hh - l) (cap - l)) w := by
 unfold Instr.slice
 rw [Sem.run_bind, run_underlying hu, Result.andThen_ok]
 show (Sem.run P (Instr.sliceBounds true len cap lo hi none >>= _) w) = _
 rw [Sem.run_bind, h1, Result.andThen_ok]
 show (Sem.run P (sizeOf e >>= _) w) = _
 rw [Sem.run_bind, sz_run (E := ⟨P, fun _ => none, none, none, 0, [], false⟩) hei, Result.andThen_ok]
 by_cases hcl : cap = l <;> simp [hcl, Addr.add_mid]
theorem Rep.pieceT {k : Nat} {xs ys : List PV} {b o len cap l h : Nat} (hk0 : 0 < k) (us : List Value) (hl : len = xs.length) (hc : len + ys.length ≤ cap) (hk : ∀ x ∈ xs ++ ys, x.cells.length = k)
  (hF : ∀ (j : Nat) u, us[j]? = some u → F b (o + j) = some u) (hR : RepL F [] ((xs ++ ys).flatMap PV.cells) us) (h1 : l ≤ h) (h2 : h ≤ len + ys.length) :
  Rep F R (.slt k (((xs ++ ys).take h).drop l) ((xs ++ ys).drop h)) (.slice (some (if cap = l then ⟨b, o, none⟩ else ⟨b, o + l * k, none⟩)) (h - l) (cap - l)) := by
 have hap : ((xs ++ ys).take h).drop l ++ (xs ++ ys).drop h = (xs ++ ys).drop l := by
  generalize hz : xs ++ ys = zs
  have hlz : zs.length = xs.length + ys.length := by rw [← hz, List.length_append]
  rw [← List.drop_append_of_le_length (by rw [List.length_take]; omega), List.take_append_drop]
 have hk' : ∀ x ∈ ((xs ++ ys).take h).drop l ++ (xs ++ ys).drop h, x.cells.length = k := by
  rw [hap]; exact fun x hx => hk x (List.mem_of_mem_drop hx)
 split
 ·rename_i he
  refine .slt [] hk0 (by simp; omega) (by simp; omega) hk' (by simp) ?_
  rw [hap, List.drop_eq_nil_of_le (by simp; omega)]; exact .nil
 ·refine .slt (us.drop (l * k)) hk0 (by simp; omega) (by simp; omega) hk' (fun j u hj => ?_) ?_
  ·rw [List.getElem?_drop] at hj
   rw [Nat.add_assoc]; exact hF _ _ hj
  ·rw [hap, flat_drop _ hk]; exact hR.drop _
theorem qv_slice (h : Sim E B F R st a w) {t : TypeId} {x : Operand} {lo hi : Option Operand} {o : Oper} {r : PV} (ho : o.op = .slice t x lo hi none) (hq : qval E st o = some r) :
  ∃ v, (execOp a.eval o).run E.P w = .ok (.value v) w ∧ Rep F R r v := by
 have hx := h.eval x
 have hlo : ∀ p v, lo.map (aev E st) = some p → lo.map a.eval = some v → Rep F R p v := by
  intro p v h1 h2
  cases lo with
  | none => simp at h1
  | some l => simp at h1 h2; subst h1; subst h2; exact h.eval l
 have hhi : ∀ p v, hi.map (aev E st) = some p → hi.map a.eval = some v → Rep F R p v := by
  intro p v h1 h2
  cases hi with
  | none => simp at h1
  | some l => simp at h1 h2; subst h1; subst h2; exact h.eval l
 unfold qval qvalE at hq
 simp only [ho] at hq
 unfold execOp
 simp only [ho]
 split at hq
 ·rename_i s he hu
  rw [he] at hx
  obtain ⟨e2, _⟩ := hx.val_inv
  split at hq
  ·rename_i l hh hb
   injection hq with hq; subst hq
   obtain ⟨h1, _, _⟩ := bnds_sound (P := E.P) (isSlice := false) hb hlo (by simp) hhi (by simp) s.size (Nat.le_refl _) w
   exact ⟨_, by simp [e2, Instr.sliceAt, run_underlying hu, Instr.slice, h1], .val rfl⟩
  ·simp at hq
 ·rename_i k xs own e he hu
  rw [he] at hx
  generalize a.eval x = v at *
  split at hq
  ·rename_i hz
   split at hq
   ·rename_i hks
    split at hq
    ·rename_i l hh hb
     injection hq with hq; subst hq
     obtain ⟨ei, hei⟩ := info_of_sz hz
     cases hx with
     | slnil =>
      obtain ⟨h1, h2, h3⟩ := bnds_sound (P := E.P) (isSlice := true) hb hlo (by simp) hhi (by simp) 0 (Nat.le_refl _) w
      have hh0 : hh = 0 := by simp at h3; omega
      have hl0 : l = 0 := by omega
      subst hh0; subst hl0
      refine ⟨.slice none 0 0, ?_, by unfold slRes; split <;> simp <;> first | exact .slnil | exact .sltnil⟩
      simp at h1
      simp [Instr.sliceAt, run_underlying hu, Instr.slice, h1, sz_run hei]
     | sl us hk0 hl hc hk hF hR =>
      rename_i b o len cap
      have hzk : zOf k (sz E.P e) = sz E.P e := by
       cases k with
       | zero => exact absurd hk0 (by omega)
       | succ k => rfl
      rw [hzk]
      obtain ⟨h1, h2, h3⟩ := bnds_sound (P := E.P) (isSlice := true) hb hlo (by simp) hhi (by simp) cap (by omega) w
      rw [← hl] at h1 h3
      have hr : Rep F R (.sl (sz E.P e) xs own) (.slice (some ⟨b, o, none⟩) len cap) := by
       rcases hks with rfl | rfl
       ·exact .sl us hk0 hl hc hk hF hR
       ·exact .sl us (Nat.pos_of_ne_zero hz) hl hc (by simp) hF hR
      refine ⟨.slice (some (if cap = l then ⟨b, o, none⟩ else ⟨b, o + l * sz E.P e, none⟩)) (hh - l) (cap - l), ?_, ?_⟩
      rotate_left
      ·unfold slRes
       split
       ·rename_i hlo1 hhi1
        have hl0 : l = 0 := by
         cases lo with
         | none =>
          unfold bnds at hb
          obtain ⟨z, _, hz2⟩ := Option.bind_eq_some_iff.1 hb
          simp [lowB] at hz2
          exact hz2.1.symm
         | some _ => simp at hlo1
        subst hl0
        cases hr with
        | sl us hk0 hl hc hk hF hR =>
         have := Rep.pieceT (R := R) (xs := xs) (ys := []) (l := 0) hk0 us hl (by simpa using hc) (by simpa using hk) hF (by simpa using hR) h2 (by simp; omega : hh ≤ len + ([] : List PV).length)
         simpa using this
       ·exact hr.piece h2 (by omega : hh ≤ len)
      have e1 : (Instr.slice t (.slice (some ⟨b, o, none⟩) len cap) (lo.map a.eval) (hi.map a.eval) none).run E.P w = .ok (.slice (some (if cap = l then ⟨b, o, none⟩ else ⟨b, o + l * sz E.P e, none⟩)) (hh - l) (cap - l)) w := by
       unfold Instr.slice
       rw [Sem.run_bind, run_underlying hu, Result.andThen_ok]
       show (Sem.run E.P (Instr.sliceBounds true len cap (lo.map a.eval) (hi.map a.eval) none >>= _) w) = _
       rw [Sem.run_bind, h1, Result.andThen_ok]
       show (Sem.run E.P (sizeOf e >>= _) w) = _
       rw [Sem.run_bind, sz_run hei, Result.andThen_ok]
       by_cases hcl : cap = l <;> simp [hcl, Addr.add_mid]
      simp [Instr.sliceAt, run_underlying hu, e1]
    ·simp at hq
   ·simp at hq
  ·simp at hq
 ·rename_i k xs ys e he hu
  rw [he] at hx
  generalize a.eval x = v at *
  split at hq
  ·rename_i hz
   split at hq
   ·rename_i hks
    split at hq
    ·rename_i l hh hb
     injection hq with hq; subst hq
     obtain ⟨ei, hei⟩ := info_of_sz hz
     cases hx with
     | sltz hk => exact absurd (hks.symm.trans hk) hz
     | sltnil =>
      obtain ⟨h1, h2, h3⟩ := bnds_sound (P := E.P) (isSlice := true) hb hlo (by simp) hhi (by simp) 0 (Nat.le_refl _) w
      have hh0 : hh = 0 := by simp at h3; omega
      have hl0 : l = 0 := by omega
      subst hh0; subst hl0
      refine ⟨.slice none 0 0, ?_, by simpa using .sltnil⟩
      simp at h1
      simp [Instr.sliceAt, run_underlying hu, Instr.slice, h1, sz_run hei]
     | slt us hk0 hl hc hk hF hR =>
      rename_i b o len cap
      obtain ⟨h1, h2, h3⟩ := bnds_sound (P := E.P) (isSlice := true) hb hlo (by simp) hhi (by simp) cap (by omega) w
      rw [← hl] at h1 h3
      have e1 := slice_run (b := b) (o := o) hu hei w h1
      refine ⟨.slice (some (if cap = l then ⟨b, o, none⟩ else ⟨b, o + l * sz E.P e, none⟩)) (hh - l) (cap - l), by simp [Instr.sliceAt, run_underlying hu, e1], ?_⟩
      rw [← hks]
      exact Rep.pieceT hk0 us hl hc hk hF hR h2 (by omega)
    ·simp at hq
   ·simp at hq
  ·simp at hq
 ·rename_i kk' bb off len cap e he hu
  rw [he] at hx
  generalize a.eval x = v at *
  split at hq
  ·rename_i hz
   split at hq
   ·rename_i l hh hb
    injection hq with hq; subst hq
    obtain ⟨ei, hei⟩ := info_of_sz hz
    cases hx with
    | rs hc hle =>
     rename_i c
     obtain ⟨h1, h2, h3⟩ := bnds_sound (P := E.P) (isSlice := true) hb hlo (by simp) hhi (by simp) cap (Nat.le_refl _) w
     have e1 := slice_run (b := c) (o := off) hu hei w h1
     refine ⟨.slice (some (if cap = l then ⟨c, off, none⟩ else ⟨c, off + l * sz E.P e, none⟩)) (hh - l) (cap - l), by simp [Instr.sliceAt, run_underlying hu, e1], ?_⟩
     unfold rsRes
     by_cases hcl : l = cap
     ·rw [if_pos hcl]
      have h0 : hh - l = 0 := by omega
      rw [h0]
      split <;> exact .sl [] (Nat.pos_of_ne_zero hz) rfl (Nat.zero_le _) (by simp) (by simp) .nil
     ·rw [if_neg hcl, if_neg (show ¬ cap = l by omega)]; exact .rs hc (by omega)
   ·simp at hq
  ·simp at hq
 ·rename_i bb off n e he hu
  rw [he] at hx
  generalize a.eval x = v at *
  split at hq
  ·rename_i hz
   split at hq
   ·rename_i l hh hb
    injection hq with hq; subst hq
    obtain ⟨ei, hei⟩ := info_of_sz hz
    cases hx with
    | ptr hc =>
     rename_i c
     obtain ⟨h1, h2, h3⟩ := bnds_sound (P := E.P) (isSlice := false) hb hlo (by simp) hhi (by simp) n (Nat.le_refl _) w
     refine ⟨.slice (some (if n = l then ⟨c, off, none⟩ else ⟨c, off + l * sz E.P e, none⟩)) (hh - l) (n - l), ?_, ?_⟩
     ·have e1 : (Instr.sliceAt t (.pointer (some ⟨c, off, none⟩)) (lo.map a.eval) (hi.map a.eval) none).run E.P w = .ok (.slice (some (if n = l then ⟨c, off, none⟩ else ⟨c, off + l * sz E.P e, none⟩)) (hh - l) (n - l)) w := by
       unfold Instr.sliceAt
       rw [Sem.run_bind, run_underlying hu, Result.andThen_ok]
       show (Sem.run E.P (Instr.sliceBounds false n n (lo.map a.eval) (hi.map a.eval) none >>= _) w) = _
       rw [Sem.run_bind, h1, Result.andThen_ok]
       show (Sem.run E.P (sizeOf e >>= _) w) = _
       rw [Sem.run_bind, sz_run hei, Result.andThen_ok]
       by_cases hcl : n = l <;> simp [hcl, Addr.add_mid]
      simp [e1]
     ·unfold rsRes
      by_cases hcl : n = l
      ·rw [if_pos hcl, if_pos hcl.symm]
       have h0 : hh - l = 0 := by omega
       rw [h0]
       exact .sl [] (Nat.pos_of_ne_zero hz) rfl (Nat.zero_le _) (by simp) (by simp) .nil
      ·rw [if_neg hcl, if_neg (Ne.symm hcl)]; exact .rs hc (by omega)
   ·simp at hq
  ·simp at hq
 ·rename_i cs off n e he hu
  rw [he] at hx
  generalize a.eval x = v at *
  split at hq
  ·rename_i l hh hb
   split at hq
   ·rename_i hcond
    obtain ⟨hlen, hz, hone⟩ := hcond
    injection hq with hq; subst hq
    obtain ⟨ei, hei⟩ := info_of_sz hz
    cases hx with
    | vptr us hF hR =>
     rename_i b o
     obtain ⟨h1, h2, h3⟩ := bnds_sound (P := E.P) (isSlice := false) hb hlo (by simp) hhi (by simp) n (Nat.le_refl _) w
     have hone' : ∀ c ∈ cs.drop off, c.cells = [c] := fun c hc => by
      have := List.all_eq_true.1 hone c (List.mem_of_mem_drop hc)
      cases c <;> simp [PV.one] at this <;> rfl
     obtain ⟨c1, c2⟩ := chunks_flat hz n (cs.drop off) (by simp; omega) hone'
     have hr : Rep F R (.sl (sz E.P e) (chunks (sz E.P e) (cs.drop off) n) false) (.slice (some ⟨b, o + off, none⟩) n n) := by
      refine .sl ((us.drop off).take (n * sz E.P e)) (Nat.pos_of_ne_zero hz) (chunks_length n _).symm (Nat.le_refl _) c2 (fun j u hj => ?_) ?_
      ·rw [List.getElem?_take] at hj
       split at hj
       ·rw [List.getElem?_drop] at hj; rw [Nat.add_assoc]; exact hF _ _ hj
       ·simp at hj
      ·rw [c1]; exact (hR.drop _).take _
     have := hr.piece h2 (by omega : hh ≤ n)
     refine ⟨_, ?_, this⟩
     have e1 : (Instr.sliceAt t (.pointer (some ⟨b, o + off, none⟩)) (lo.map a.eval) (hi.map a.eval) none).run E.P w = .ok (.slice (some (if n = l then ⟨b, o + off, none⟩ else ⟨b, o + off + l * sz E.P e, none⟩)) (hh - l) (n - l)) w := by
      unfold Instr.sliceAt
      rw [Sem.run_bind, run_underlying hu, Result.andThen_ok]
      show (Sem.run E.P (Instr.sliceBounds false n n (lo.map a.eval) (hi.map a.eval) none >>= _) w) = _
      rw [Sem.run_bind, h1, Result.andThen_ok]
      show (Sem.run E.P (sizeOf e >>= _) w) = _
      rw [Sem.run_bind, sz_run hei, Result.andThen_ok]
      by_cases hcl : n = l <;> simp [hcl, Addr.add_mid]
     simp [e1]
   ·simp at hq
  ·simp at hq
 ·simp at hq
theorem qv_len (h : Sim E B F R st a w) {args : Array Operand} {ts : Array TypeId} {o : Oper} {r : PV} (ho : o.op = .call { callee := .builtin .len, args := args, argTypes := ts }) (hq : qval E st o = some r) :
  ∃ v, (execOp a.eval o).run E.P w = .ok (.value v) w ∧ Rep F R r v := by
 unfold qval qvalE at hq
 simp only [ho] at hq
 unfold execOp
 simp only [ho]
 split at hq
 ·rename_i x t ha ht
  have ea : args = #[x] := by cases args; simp_all
  have et : ts = #[t] := by cases ts; simp_all
  subst ea; subst et
  have hx := h.eval x
  generalize hv : a.eval x = v at *
  split at hq
  ·rename_i s hu he
   rw [he] at hx
   obtain ⟨e2, _⟩ := hx.val_inv
   injection hq with hq; subst hq
   exact ⟨.int .i64 s.size, by simp [resolve, invoke, builtin, Builtin.len_, run_underlying hu, hv, e2, goInt], .val rfl⟩
  ·rename_i n e hu
   injection hq with hq; subst hq
   exact ⟨.int .i64 n, by simp [resolve, invoke, builtin, Builtin.len_, run_underlying hu, hv, goInt], .val rfl⟩
  ·rename_i e k xs own hu he
   rw [he] at hx
   injection hq with hq; subst hq
   refine ⟨.int .i64 xs.length, ?_, .val rfl⟩
   cases hx with
   | slnil => simp [resolve, invoke, builtin, Builtin.len_, run_underlying hu, hv, goInt]
   | sl us hk0 hl hc hk hF hR => simp [resolve, invoke, builtin, Builtin.len_, run_underlying hu, hv, goInt, hl]
  ·rename_i e k xs ys hu he
   rw [he] at hx
   injection hq with hq; subst hq
   refine ⟨.int .i64 xs.length, ?_, .val rfl⟩
   cases hx with
   | sltnil => simp [resolve, invoke, builtin, Builtin.len_, run_underlying hu, hv, goInt]
   | sltz hk => simp [resolve, invoke, builtin, Builtin.len_, run_underlying hu, hv, goInt]
   | slt us hk0 hl hc hk hF hR => simp [resolve, invoke, builtin, Builtin.len_, run_underlying hu, hv, goInt, hl]
  ·rename_i e kk' b off n cap hu he
   rw [he] at hx
   injection hq with hq; subst hq
   refine ⟨.int .i64 n, ?_, .val rfl⟩
   cases hx with
   | rs h1 hc => simp [resolve, invoke, builtin, Builtin.len_, run_underlying hu, hv, goInt]
  ·simp at hq
 ·simp at hq
theorem qv_minmax (h : Sim E B F R st a w) {bi : Builtin} (hb : bi = .min ∨ bi = .max) {args : Array Operand} {ts : Array TypeId} {o : Oper} {r : PV} (ho : o.op = .call { callee := .builtin bi, args := args, argTypes := ts }) (hq : qval E st o = some r) :
  ∃ v, (execOp a.eval o).run E.P w = .ok (.value v) w ∧ Rep F R r v := by
 unfold qval qvalE at hq
 unfold execOp
 simp only [ho]
 rcases hb with rfl | rfl
 all_goals
  simp only [ho] at hq
  split at hq
  ·rename_i x y ha
   have ea : args = #[x, y] := by cases args; simp_all
   subst ea
   have hx := h.eval x
   have hy := h.eval y
   split at hq
   ·rename_i k m k' n h1 h2
    rw [h1] at hx; rw [h2] at hy
    obtain ⟨e1, _⟩ := hx.val_inv
    obtain ⟨e2, _⟩ := hy.val_inv
    injection hq with hq; subst hq
    exact ⟨_, by simp [resolve, invoke, builtin, Builtin.min_, Builtin.max_, Builtin.min2, Builtin.max2, e1, e2, List.foldlM], .val rfl⟩
   ·simp at hq
  ·simp at hq
theorem zeroP_run {P : Program} {t : TypeId} {z : PV} (h : zeroP P t = some z) (w : World) : ∃ v, (zeroValue t).run P w = .ok v w ∧ Rep F R z v ∧ occ z v = [] := by
 unfold zeroP zeroV at h
 cases hi : P.info? t with
 | none => simp [hi] at h
 | some i =>
  cases hz : i.zero with
  | none => simp [hi, hz] at h
  | some v =>
   simp [hi, hz] at h; subst h
   obtain ⟨h1, h2⟩ := rep_ofC (F := F) (R := R) v
   exact ⟨v, by simp [zeroValue, typeInfo, hi, hz], h1, h2⟩
theorem qv_typeAssert (h : Sim E B F R st a w) {x : Operand} {t asserted : TypeId} {ok : Bool} {o : Oper} {r : PV} (ho : o.op = .typeAssert x t asserted ok) (hq : qval E st o = some r) :
  ∃ v, (execOp a.eval o).run E.P w = .ok (.value v) w ∧ Rep F R r v := by
 have hx := h.eval x
 unfold qval qvalE at hq
 simp only [ho] at hq
 unfold execOp
 simp only [ho]
 generalize a.eval x = v at *
 split at hq
 ·simp at hq
 ·rename_i d t' v' hn hu he
  rw [he] at hx
  cases hx with
  | iface hr =>
   rename_i V
   have hd : ∀ ms, d ≠ .interface ms := fun ms hm => hn ms hm
   split at hq
   ·rename_i ht
    subst ht
    injection hq with hq; subst hq
    cases ok
    ·exact ⟨V, by cases d <;> simp_all [Instr.typeAssert, run_underlying hu], hr⟩
    ·exact ⟨.tuple #[V, .bool true], by cases d <;> simp_all [Instr.typeAssert, run_underlying hu], .tuple (.cons hr (.cons (.val rfl) .nil))⟩
   ·rename_i ht
    split at hq
    ·rename_i hok
     split at hq
     ·rename_i z hz
      injection hq with hq; subst hq
      obtain ⟨v, h1, h2, _⟩ := zeroP_run (F := F) (R := R) hz w
      exact ⟨.tuple #[v, .bool false], by cases d <;> simp_all [Instr.typeAssert, run_underlying hu], .tuple (.cons h2 (.cons (.val rfl) .nil))⟩
     ·simp at hq
    ·simp at hq
 ·rename_i d hn hu he
  rw [he] at hx
  obtain ⟨e2, _⟩ := hx.val_inv
  have hd : ∀ ms, d ≠ .interface ms := fun ms hm => hn ms hm
  split at hq
  ·rename_i hok
   split at hq
   ·rename_i z hz
    injection hq with hq; subst hq
    obtain ⟨v, h1, h2, _⟩ := zeroP_run (F := F) (R := R) hz w
    exact ⟨.tuple #[v, .bool false], by cases d <;> simp_all [Instr.typeAssert, run_underlying hu], .tuple (.cons h2 (.cons (.val rfl) .nil))⟩
   ·simp at hq
  ·simp at hq
 ·simp at hq
theorem qval_sound (h : Sim E B F R st a w) {o : Oper} {r : PV} (hq : qval E st o = some r) :
  ∃ v, (execOp a.eval o).run E.P w = .ok (.value v) w ∧ Rep F R r v := by
 cases ho : o.op with
 | pick c x y => exact qv_pick h ho hq
 | load t x => exact qv_load h ho hq
 | nilCheck x => exact qv_nilCheck h ho hq
 | binOp op t x y u => exact binOp_sound h ho hq
 | unOp op t x => exact qv_unOp h ho hq
 | convert s d x => exact qv_convert h ho hq
 | makeInterface t x => exact qv_makeInterface h ho hq
 | makeFunc fn x y => exact qv_makeFunc h ho hq
 | fieldAddr s x f => exact qv_fieldAddr h ho hq
 | field s x f => exact qv_field h ho hq
 | indexAddr t x i => exact qv_indexAddr h ho hq
 | index t x i => exact qv_index h ho hq
 | slice t x lo hi mx =>
  cases mx with
  | none => exact qv_slice h ho hq
  | some m => unfold qval qvalE at hq; simp [ho] at hq
 | extract x i => exact qv_extract h ho hq
 | typeAssert x t u ok => exact qv_typeAssert h ho hq
 | call c =>
  obtain ⟨callee, args, ts⟩ := c
  cases callee with
  | builtin b =>
   cases b with
   | len => exact qv_len h ho hq
   | min => exact qv_minmax h (.inl rfl) ho hq
   | max => exact qv_minmax h (.inr rfl) ho hq
   | _ => unfold qval qvalE at hq; simp [ho] at hq
  | _ => unfold qval qvalE at hq; simp [ho] at hq
 | _ => unfold qval qvalE at hq; simp [ho] at hq
end
end Go.Ve
namespace Go.Ve
section
variable {E : Env} {B : Base} {F : Fz} {R : List Nat} {blks : List Blk} {w : World}
theorem cell_lt {w : World} {b o : Nat} {v : Value} (h : w.cell? ⟨b, o, none⟩ = some v) : b < w.heap.size := by
 unfold World.cell? at h
 cases hb : w.heap[b]? with
 | none => simp [hb] at h
 | some x => exact (Array.getElem?_eq_some_iff.1 hb).1
theorem cell_congr {w w' : World} {b o : Nat} (h : w'.heap[b]? = w.heap[b]?) : w'.cell? ⟨b, o, none⟩ = w.cell? ⟨b, o, none⟩ := by
 unfold World.cell?; rw [h]
theorem Mem.F_lt (hm : Mem E B F R blks w) {b o : Nat} {v : Value} (h : F b o = some v) : b < w.heap.size := cell_lt (hm.fz b o v h).1
theorem Mem.F_new (hm : Mem E B F R blks w) {b o : Nat} (h : w.heap.size ≤ b) : F b o = none := by
 cases hF : F b o with
 | none => rfl
 | some v => have := hm.F_lt hF; omega
theorem occB_congr {w w' : World} : ∀ (R : List Nat) (blks : List Blk), (∀ c ∈ R, w'.heap[c]? = w.heap[c]?) → occB w' R blks = occB w R blks
 | [], _, _ => by simp [occB]
 | c :: R, [], _ => by simp [occB]
 | c :: R, .live cs :: bs, h => by
  have h1 := h c (by simp)
  simp [occB, occB_congr R bs (fun x hx => h x (by simp [hx])), cellsW, h1]
 | c :: R, .frz cs :: bs, h => by simp [occB, occB_congr R bs (fun x hx => h x (by simp [hx]))]
 | c :: R, .loop .. :: bs, h => by simp [occB, occB_congr R bs (fun x hx => h x (by simp [hx]))]
 | c :: R, .bld .. :: bs, h => by
  have h1 := h c (by simp)
  simp [occB, occB_congr R bs (fun x hx => h x (by simp [hx])), cellsW, h1]
theorem occB_append {w : World} : ∀ (R : List Nat) (blks : List Blk) (c : Nat) (b : Blk), R.length = blks.length → occB w (R ++ [c]) (blks ++ [b]) = occB w R blks ++ occB w [c] [b]
 | [], [], c, b, _ => by simp [occB]
 | [], _ :: _, _, _, h => by simp at h
 | _ :: _, [], _, _, h => by simp at h
 | x :: R, .live cs :: bs, c, b, h => by simp [occB, occB_append R bs c b (by simpa using h)]
 | x :: R, .frz cs :: bs, c, b, h => by simp [occB, occB_append R bs c b (by simpa using h)]
 | x :: R, .loop .. :: bs, c, b, h => by simp [occB, occB_append R bs c b (by simpa using h)]
 | x :: R, .bld .. :: bs, c, b, h => by simp [occB, occB_append R bs c b (by simpa using h)]
theorem occB_set {w w' : World} : ∀ (R : List Nat) (blks : List Blk) (i c : Nat) (cs cs' : List PV), R.Nodup → R[i]? = some c → blks[i]? = some (.live cs) → (∀ x ∈ R, x ≠ c → w'.heap[x]? = w.heap[x]?) →
  (∀ x, cnt x (occB w' R (blks.set i (.live cs'))) + cnt x (occL cs (cellsW w c)) = cnt x (occB w R blks) + cnt x (occL cs' (cellsW w' c))) ∧
  ∀ q ∈ occB w' R (blks.set i (.live cs')), q ∈ occB w R blks ∨ q ∈ occL cs' (cellsW w' c)
 | [], _, i, c, cs, cs', _, h, _, _ => by simp at h
 | c0 :: R, [], i, c, cs, cs', _, _, h, _ => by simp at h
 | c0 :: R, b :: bs, 0, c, cs, cs', hn, h1, h2, h3 => by
  simp at h1 h2; subst h1; subst h2
  have hc : occB w' R bs = occB w R bs := occB_congr R bs (fun x hx => h3 x (by simp [hx]) (by rintro rfl; exact (List.nodup_cons.1 hn).1 hx))
  simp [occB, hc]
  refine ⟨fun x => by omega, fun q hq => ?_⟩
  rcases hq with hq | hq
  ·exact .inr hq
  ·exact .inl (.inr hq)
 | c0 :: R, b :: bs, i + 1, c, cs, cs', hn, h1, h2, h3 => by
  have hn' := List.nodup_cons.1 hn
  obtain ⟨k1, k2⟩ := occB_set R bs i c cs cs' hn'.2 (by simpa using h1) (by simpa using h2) (fun x hx => h3 x (by simp [hx]))
  have hne : c0 ≠ c := by
   rintro rfl
   exact hn'.1 (List.mem_of_getElem? (by simpa using h1))
  have h0 := h3 c0 (by simp) hne
  cases b with
  | bld T e pre s =>
   have e : cellsW w' c0 = cellsW w c0 := by simp [cellsW, h0]
   refine ⟨fun x => ?_, fun q hq => ?_⟩
   ·have := k1 x
    simp only [List.set_cons_succ, occB, cnt_append, e]; omega
   ·simp only [List.set_cons_succ, occB, List.mem_append, e] at hq ⊢
    rcases hq with hq | hq
    ·exact .inl (.inl hq)
    ·rcases k2 q hq with h | h
     ·exact .inl (.inr h)
     ·exact .inr h
  | live d =>
   have e : cellsW w' c0 = cellsW w c0 := by simp [cellsW, h0]
   refine ⟨fun x => ?_, fun q hq => ?_⟩
   ·have := k1 x
    simp only [List.set_cons_succ, occB, cnt_append, e]; omega
   ·simp only [List.set_cons_succ, occB, List.mem_append, e] at hq ⊢
    rcases hq with hq | hq
    ·exact .inl (.inl hq)
    ·rcases k2 q hq with h | h
     ·exact .inl (.inr h)
     ·exact .inr h
  | frz d =>
   refine ⟨fun x => ?_, fun q hq => ?_⟩
   ·have := k1 x
    simp only [List.set_cons_succ, occB]; omega
   ·simp only [List.set_cons_succ, occB] at hq ⊢
    exact k2 q hq
  | loop =>
   refine ⟨fun x => ?_, fun q hq => ?_⟩
   ·have := k1 x
    simp only [List.set_cons_succ, occB]; omega
   ·simp only [List.set_cons_succ, occB] at hq ⊢
    exact k2 q hq
theorem BlkOk.mono {Pr : Nat → Prop} {F' : Fz} {R' : List Nat} {w' : World} {c : Nat} {b : Blk} (h : BlkOk Pr F R w c b) (hF : F.le F') (hR : Rle R R') (hFc : ∀ o, F c o = none → F' c o = none) (hw : w'.heap[c]? = w.heap[c]?) : BlkOk Pr F' R' w' c b := by
 cases b with
 | live cs =>
  obtain ⟨h1, h2, vs, T, h3, h4, h5, h6⟩ := h
  exact ⟨h1, fun o => hFc o (h2 o), vs, T, by rw [hw]; exact h3, h4.mono hF hR, h5, h6⟩
 | frz cs =>
  obtain ⟨us, h1, h2⟩ := h
  exact ⟨us, h1.mono hF hR, fun j u hj => hF _ _ _ (h2 j u hj)⟩
 | loop =>
  obtain ⟨h1, fn, tm, d, h2, h3⟩ := h
  exact ⟨h1, fn, tm, d, by rw [hw]; exact h2, h3.1.mono hF hR, h3.2⟩
 | bld T e pre s =>
  obtain ⟨h1, h2, vs, p, v, h3, h4, h5⟩ := h
  exact ⟨h1, fun o => hFc o (h2 o), vs, p, v, by rw [hw]; exact h3, h4.mono hF (Rle.refl _), h5⟩
theorem OccOk.mono {Pr : Nat → Prop} {F' : Fz} {R' : List Nat} {w' : World} {q : Occ} (h : OccOk Pr F R w q) (hR : q.b ∈ R' → q.b ∈ R) (hF : ∀ o, F q.b o = none → F' q.b o = none) (hw : w'.heap[q.b]? = w.heap[q.b]?) : OccOk Pr F' R' w' q := by
 obtain ⟨h1, h2, h3, h4, vs, T, h5, h6⟩ := h
 exact ⟨h1, fun h => h2 (hR h), h3, fun o ho => hF o (h4 o ho), vs, T, by rw [hw]; exact h5, h6.1, h6.2.1, fun t ht => have k := h6.2.2 t ht; ⟨k.1, k.2.1, k.2.2.1, k.2.2.2.1, fun o => hF o (k.2.2.2.2 o)⟩⟩
theorem OccOk.lt {Pr : Nat → Prop} {q : Occ} (h : OccOk Pr F R w q) : q.b < w.heap.size := by
 obtain ⟨_, _, _, _, vs, T, h5, _⟩ := h
 exact (Array.getElem?_eq_some_iff.1 h5).1
theorem Fz.le.trans' {a b c : Fz} (h : a.le b) (k : b.le c) : a.le c := Fz.le_trans h k
def World.new (w : World) (vs : List Value) (T : TypeId) : World := { w with heap := w.heap.push (.cells vs.toArray T) }
theorem new_old {w : World} {vs : List Value} {T : TypeId} {b : Nat} (h : b < w.heap.size) : (World.new w vs T).heap[b]? = w.heap[b]? := by
 show (w.heap.push _)[b]? = _
 rw [Array.getElem?_push, if_neg (Nat.ne_of_lt h)]
theorem new_new {w : World} {vs : List Value} {T : TypeId} : (World.new w vs T).heap[w.heap.size]? = some (.cells vs.toArray T (0, 0)) := by
 show (w.heap.push _)[w.heap.size]? = _
 rw [Array.getElem?_push, if_pos rfl]
theorem new_size {w : World} {vs : List Value} {T : TypeId} : (World.new w vs T).heap.size = w.heap.size + 1 := by
 show (w.heap.push _).size = _
 rw [Array.size_push]
theorem Mem.alloc (hm : Mem E B F R blks w) {cs : List PV} {vs : List Value} (T : TypeId) (hr : RepL F R cs vs) (h1 : ∀ v ∈ vs, v.oneCell' = true) :
  Mem E B F (R ++ [w.heap.size]) (blks ++ [.live cs]) (World.new w vs T) where
 os := hm.os
 tape := hm.tape
 output := hm.output
 drn := hm.drn
 size := by rw [new_size]; have := hm.size; omega
 pr := fun b hb => by
  obtain ⟨h2, h3⟩ := hm.pr b hb
  exact ⟨h2, by rw [new_old (by have := hm.size; omega)]; exact h3⟩
 fz := fun b o v h => by
  rw [cell_congr (new_old (hm.F_lt h))]; exact hm.fz b o v h
 fnew := hm.fnew
 fold := hm.fold
 rnew := fun c hc => by
  rcases List.mem_append.1 hc with hc | hc
  ·exact hm.rnew c hc
  ·simp at hc; subst hc; exact .inr hm.size
 rold := hm.rold.trans (Rle.append _ _)
 bound := fun c hc => by
  rw [new_size]
  rcases List.mem_append.1 hc with hc | hc
  ·have := hm.bound c hc; omega
  ·simp at hc; omega
 glob := hm.glob
 len := by simp [hm.len]
 nd := by
  rw [List.nodup_append]
  refine ⟨hm.nd, by simp, fun a ha b hb => ?_⟩
  simp at hb; subst hb
  have := hm.bound a ha; omega
 blk := fun i c b hc hb => by
  by_cases hi : i < R.length
  ·rw [List.getElem?_append_left hi] at hc
   rw [List.getElem?_append_left (by rw [← hm.len]; exact hi)] at hb
   exact (hm.blk i c b hc hb).mono (Fz.le_refl F) (Rle.append _ _) (fun _ h => h) (new_old (hm.bound c (List.mem_of_getElem? hc)))
  ·have hi' : i = R.length := by
    obtain ⟨hlt, _⟩ := List.getElem?_eq_some_iff.1 hc
    simp at hlt; omega
   subst hi'
   have hl := hm.len
   simp at hc; subst hc
   rw [hl] at hb
   simp at hb; subst hb
   exact ⟨fun hp => by have := (hm.pr _ hp).1; have := hm.size; omega, fun o => hm.F_new (Nat.le_refl _), vs.toArray, T, new_new, by have hl := hr.length; simp only [List.take_of_length_le (Nat.le_of_eq hl)]; exact hr.mono (Fz.le_refl F) (Rle.append _ _), by simpa using h1, by have hl := hr.length; simp; omega⟩
 mks := fun c hc => by
  obtain ⟨h2, h3, h4⟩ := hm.mks c hc
  have hlt := (Array.getElem?_eq_some_iff.1 h2).1
  exact ⟨by rw [new_old hlt]; exact h2, fun hin => by
   rcases List.mem_append.1 hin with hin | hin
   ·exact h3 hin
   ·simp at hin; omega, h4⟩
 mnd := hm.mnd
theorem Owned.alloc (hm : Mem E B F R blks w) {cs : List PV} {vs : List Value} {T : TypeId} {l : List Occ} (h : Owned B.Pr F R w (l ++ occL cs vs ++ occB w R blks)) :
  Owned B.Pr F (R ++ [w.heap.size]) (World.new w vs T) (l ++ occB (World.new w vs T) (R ++ [w.heap.size]) (blks ++ [.live cs])) := by
 have e : occB (World.new w vs T) (R ++ [w.heap.size]) (blks ++ [.live cs]) = occB w R blks ++ occL cs vs := by
  rw [occB_append _ _ _ _ hm.len, occB_congr R blks (fun c hc => new_old (hm.bound c hc))]
  simp [occB, cellsW, new_new]
 rw [e]
 refine ⟨fun c => ?_, fun q hq => ?_⟩
 ·have := h.1 c; simp at this ⊢; omega
 ·have hok := h.2 q (by simp at hq ⊢; rcases hq with hq | hq | hq <;> simp [hq])
  exact hok.mono (fun hin => by
   rcases List.mem_append.1 hin with h' | h'
   ·exact h'
   ·simp at h'; have := hok.lt; omega) (fun _ h => h) (new_old hok.lt)
theorem Mem.store (hm : Mem E B F R blks w) {i c : Nat} {cs cs' : List PV} {vs vs' : List Value} (hc : R[i]? = some c) (hb : blks[i]? = some (.live cs))
  (hr : RepL F R cs' (vs'.take cs'.length)) (h1 : ∀ v ∈ vs', v.oneCell' = true) (hle : cs'.length ≤ vs'.length) : Mem E B F R (blks.set i (.live cs')) (w.setRow c vs'.toArray) := by
 have hok := hm.blk i c _ hc hb
 obtain ⟨hnp, hF0, vs0, T, hh, _, _, _⟩ := hok
 have hoth : ∀ x, x ≠ c → (w.setRow c vs'.toArray).heap[x]? = w.heap[x]? := fun x hx => setRow_other w c x _ hx
 exact {
  os := hm.os, tape := hm.tape, output := hm.output, drn := hm.drn
  size := by simpa using hm.size
  pr := fun b hb => by
   obtain ⟨h2, h3⟩ := hm.pr b hb
   exact ⟨h2, by rw [hoth b (by rintro rfl; exact hnp hb)]; exact h3⟩
  fz := fun b o v h => by
   have hne : b ≠ c := by rintro rfl; rw [hF0] at h; simp at h
   rw [cell_congr (hoth b hne)]; exact hm.fz b o v h
  fnew := hm.fnew, fold := hm.fold, rnew := hm.rnew, rold := hm.rold
  bound := fun x hx => by simpa using hm.bound x hx
  glob := hm.glob
  len := by simp [hm.len]
  nd := hm.nd
  blk := fun j x b hx hb' => by
   by_cases hj : j = i
   ·subst hj
    obtain rfl : c = x := by rw [hc] at hx; exact Option.some.inj hx
    obtain ⟨hlt, _⟩ := List.getElem?_eq_some_iff.1 hb
    rw [List.getElem?_set_self hlt] at hb'
    simp at hb'; subst hb'
    exact ⟨hnp, hF0, vs'.toArray, T, setRow_heap w c vs0 _ T _ hh, by simpa using hr, by simpa using h1, by simpa using hle⟩
   ·rw [List.getElem?_set_ne (Ne.symm hj)] at hb'
    have hne : x ≠ c := by
     rintro rfl
     exact hj ((List.getElem?_inj (List.getElem?_eq_some_iff.1 hx).1 hm.nd).1 (hx.trans hc.symm))
    exact (hm.blk j x b hx hb').mono (Fz.le_refl F) (Rle.refl R) (fun _ h => h) (hoth x hne)
  mks := fun x hx => by
   obtain ⟨h2, h3, h4⟩ := hm.mks x hx
   exact ⟨by rw [hoth x (by rintro rfl; exact h3 (List.mem_of_getElem? hc))]; exact h2, h3, h4⟩
  mnd := hm.mnd }
theorem Owned.store (hm : Mem E B F R blks w) {i c : Nat} {cs cs' : List PV} {vs' : List Value} {l l' : List Occ} (hc : R[i]? = some c) (hb : blks[i]? = some (.live cs))
  (h : Owned B.Pr F R w (l ++ occB w R blks)) (hs : Sub (l' ++ occL cs' vs') (l ++ occL cs (cellsW w c))) :
  Owned B.Pr F R (w.setRow c vs'.toArray) (l' ++ occB (w.setRow c vs'.toArray) R (blks.set i (.live cs'))) := by
 obtain ⟨hnp, hF0, vs0, T, hh, _, _, _⟩ := hm.blk i c _ hc hb
 have hoth : ∀ x, x ≠ c → (w.setRow c vs'.toArray).heap[x]? = w.heap[x]? := fun x hx => setRow_other w c x _ hx
 have ecell : cellsW (w.setRow c vs'.toArray) c = vs' := by simp [cellsW, setRow_heap w c vs0 _ T _ hh]
 obtain ⟨k1, k2⟩ := occB_set R blks i c cs cs' hm.nd hc hb (w := w) (w' := w.setRow c vs'.toArray) (fun x _ hx => hoth x hx)
 rw [ecell] at k1 k2
 have hsub : ∀ q ∈ occL cs (cellsW w c), q ∈ occB w R blks := by
  have : ∀ (R : List Nat) (blks : List Blk) (i : Nat), R[i]? = some c → blks[i]? = some (.live cs) → ∀ q ∈ occL cs (cellsW w c), q ∈ occB w R blks := by
   intro R
   induction R with
   | nil => intro bl i h; simp at h
   | cons x R ih =>
    intro bl i h h' q hq
    cases bl with
    | nil => simp at h'
    | cons b bl =>
     cases i with
     | zero => simp at h h'; subst h; subst h'; simp [occB, hq]
     | succ i =>
      have := ih bl i (by simpa using h) (by simpa using h') q hq
      cases b <;> simp [occB, this]
  exact this R blks i hc hb
 refine ⟨fun x => ?_, fun q hq => ?_⟩
 ·have a := h.1 x; have b := k1 x; have d := hs.1 x
  simp at a b d ⊢; omega
 ·have hq' : q ∈ l ++ occB w R blks := by
   rcases List.mem_append.1 hq with hq | hq
   ·rcases List.mem_append.1 (hs.2 q (List.mem_append_left _ hq)) with h' | h'
    ·exact List.mem_append_left _ h'
    ·exact List.mem_append_right _ (hsub q h')
   ·rcases k2 q hq with h' | h'
    ·exact List.mem_append_right _ h'
    ·rcases List.mem_append.1 (hs.2 q (List.mem_append_right _ h')) with h'' | h''
     ·exact List.mem_append_left _ h''
     ·exact List.mem_append_right _ (hsub q h'')
  have hok := h.2 q hq'
  have hne : q.b ≠ c := by
   intro e
   exact hok.2.1 (e ▸ List.mem_of_getElem? hc)
  exact hok.mono (fun h => h) (fun _ h => h) (hoth _ hne)
def Fz.row (F : Fz) (c : Nat) (us : List Value) : Fz := fun b o => if b = c then us[o]? else F b o
theorem Mem.row_le (hm : Mem E B F R blks w) (us : List Value) : F.le (F.row w.heap.size us) := fun b o v h => by
 have := hm.F_lt h
 simp [Fz.row, Nat.ne_of_lt this, h]
theorem Mem.row (hm : Mem E B F R blks w) {us vs : List Value} (T : TypeId) (h1 : ∀ v ∈ us, v.oneCell' = true) (hp : ∀ (j : Nat) u, us[j]? = some u → vs[j]? = some u) :
  Mem E B (F.row w.heap.size us) R blks (World.new w vs T) where
 os := hm.os
 tape := hm.tape
 output := hm.output
 drn := hm.drn
 size := by rw [new_size]; have := hm.size; omega
 pr := fun b hb => by
  obtain ⟨h2, h3⟩ := hm.pr b hb
  exact ⟨h2, by rw [new_old (by have := hm.size; omega)]; exact h3⟩
 fz := fun b o v h => by
  unfold Fz.row at h
  split at h
  ·rename_i e; subst e
   exact ⟨by simp [World.cell?, new_new, hp o v h], h1 v (List.mem_of_getElem? h)⟩
  ·rw [cell_congr (new_old (hm.F_lt h))]; exact hm.fz b o v h
 fnew := fun b o v h => by
  unfold Fz.row at h
  split at h
  ·rename_i e; subst e
   exact .inr fun hp => by have := (hm.pr _ hp).1; have := hm.size; omega
  ·exact hm.fnew b o v h
 fold := hm.fold.trans' (hm.row_le us)
 rnew := hm.rnew
 rold := hm.rold
 bound := fun c hc => by rw [new_size]; have := hm.bound c hc; omega
 glob := hm.glob.mono (hm.row_le us)
 len := hm.len
 nd := hm.nd
 blk := fun i c b hc hb => (hm.blk i c b hc hb).mono (hm.row_le us) (Rle.refl R) (fun o ho => by
   have := hm.bound c (List.mem_of_getElem? hc)
   simp [Fz.row, Nat.ne_of_lt this, ho]) (new_old (hm.bound c (List.mem_of_getElem? hc)))
 mks := fun c hc => by
  obtain ⟨h2, h3, h4⟩ := hm.mks c hc
  exact ⟨by rw [new_old (Array.getElem?_eq_some_iff.1 h2).1]; exact h2, h3, h4⟩
 mnd := hm.mnd
theorem Owned.row (hm : Mem E B F R blks w) {us vs : List Value} {T : TypeId} {l m : List Occ} (h : Owned B.Pr F R w (l ++ occB w R blks))
  (hm' : m = [] ∨ ∃ k len cap, m = [⟨k, w.heap.size, 0, len, cap, none⟩] ∧ 0 < k ∧ us.length = len * k ∧ cap * k ≤ vs.length ∧ ∀ u ∈ vs, u.oneCell' = true) :
  Owned B.Pr (F.row w.heap.size us) R (World.new w vs T) ((m ++ l) ++ occB (World.new w vs T) R blks) := by
 rw [occB_congr R blks (fun c hc => new_old (hm.bound c hc))]
 have hlt : ∀ q ∈ l ++ occB w R blks, q.b ≠ w.heap.size := fun q hq => Nat.ne_of_lt (h.2 q hq).lt
 have hold : ∀ q ∈ l ++ occB w R blks, OccOk B.Pr (F.row w.heap.size us) R (World.new w vs T) q := fun q hq =>
  (h.2 q hq).mono (fun h => h) (fun o ho => by simp [Fz.row, hlt q hq, ho]) (new_old (h.2 q hq).lt)
 have hz : cnt w.heap.size (l ++ occB w R blks) = 0 := by
  unfold cnt
  rw [List.countP_eq_zero]
  intro q hq
  simpa using hlt q hq
 rcases hm' with rfl | ⟨k, len, cap, rfl, hk, hl, hc, hv1⟩
 ·exact ⟨fun c => by simpa using h.1 c, fun q hq => hold q (by simpa using hq)⟩
 ·refine ⟨fun c => ?_, fun q hq => ?_⟩
  ·have := h.1 c
   by_cases e : w.heap.size = c
   ·subst e
    have e2 : cnt w.heap.size [(⟨k, w.heap.size, 0, len, cap, none⟩ : Occ)] = 1 := by simp [cnt]
    simp at hz
    simp only [cnt_append, e2]; omega
   ·have e2 : cnt c [(⟨k, w.heap.size, 0, len, cap, none⟩ : Occ)] = 0 := by simp [cnt, e]
    simp only [cnt_append, e2] at this ⊢; omega
  ·simp only [List.cons_append, List.nil_append, List.mem_cons] at hq
   rcases hq with rfl | hq
   ·refine ⟨fun hp => by have := (hm.pr _ hp).1; have := hm.size; simp at *; omega, fun hin => by have := hm.bound _ hin; simp at this, ⟨hk, rfl⟩, fun o ho => ?_, vs.toArray, T, new_new, by simpa using hc, by simpa using hv1⟩
    simp only [Fz.row, if_true]
    exact List.getElem?_eq_none (by simp at ho; omega)
   ·exact hold q hq
def Fz.put (F : Fz) (b n : Nat) (us : List Value) : Fz := fun x y => if x = b ∧ n ≤ y ∧ y < n + us.length then us[y - n]? else F x y
theorem put_le {q : Occ} (hq : OccOk B.Pr F R w q) (us : List Value) : F.le (F.put q.b (q.o + q.len * q.k) us) := fun b o v h => by
 unfold Fz.put
 split
 ·rename_i hc
  obtain ⟨rfl, h1, _⟩ := hc
  rw [hq.2.2.2.1 o h1] at h; simp at h
 ·exact h
theorem splice_get {vs us : List Value} {n j : Nat} (h : n + us.length ≤ vs.length) : (vs.take n ++ us ++ vs.drop (n + us.length))[j]? = if n ≤ j ∧ j < n + us.length then us[j - n]? else vs[j]? := by
 by_cases h1 : j < n
 ·rw [List.append_assoc, List.getElem?_append_left (by simp; omega), List.getElem?_take, if_pos h1, if_neg (by omega)]
 ·by_cases h2 : j < n + us.length
  ·rw [if_pos ⟨by omega, h2⟩, List.getElem?_append_left (by simp; omega), List.getElem?_append_right (by simp; omega)]
   simp [Nat.min_eq_left (by omega : n ≤ vs.length)]
  ·rw [if_neg (by omega), List.getElem?_append_right (by simp; omega), List.getElem?_drop]
   congr 1
   simp [Nat.min_eq_left (by omega : n ≤ vs.length)]; omega
theorem Mem.put (hm : Mem E B F R blks w) {q : Occ} (hq : OccOk B.Pr F R w q) {us : List Value} {vs : Array Value} {T : TypeId} (hh : w.heap[q.b]? = some (.cells vs T (0, 0)))
  (h1 : ∀ v ∈ us, v.oneCell' = true) (hle : q.o + q.len * q.k + us.length ≤ vs.size) :
  Mem E B (F.put q.b (q.o + q.len * q.k) us) R blks (w.setRow q.b (vs.toList.take (q.o + q.len * q.k) ++ us ++ vs.toList.drop (q.o + q.len * q.k + us.length)).toArray) := by
 have hoth : ∀ x, x ≠ q.b → (w.setRow q.b (vs.toList.take (q.o + q.len * q.k) ++ us ++ vs.toList.drop (q.o + q.len * q.k + us.length)).toArray).heap[x]? = w.heap[x]? := fun x hx => setRow_other w q.b x _ hx
 exact {
  os := hm.os, tape := hm.tape, output := hm.output, drn := hm.drn
  size := by simpa using hm.size
  pr := fun b hb => by
   obtain ⟨h2, h3⟩ := hm.pr b hb
   exact ⟨h2, by rw [hoth b (by rintro rfl; exact hq.1 hb)]; exact h3⟩
  fz := fun b o v h => by
   by_cases hb : b = q.b
   ·subst hb
    rw [cell_setRow_same w q.b o vs _ T _ hh]
    have e := splice_get (vs := vs.toList) (us := us) (n := q.o + q.len * q.k) (j := o) (by simpa using hle)
    simp only [List.getElem?_toArray]
    rw [e]
    unfold Fz.put at h
    split at h
    ·rename_i hc
     rw [if_pos hc.2]
     exact ⟨h, h1 v (List.mem_of_getElem? h)⟩
    ·rename_i hc
     rw [if_neg (fun hc' => hc ⟨rfl, hc'⟩)]
     have := hm.fz _ _ _ h
     refine ⟨?_, this.2⟩
     have h3 := this.1
     simp [World.cell?, hh] at h3
     simpa using h3
   ·have h' : F b o = some v := by
     unfold Fz.put at h
     rw [if_neg (fun hc => hb hc.1)] at h
     exact h
    rw [cell_congr (hoth b hb)]; exact hm.fz b o v h'
  fnew := fun b o v h => by
   unfold Fz.put at h
   split at h
   ·rename_i hc; exact .inr (hc.1 ▸ hq.1)
   ·exact hm.fnew b o v h
  fold := hm.fold.trans' (put_le hq us)
  rnew := hm.rnew, rold := hm.rold
  bound := fun x hx => by simpa using hm.bound x hx
  glob := hm.glob.mono (put_le hq us)
  len := hm.len
  nd := hm.nd
  blk := fun i c b hc hb => by
   have hne : c ≠ q.b := by rintro rfl; exact hq.2.1 (List.mem_of_getElem? hc)
   exact (hm.blk i c b hc hb).mono (put_le hq us) (Rle.refl R) (fun o ho => by
    unfold Fz.put; rw [if_neg (fun h => hne h.1)]; exact ho) (hoth c hne)
  mks := fun x hx => by
   obtain ⟨h2, h3, h4⟩ := hm.mks x hx
   exact ⟨by rw [hoth x (by rintro rfl; rw [hh] at h2; simp at h2)]; exact h2, h3, h4⟩
  mnd := hm.mnd }
theorem Owned.put (hm : Mem E B F R blks w) {q : Occ} {us : List Value} {vs : Array Value} {T : TypeId} {l : List Occ} {n : Nat} (hh : w.heap[q.b]? = some (.cells vs T (0, 0)))
  (h : Owned B.Pr F R w (q :: (l ++ occB w R blks))) (hl : us.length = n * q.k) (hn : q.len + n ≤ q.cap) (h1 : ∀ u ∈ us, u.oneCell' = true) :
  Owned B.Pr (F.put q.b (q.o + q.len * q.k) us) R (w.setRow q.b (vs.toList.take (q.o + q.len * q.k) ++ us ++ vs.toList.drop (q.o + q.len * q.k + us.length)).toArray)
   (([⟨q.k, q.b, q.o, q.len + n, q.cap, none⟩] ++ l) ++ occB (w.setRow q.b (vs.toList.take (q.o + q.len * q.k) ++ us ++ vs.toList.drop (q.o + q.len * q.k + us.length)).toArray) R blks) := by
 have hq := h.2 q (by simp)
 have hoth : ∀ x, x ≠ q.b → (w.setRow q.b (vs.toList.take (q.o + q.len * q.k) ++ us ++ vs.toList.drop (q.o + q.len * q.k + us.length)).toArray).heap[x]? = w.heap[x]? := fun x hx => setRow_other w q.b x _ hx
 have hsz : q.o + q.cap * q.k ≤ vs.size ∧ ∀ v ∈ vs.toList, v.oneCell' = true := by
  obtain ⟨_, _, _, _, vs', T', h5, h6⟩ := hq
  rw [hh] at h5
  simp at h5
  rw [h5.1]; exact ⟨h6.1, h6.2.1⟩
 obtain ⟨hsz, hvone⟩ := hsz
 have hmul : q.len * q.k + n * q.k ≤ q.cap * q.k := by rw [← Nat.add_mul]; exact Nat.mul_le_mul_right _ hn
 rw [occB_congr R blks (fun c hc => hoth c (by rintro rfl; exact hq.2.1 hc))]
 have hz : cnt q.b (l ++ occB w R blks) = 0 := by
  have := h.1 q.b
  have e : cnt q.b (q :: (l ++ occB w R blks)) = 1 + cnt q.b (l ++ occB w R blks) := by simp [cnt]; omega
  omega
 have hne : ∀ p ∈ l ++ occB w R blks, p.b ≠ q.b := fun p hp e => by
  have := List.countP_eq_zero.1 hz p hp
  simp [e] at this
 have hold : ∀ p ∈ l ++ occB w R blks, OccOk B.Pr (F.put q.b (q.o + q.len * q.k) us) R (w.setRow q.b (vs.toList.take (q.o + q.len * q.k) ++ us ++ vs.toList.drop (q.o + q.len * q.k + us.length)).toArray) p := fun p hp =>
  (h.2 p (by simp at hp ⊢; exact .inr hp)).mono (fun h => h) (fun o ho => by unfold Fz.put; rw [if_neg (fun h => hne p hp h.1)]; exact ho) (hoth _ (hne p hp))
 have hcnt : ∀ c, cnt c (l ++ occB w R blks) ≤ 1 := fun c => by
  have := h.1 c
  have e : cnt c (l ++ occB w R blks) ≤ cnt c (q :: (l ++ occB w R blks)) := by unfold cnt; rw [List.countP_cons]; omega
  omega
 refine ⟨fun c => ?_, fun p hp => ?_⟩
 ·by_cases e : q.b = c
  ·subst e
   simp only [List.append_assoc, cnt_append] at hz ⊢
   have e2 : cnt q.b [(⟨q.k, q.b, q.o, q.len + n, q.cap, none⟩ : Occ)] = 1 := by simp [cnt]
   rw [e2]; omega
  ·have := hcnt c
   have e2 : cnt c [(⟨q.k, q.b, q.o, q.len + n, q.cap, none⟩ : Occ)] = 0 := by simp [cnt, e]
   simp only [List.append_assoc, cnt_append, e2] at this ⊢; omega
 ·simp only [List.cons_append, List.nil_append, List.mem_cons] at hp
  rcases hp with rfl | hp
  ·refine ⟨hq.1, hq.2.1, hq.2.2.1, fun o ho => ?_, _, T, setRow_heap w q.b vs _ T _ hh, ?_⟩
   ·simp only at ho
    have e3 : (q.len + n) * q.k = q.len * q.k + n * q.k := Nat.add_mul _ _ _
    unfold Fz.put
    rw [if_neg (by rw [hl]; omega)]
    exact hq.2.2.2.1 o (by omega)
   ·refine ⟨by simp; omega, fun u hu => ?_, fun t ht => (nomatch (show none = some t from ht))⟩
    simp only [List.mem_append] at hu
    rcases hu with (hu | hu) | hu
    ·exact hvone u (List.mem_of_mem_take hu)
    ·exact h1 u hu
    ·exact hvone u (List.mem_of_mem_drop hu)
  ·exact hold p hp
theorem Mem.draw (hm : Mem E B F R blks w) : Mem E B F R blks { w with drawn := w.drawn + 1 } :=
 {
  os := hm.os, tape := hm.tape, output := hm.output, drn := fun h => Nat.le_succ_of_le (hm.drn h), size := hm.size, pr := hm.pr, fz := hm.fz, fnew := hm.fnew, fold := hm.fold, rnew := hm.rnew, rold := hm.rold, mks := hm.mks, mnd := hm.mnd, bound := hm.bound, glob := hm.glob, len := hm.len, nd := hm.nd,
  blk := fun i c b h h' => (hm.blk i c b h h').mono (Fz.le_refl F) (Rle.refl R) (fun _ h => h) rfl }
theorem Owned.draw {Pr : Nat → Prop} {l : List Occ} (h : Owned Pr F R w (l ++ occB w R blks)) : Owned Pr F R { w with drawn := w.drawn + 1 } (l ++ occB { w with drawn := w.drawn + 1 } R blks) := by
 rw [occB_congr (w := w) (w' := { w with drawn := w.drawn + 1 }) R blks (fun _ _ => rfl)]
 exact ⟨h.1, fun q hq => (h.2 q hq).mono (fun h => h) (fun _ h => h) rfl⟩
end
end Go.Ve
namespace Go.Ve
inductive MEff where
 | none
 | store (b off : Nat) (cells : List PV)
 | new (cells : List PV)
 | newB (T e : TypeId) (pre : List PV)
structure Eff where
 strip : Option Tmp := none
 mem : MEff := .none
inductive Con where
 | pure (R : List PV → PV → Prop)
 | read (R : List PV → List Blk → PV → Prop)
 | gen (T : PT) (mono : ∀ args B K K', (∀ r b, K r b → K' r b) → T args B K → T args B K')
 | iter (T : Yd → PT)
def stripO : Operand → Option Tmp
 | .tmp t => some t
 | _ => none
def mApply (e : MEff) (blks : List Blk) : List Blk :=
 match e with
 | .none => blks
 | .store b off vs => match blks[b]? with
  | some (.live cs) => blks.set b (.live (splice cs off vs))
  | _ => blks
 | .new cs => blks ++ [.live cs]
 | .newB T e pre => blks ++ [.bld T e pre ⟨#[]⟩]
def stripAt (tmps : List PV) : Option Tmp → List PV
 | none => tmps
 | some t => match tmps[t]? with | some v => tmps.set t v.strip | none => tmps
def app (o : Oper) (v : PV) (e : Eff) (st : St) : St := ({ tmps := stripAt st.tmps e.strip, blks := mApply e.mem st.blks } : St).put o.dst v
def zsz (P : Program) (e : TypeId) : Option Nat := (zeroV P e).bind fun z => if z.cells.toList.all (·.oneCell') = true then some z.cells.size else none
def roomy (n b : Nat) : Bool := decide (n * (b + 1) ≤ 274877906944)
def isConst : Operand → Bool
 | .const _ => true
 | _ => false
def byteP (c : UInt8) : PV := .val (.int .u8 c.toNat)
def plainCell (c : PV) : Bool := c.noref && c.one && c.solid
def rowOf (P : Program) (e : TypeId) (u : Option TypeDesc) (M : List Blk) (y : PV) : Option (List PV) := match u, y with
 | some (.slice _), .sl k ys _ => if k = sz P e ∨ ys = [] then some ys else none
 | some (.slice _), .slt k ys _ => if k = sz P e then some ys else none
 | some (.slice _), .rs _ b off len _ => match M[b]? with
  | some (.live cs) => if off + len * sz P e ≤ cs.length ∧ ((cs.drop off).take (len * sz P e)).all plainCell = true then some (chunks (sz P e) (stripL ((cs.drop off).take (len * sz P e))) len) else none
  | _ => none
 | some .string, .val (.string s) => if sz P e = 1 then some (s.data.toList.map byteP) else none
 | _, _ => none
def appP (P : Program) (e : TypeId) (M : List Blk) (s : Option Tmp) (x : PV) (ys : List PV) : Option (PV × Eff) := match x with
 | .sl k xs own => if ((k = sz P e ∧ own = true) ∨ k = 0) ∧ roomy (xs.length + ys.length) (byt P e) then some (.sl (sz P e) (xs ++ ys) true, { strip := s }) else none
 | .slt k [] [] => if k = 0 ∧ ¬ ys = [] ∧ roomy ys.length (byt P e) then some (.sl (sz P e) ys true, {}) else none
 | .rs _ b off len cap => match M[b]? with
  | some (.live cs) => if roomy (len + ys.length) (byt P e) then
    if len + ys.length ≤ cap ∧ off + (len + ys.length) * sz P e ≤ cs.length then some (.rs (sz P e) b off (len + ys.length) cap, { mem := .store b (off + len * sz P e) (stripL (ys.flatMap PV.cells)) }) else none
   else none
  | _ => none
 | _ => none
def outfE (P : Program) (ev : Operand → PV) (M : List Blk) (ops : RI) (dst : Option Tmp) (op : Op) : Option (PV × Eff) :=
 match op with
 | .move x => if feeds ops dst then some (ev x, { strip := stripO x }) else some ((ev x).strip, {})
 | .assign x => some (ev x, { strip := stripO x })
 | .alloc t => match zeroP P t with
  | some z => if z.solid then some (.ptr M.length 0, { mem := .new z.cells }) else none
  | none => none
 | .box _ x => if (ev x).solid then some (.ptr M.length 0, { strip := stripO x, mem := .new (ev x).cells }) else none
 | .build t parts => (buildP P t (parts.toList.map fun (i, x) => (i, (ev x).strip))).map fun r => (r.strip, {})
 | .buildSlice t n parts => match P.underlying t with
  | some (.slice e) =>
   if n = parts.size ∧ n * sz P e ≤ 16777216 ∧ ¬ sz P e = 0 ∧ zsz P e = some (sz P e) ∧ parts.toList.map (·.1) = List.range n ∧ ((parts.toList.map fun p => (ev p.2).strip).all fun x => x.free && x.solid && decide (x.cells.length = sz P e)) = true then some (.sl (sz P e) (parts.toList.map fun p => (ev p.2).strip) true, {}) else none
  | _ => none
 | .store t a x => match ev a with
  | .ptr b off => match M[b]? with
   | some (.live cs) => if ¬ sz P t = 0 ∧ (ev x).solid ∧ (ev x).cells.length = sz P t ∧ off + (ev x).cells.length ≤ cs.length then some (.junk, { strip := stripO x, mem := .store b off (ev x).cells }) else none
   | _ => none
  | _ => none
 | .makeSlice t l c => match P.underlying t, ev l, ev c with
  | some (.slice e), .val (.int .i64 n), .val (.int .i64 m) =>
   if 0 ≤ n ∧ n ≤ m ∧ ¬ sz P e = 0 ∧ zsz P e = some (sz P e) ∧ roomy m.toNat (byt P e) then
    if isConst l = true ∧ n = 0 then some (.sl (sz P e) [] true, {})
    else match zeroP P e with
     | some z => if z.solid then some (.rs (sz P e) M.length 0 n.toNat m.toNat, { mem := .new ((List.range (m.toNat * sz P e)).map fun j => z.cells.getD (j % sz P e) .junk) }) else none
     | none => none
   else none
  | _, _, _ => none
 | .call { callee := .builtin .append, args, argTypes } => match args.toList, argTypes.toList with
  | [x, y], [t, t'] => match P.underlying t with
   | some (.slice e) => match rowOf P e (P.underlying t') (seen ops.dr M []) (ev y) with
    | some ys => if ¬ sz P e = 0 ∧ zsz P e = some (sz P e) then appP P e (seen ops.dr M []) (stripO x) (ev x) ys else none
    | none => none
   | _ => none
  | _, _ => none
 | .call { callee := .builtin .clear, args, argTypes } => match args.toList, argTypes.toList with
  | [x], [t] => match P.underlying t, ev x with
   | some (.slice e), .rs k b off len _ => match M[b]? with
    | some (.live cs) => match zeroP P e with
     | some z => if z.solid = true ∧ k = sz P e ∧ ¬ sz P e = 0 ∧ zsz P e = some (sz P e) ∧ off + len * sz P e ≤ cs.length then some (.tuple [], { mem := .store b off ((List.range (len * sz P e)).map fun j => z.cells.getD (j % sz P e) .junk) }) else none
     | none => none
    | _ => none
   | _, _ => none
  | _, _ => none
 | _ => (qvalE P ev M op).map fun r => (r.strip, {})
def outf (E : Env) (ops : RI) (st : St) (o : Oper) : Option (PV × Eff) := outfE E.P (aev E st) st.blks ops o.dst o.op
section
variable {E : Env} {B : Base} {F : Fz} {R : List Nat} {st : St} {a : Act} {w : World}
theorem stripAt_rep (h : Sim E B F R st a w) (s : Option Tmp) : RepL F R (stripAt st.tmps s) a.tmps.toList := by
 unfold stripAt
 cases s with
 | none => exact h.tmps
 | some t =>
  simp only
  cases ht : st.tmps[t]? with
  | none => exact h.tmps
  | some v =>
   obtain ⟨u, hu, hr⟩ := h.tmps.get t v ht
   have := RepL.set hr.strip h.tmps t
   simp only
   have e : a.tmps.toList.set t u = a.tmps.toList := by
    apply List.ext_getElem?; intro j
    by_cases hj : t = j
    ·subst hj; rw [List.getElem?_set_self (by obtain ⟨h, _⟩ := List.getElem?_eq_some_iff.1 hu; exact h)]; exact hu.symm
    ·rw [List.getElem?_set_ne hj]
   rwa [e] at this
theorem put_toList (a : Act) (d : Option Tmp) (v : Value) : (a.put d v).tmps.toList = match d with | some d => a.tmps.toList.set d v | none => a.tmps.toList := by
 cases d <;> simp [Act.put]
theorem put_defers (a : Act) (d : Option Tmp) (v : Value) : (a.put d v).defers = a.defers := by cases d <;> rfl
theorem Sim.fill (h : Sim E B F R st a w) {F' : Fz} {R' : List Nat} {w' : World} {blks' : List Blk} {s d : Option Tmp} {r : PV} {v : Value} (hm : Mem E B F' R' blks' w') (hF : F.le F') (hR : Rle R R') (hr : Rep F' R' r v) (ho : occ r v = [])
  (hown : Owned B.Pr F' R' w' (occL (stripAt st.tmps s) a.tmps.toList ++ occB w' R' blks')) :
  Sim E B F' R' ({ tmps := stripAt st.tmps s, blks := blks' : St }.put d r) (a.put d v) w' := by
 have h1 := (stripAt_rep h s).mono hF hR
 have hl : a.tmps.toList.length = (stripAt st.tmps s).length := h1.length
 refine ⟨?_, ?_, by rw [put_defers]; exact h.defers, ?_⟩
 ·cases d <;> exact hm
 ·rw [put_toList]
  cases d with
  | none => exact h1
  | some d => exact RepL.set hr h1 d
 ·rw [put_toList]
  cases d with
  | none => exact hown
  | some d => exact hown.sub (Sub.append (occL_set_none _ _ _ _ _ hl ho) (Sub.refl _))
theorem stripAt_sub (h : Sim E B F R st a w) (s : Option Tmp) : Sub (occL (stripAt st.tmps s) a.tmps.toList) (occL st.tmps a.tmps.toList) := by
 unfold stripAt
 cases s with
 | none => exact Sub.refl _
 | some t =>
  simp only
  cases ht : st.tmps[t]? with
  | none => exact Sub.refl _
  | some v =>
   obtain ⟨u, hu, hr⟩ := h.tmps.get t v ht
   have e : a.tmps.toList.set t u = a.tmps.toList := by
    apply List.ext_getElem?; intro j
    by_cases hj : t = j
    ·subst hj; rw [List.getElem?_set_self (by obtain ⟨h, _⟩ := List.getElem?_eq_some_iff.1 hu; exact h)]; exact hu.symm
    ·rw [List.getElem?_set_ne hj]
   have := occL_set_none st.tmps a.tmps.toList t v.strip u h.tmps.length (occ_strip v u)
   rwa [e] at this
theorem stripAt_moved (h : Sim E B F R st a w) (x : Operand) : Sub (occL (stripAt st.tmps (stripO x)) a.tmps.toList ++ occ (aev E st x) (a.eval x)) (occL st.tmps a.tmps.toList) := by
 cases x with
 | tmp t =>
  simp only [stripO, stripAt, aev, Act.eval]
  cases ht : st.tmps[t]? with
  | none =>
   have e1 : st.tmps.getD t undefP = .junk := by simp [List.getD, ht, undefP]
   rw [e1, occ_free .junk _ rfl]; simp; exact Sub.refl _
  | some v =>
   obtain ⟨u, hu, hr⟩ := h.tmps.get t v ht
   have e : a.tmps.toList.set t u = a.tmps.toList := by
    apply List.ext_getElem?; intro j
    by_cases hj : t = j
    ·subst hj; rw [List.getElem?_set_self (by obtain ⟨h, _⟩ := List.getElem?_eq_some_iff.1 hu; exact h)]; exact hu.symm
    ·rw [List.getElem?_set_ne hj]
   have e1 : st.tmps.getD t undefP = v := by simp [List.getD, ht]
   have hu' : a.tmps[t]? = some u := by simpa using hu
   have e2 : a.tmps.getD t undef = u := by simp [Array.getD_eq_getD_getElem?, hu']
   rw [e1, e2]
   obtain ⟨h1, h2⟩ := occL_set st.tmps a.tmps.toList t v.strip u h.tmps.length
   rw [e] at h1 h2
   have hmem : ∀ (l : List PV) (m : List Value) (i : Nat), l[i]? = some v → m[i]? = some u → ∀ q ∈ occ v u, q ∈ occL l m := by
    intro l
    induction l with
    | nil => intro m i h; simp at h
    | cons x l ih =>
     intro m i h h' q hq
     cases m with
     | nil => simp at h'
     | cons y m =>
      cases i with
      | zero => simp at h h'; subst h; subst h'; simp [occL, hq]
      | succ i => simp [occL]; exact .inr (ih m i (by simpa using h) (by simpa using h') q hq)
   refine ⟨fun c => ?_, fun q hq => ?_⟩
   ·have := h1 c
    simp only [ht, hu, occ_strip] at this
    simp at this ⊢; omega
   ·rcases List.mem_append.1 hq with hq | hq
    ·rcases h2 q hq with h3 | h3
     ·exact h3
     ·rw [occ_strip] at h3; simp at h3
    ·exact hmem _ _ t ht hu q hq
 | const v =>
  simp only [stripO, stripAt, aev, Act.eval]
  rw [(rep_ofC (F := F) (R := R) v).2]; simp; exact Sub.refl _
 | global g =>
  simp only [stripO, stripAt, aev]
  cases E.G g <;> (rw [occ_free _ _ rfl]; simp; exact Sub.refl _)
 | func f =>
  simp only [stripO, stripAt, aev]
  rw [occ_free _ _ rfl]; simp; exact Sub.refl _
theorem Sim.fillOwn (h : Sim E B F R st a w) {F' : Fz} {R' : List Nat} {w' : World} {blks' : List Blk} {s d : Option Tmp} {r : PV} {v : Value} (hm : Mem E B F' R' blks' w') (hF : F.le F') (hR : Rle R R') (hr : Rep F' R' r v)
  (hown : Owned B.Pr F' R' w' (occ r v ++ occL (stripAt st.tmps s) a.tmps.toList ++ occB w' R' blks')) :
  Sim E B F' R' ({ tmps := stripAt st.tmps s, blks := blks' : St }.put d r) (a.put d v) w' := by
 have h1 := (stripAt_rep h s).mono hF hR
 have hl : a.tmps.toList.length = (stripAt st.tmps s).length := h1.length
 refine ⟨?_, ?_, by rw [put_defers]; exact h.defers, ?_⟩
 ·cases d <;> exact hm
 ·rw [put_toList]
  cases d with
  | none => exact h1
  | some d => exact RepL.set hr h1 d
 ·rw [put_toList]
  cases d with
  | none => exact hown.sub (Sub.append ⟨fun c => by simp [St.put], fun q hq => List.mem_append_right _ hq⟩ (Sub.refl _))
  | some d =>
   exact hown.sub (Sub.append (occL_set_le _ _ _ _ _ hl) (Sub.refl _))
end
end Go.Ve
