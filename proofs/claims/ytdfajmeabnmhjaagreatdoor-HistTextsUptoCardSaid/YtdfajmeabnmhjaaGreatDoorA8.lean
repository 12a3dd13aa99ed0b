/- weirlaw30.HistTexts: part of the proof (a value semantics for the model's code, and the functions told by it). -/
import Derived.Test.YtdfajmeabnmhjaaGreatDoorA7
set_option linter.unusedSimpArgs false
set_option linter.unusedVariables false
set_option linter.deprecated false
namespace Go.Ve
inductive CB where
 | fn (F : List PV → Option (List Prop × PV))
 | con (c : Con)
def CB.toCon : CB → Con
 | .fn F => .pure fun args r => ∃ ps, F args = some (ps, r) ∧ All ps
 | .con c => c
def conD (D : FuncId → Option CB) : FuncId → Option Con := fun g => (D g).map CB.toCon
inductive AR where
 | q (ps : List Prop) (v : PV) (e : Eff)
 | g (ps : List Prop) (W : PT) (args : List PV)
 | v (ps : List Prop) (n : Nat) (k : Option Nat) (f : Nat → PV × List Blk)
 | b (ps : List Prop) (v : PV) (ts : List Tmp)
 | no
def conj : List Prop → Prop → Prop
 | [], K => K
 | p :: ps, K => p ∧ conj ps K
def conjC (c : Bool) : List Prop → Prop → Prop
 | [], K => K
 | p :: ps, K => (c = true → p) ∧ conjC c ps K
theorem conj_iff {ps : List Prop} {K : Prop} : conj ps K ↔ All ps ∧ K := by
 induction ps with
 | nil => exact ⟨fun h => ⟨All.nil, h⟩, fun h => h.2⟩
 | cons p ps ih =>
  constructor
  ·rintro ⟨h1, h2⟩; exact ⟨.cons h1 (ih.1 h2).1, (ih.1 h2).2⟩
  ·rintro ⟨h1, h2⟩; exact ⟨h1 p (by simp), ih.2 ⟨fun q hq => h1 q (by simp [hq]), h2⟩⟩
theorem conjC_iff {c : Bool} {ps : List Prop} {K : Prop} : conjC c ps K ↔ (c = true → All ps) ∧ K := by
 induction ps with
 | nil => exact ⟨fun h => ⟨fun _ => All.nil, h⟩, fun h => h.2⟩
 | cons p ps ih =>
  constructor
  ·rintro ⟨h1, h2⟩; exact ⟨fun hc => .cons (h1 hc) ((ih.1 h2).1 hc), (ih.1 h2).2⟩
  ·rintro ⟨h1, h2⟩; exact ⟨fun hc => h1 hc p (by simp), ih.2 ⟨fun hc q hq => h1 hc q (by simp [hq]), h2⟩⟩
def inI64 (n : Int) : Prop := -9223372036854775808 ≤ n ∧ n ≤ 9223372036854775807
def arB (s : Bool) (k k' : IntKind) (n : Int) : Option (List Prop × PV) := match s, k with
 | true, .i64 => some ([IntKind.i64 = k', inI64 n], .val (.int .i64 n))
 | _, k => some ([k = k'], .val (.int k (k.wrap n)))
def cmB (k k' : IntKind) (b : Bool) : Option (List Prop × PV) := some ([k = k'], .val (.bool b))
def intB (s : Bool) (op : BinOp) (k : IntKind) (a : Int) (k' : IntKind) (b : Int) : Option (List Prop × PV) :=
 match op with
 | .add => arB s k k' (a + b)
 | .sub => arB s k k' (a - b)
 | .mul => arB s k k' (a * b)
 | .quo => some ([k = k', b ≠ 0], .val (.int k (k.wrap (a.tdiv b))))
 | .rem => some ([k = k', b ≠ 0], .val (.int k (a.tmod b)))
 | .and => some ([k = k'], .val (.int k (k.wrap (BitVec.ofInt k.bits a &&& BitVec.ofInt k.bits b).toNat)))
 | .or => some ([k = k'], .val (.int k (k.wrap (BitVec.ofInt k.bits a ||| BitVec.ofInt k.bits b).toNat)))
 | .xor => some ([k = k'], .val (.int k (k.wrap (BitVec.ofInt k.bits a ^^^ BitVec.ofInt k.bits b).toNat)))
 | .andNot => some ([k = k'], .val (.int k (k.wrap (BitVec.ofInt k.bits a &&& ~~~ BitVec.ofInt k.bits b).toNat)))
 | .shl => some ([0 ≤ b], .val (.int k (k.wrap (a * 2 ^ min b.toNat k.bits))))
 | .shr => some ([0 ≤ b], .val (.int k (a.fdiv (2 ^ min b.toNat k.bits))))
 | .eql => cmB k k' (decide (a = b))
 | .neq => cmB k k' (!decide (a = b))
 | .lss => cmB k k' (decide (a < b))
 | .leq => cmB k k' (decide (a ≤ b))
 | .gtr => cmB k k' (decide (b < a))
 | .geq => cmB k k' (decide (b ≤ a))
def strB (op : BinOp) (a b : ByteArray) : Option (List Prop × PV) :=
 match op with
 | .add => some ([a.size + b.size ≤ 9223372036854775807], .val (.string (a ++ b)))
 | .eql => some ([], .val (.bool (decide (a = b))))
 | .neq => some ([], .val (.bool (!decide (a = b))))
 | .lss => some ([], .val (.bool (Op.bytesLess a.data.toList b.data.toList)))
 | .gtr => some ([], .val (.bool (!(Op.bytesLess a.data.toList b.data.toList || decide (a = b)))))
 | .leq => some ([], .val (.bool (Op.bytesLess a.data.toList b.data.toList || decide (a = b))))
 | .geq => some ([], .val (.bool (!Op.bytesLess a.data.toList b.data.toList)))
 | _ => none
def bB (s : Bool) (op : BinOp) (x y : PV) : Option (List Prop × PV) := match x, y with
 | .val (.int k a), .val (.int k' b) => intB s op k a k' b
 | .val (.string a), .val (.string b) => strB op a b
 | _, _ => none
theorem intB_sound {s : Bool} {op : BinOp} {k k' : IntKind} {a b : Int} {ps : List Prop} {r : PV} (h : intB s op k a k' b = some (ps, r)) (hp : All ps) : ∃ v, binV op (.int k a) (.int k' b) = some v ∧ r = .val v := by
  have har : ∀ n, arB s k k' n = some (ps, r) → k = k' ∧ r = .val (.int k (k.wrap n)) := by
    intro n hn
    unfold arB at hn
    split at hn
    · simp only [Option.some.injEq, Prod.mk.injEq] at hn
      obtain ⟨rfl, rfl⟩ := hn
      have h1 : inI64 n := hp _ (by simp)
      exact ⟨hp (IntKind.i64 = k') (by simp), by rw [wrap_id h1.1 h1.2]⟩
    · simp only [Option.some.injEq, Prod.mk.injEq] at hn
      obtain ⟨rfl, rfl⟩ := hn
      exact ⟨hp _ (by simp), rfl⟩
  cases op <;> simp only [intB, cmB, reduceCtorEq, Option.some.injEq, Prod.mk.injEq] at h
  all_goals first
    | (obtain ⟨rfl, rfl⟩ := har _ h; exact ⟨_, by simp [binV, binI], rfl⟩)
    | (obtain ⟨rfl, rfl⟩ := h
       have h1 := hp _ (List.mem_cons_self ..)
       first
         | (subst h1
            first
              | (have h2 : b ≠ 0 := hp _ (List.mem_cons_of_mem _ (List.mem_cons_self ..)); refine ⟨_, ?_, rfl⟩; simp [binV, binI, h2]; done)
              | (refine ⟨_, ?_, rfl⟩; simp [binV, binI]; done))
         | (refine ⟨_, ?_, rfl⟩; simp [binV, Int.not_lt.2 h1]; done))
theorem strB_sound {op : BinOp} {a b : ByteArray} {ps : List Prop} {r : PV} (h : strB op a b = some (ps, r)) (hp : All ps) : ∃ v, binV op (.string a) (.string b) = some v ∧ r = .val v := by
 cases op <;> simp only [strB, reduceCtorEq, Option.some.injEq, Prod.mk.injEq] at h
 all_goals
  obtain ⟨rfl, rfl⟩ := h
  first
   | (have h1 := hp _ (List.mem_cons_self ..); refine ⟨_, ?_, rfl⟩; simp [binV, binS, h1]; done)
   | (refine ⟨_, ?_, rfl⟩; simp [binV, binS]; done)
theorem bB_sound {s : Bool} {P : Program} {op : BinOp} {u : TypeId} {x y : Operand} {a b : PV} {ps : List Prop} {r : PV} (h : bB s op a b = some (ps, r)) (hp : All ps) : binP P op u x y a b = some r := by
 unfold bB at h
 split at h
 ·obtain ⟨v, h1, rfl⟩ := intB_sound h hp
  simp [binP, h1]
 ·obtain ⟨v, h1, rfl⟩ := strB_sound h hp
  simp [binP, h1]
 ·simp at h
def mrg (t : Bool) (x y : PV) : PV := match x, y with
 | .val (.bool p), .val (.bool q) => .val (.bool (bif t then p else q))
 | .val (.int k a), .val (.int k' b) => if k = k' then .val (.int k (bif t then a else b)) else bif t then .val (.int k a) else .val (.int k' b)
 | .val (.string a), .val (.string b) => .val (.string (bif t then a else b))
 | x, y => bif t then x else y
theorem mrg_eq (t : Bool) (x y : PV) : mrg t x y = if t then x else y := by
 unfold mrg
 split
 ·cases t <;> rfl
 ·split
  ·rename_i h; subst h; cases t <;> rfl
  ·cases t <;> rfl
 ·cases t <;> rfl
 ·cases t <;> rfl
def zD (P : Program) (e : TypeId) : PV := match zeroP P e with | some z => z | none => .junk
def ixB (P : Program) (u : Option TypeDesc) (ix x : PV) : Option (List Prop × PV) := match ix, x, u with
 | .val (.int _ i), .val (.string s), some .string => some ([0 ≤ i ∧ i < s.size], .val (.int .u8 (bt s i)))
 | _, _, _ => none
theorem ixB_sound {P : Program} {u : TypeId} {x ix : PV} {ps : List Prop} {r : PV} (h : ixB P (P.underlying u) ix x = some (ps, r)) (hp : All ps) : indexP P u x ix = some r := by
 unfold ixB at h
 split at h
 ·rename_i hu
  simp only [Option.some.injEq, Prod.mk.injEq] at h
  obtain ⟨rfl, rfl⟩ := h
  have h1 := hp _ (List.mem_cons_self ..)
  simp [indexP, hu, idx, h1, bt]
 ·simp at h
def iaB (P : Program) (u : Option TypeDesc) (ix x : PV) : Option (List Prop × PV) := match ix, x, u with
 | .val (.int _ i), .sl k xs _, some (.slice e) => some ([sz P e ≠ 0, k = sz P e, 0 ≤ i ∧ i < xs.length], .vptr (xs.getD i.toNat (zD P e)).cells 0)
 | .val (.int _ i), .slt k xs _, some (.slice e) => some ([sz P e ≠ 0, k = sz P e, 0 ≤ i ∧ i < xs.length], .vptr (xs.getD i.toNat (zD P e)).cells 0)
 | .val (.int _ i), .rs _ b off len _, some (.slice e) => some ([sz P e ≠ 0, 0 ≤ i ∧ i < len], .ptr b (off + i.toNat * sz P e))
 | .val (.int _ i), .ptr b off, some (.array n e) => some ([sz P e ≠ 0, 0 ≤ i ∧ i < n], .ptr b (off + i.toNat * sz P e))
 | .val (.int _ i), .vptr cs off, some (.array n e) => some ([sz P e ≠ 0, 0 ≤ i ∧ i < n], .vptr cs (off + i.toNat * sz P e))
 | _, _, _ => none
def iaP (P : Program) (u : TypeId) (x ix : PV) : Option PV := match ix, P.underlying u with
  | .val (.int _ i), some (.slice e) => if sz P e = 0 then none else match x with
   | .sl k xs _ => if k = sz P e then match idx i xs.length with
     | some j => match xs[j]? with | some v => some (.vptr v.cells 0) | none => none
     | none => none
    else none
   | .slt k xs _ => if k = sz P e then match idx i xs.length with
     | some j => match xs[j]? with | some v => some (.vptr v.cells 0) | none => none
     | none => none
    else none
   | .rs _ b off len _ => match idx i len with
    | some j => some (.ptr b (off + j * sz P e))
    | none => none
   | _ => none
  | .val (.int _ i), some (.array n e) => if sz P e = 0 then none else match idx i n, x with
   | some j, .ptr b off => some (.ptr b (off + j * sz P e))
   | some j, .vptr cs off => some (.vptr cs (off + j * sz P e))
   | _, _ => none
  | _, _ => none
theorem iaB_sound {P : Program} {u : TypeId} {x ix : PV} {ps : List Prop} {r : PV} (h : iaB P (P.underlying u) ix x = some (ps, r)) (hp : All ps) : iaP P u x ix = some r := by
 unfold iaB at h
 split at h
 ·rename_i k i k' xs o e hu
  simp only [Option.some.injEq, Prod.mk.injEq] at h
  obtain ⟨rfl, rfl⟩ := h
  have h1 := hp _ (List.mem_cons_self ..)
  have h2 := hp (k' = sz P e) (by simp)
  have h3 := hp (0 ≤ i ∧ i < xs.length) (by simp)
  have h4 : i.toNat < xs.length := by omega
  simp [iaP, hu, idx, h1, h2, h3, h4, List.getD]
 ·rename_i k i k' xs o e hu
  simp only [Option.some.injEq, Prod.mk.injEq] at h
  obtain ⟨rfl, rfl⟩ := h
  have h1 := hp _ (List.mem_cons_self ..)
  have h2 := hp (k' = sz P e) (by simp)
  have h3 := hp (0 ≤ i ∧ i < xs.length) (by simp)
  have h4 : i.toNat < xs.length := by omega
  simp [iaP, hu, idx, h1, h2, h3, h4, List.getD]
 ·rename_i k i kk' b off len c e hu
  simp only [Option.some.injEq, Prod.mk.injEq] at h
  obtain ⟨rfl, rfl⟩ := h
  have h1 := hp _ (List.mem_cons_self ..)
  have h3 := hp (0 ≤ i ∧ i < len) (by simp)
  simp [iaP, hu, idx, h1, h3]
 ·rename_i k i b off n e hu
  simp only [Option.some.injEq, Prod.mk.injEq] at h
  obtain ⟨rfl, rfl⟩ := h
  have h1 := hp _ (List.mem_cons_self ..)
  have h3 := hp (0 ≤ i ∧ i < n) (by simp)
  simp [iaP, hu, idx, h1, h3]
 ·rename_i k i b off n e hu
  simp only [Option.some.injEq, Prod.mk.injEq] at h
  obtain ⟨rfl, rfl⟩ := h
  have h1 := hp _ (List.mem_cons_self ..)
  have h3 := hp (0 ≤ i ∧ i < n) (by simp)
  simp [iaP, hu, idx, h1, h3]
 ·simp at h
def ldB (P : Program) (M : List Blk) (t : TypeId) (g : Option Bool) (a : PV) : Option (List Prop × PV) := match g, a with
 | some false, .vptr cs off => some ([off < cs.length], cs.getD off (zD P t))
 | some true, .vptr cs off => some ([off + sz P t ≤ cs.length], .agg ((cs.drop off).take (sz P t)))
 | some false, .ptr b off => match M[b]? with
  | some (.live cs) => some ([off < cs.length], cs.getD off (zD P t))
  | some (.bld _ _ cs _) => some ([off < cs.length], cs.getD off (zD P t))
  | _ => none
 | some true, .ptr b off => match M[b]? with
  | some (.live cs) => some ([off + sz P t ≤ cs.length], .agg ((cs.drop off).take (sz P t)))
  | _ => none
 | _, _ => none
theorem take_one {cs : List PV} {off : Nat} {z : PV} (h1 : off < cs.length) : (cs.drop off).take 1 = [cs.getD off z] := by
 have e := List.drop_eq_getElem_cons h1
 rw [e]
 simp [List.getD, h1, -List.getElem_cons_drop]
theorem ldB_sound {P : Program} {M : List Blk} {t : TypeId} {a : PV} {ps : List Prop} {r : PV} (h : ldB P M t (aggT P t) a = some (ps, r)) (hp : All ps) : loadP P M t a = some r := by
 unfold ldB at h
 split at h
 ·rename_i cs off hg
  simp only [Option.some.injEq, Prod.mk.injEq] at h
  obtain ⟨rfl, rfl⟩ := h
  have h1 := hp (off < cs.length) (by simp)
  unfold loadP
  simp only [hg, cellsAt]
  rw [if_pos (show off + 1 ≤ cs.length from h1)]; simp only [take_one (z := zD P t) h1]
 ·rename_i cs off hg
  simp only [Option.some.injEq, Prod.mk.injEq] at h
  obtain ⟨rfl, rfl⟩ := h
  have h1 := hp (off + sz P t ≤ cs.length) (by simp)
  unfold loadP
  simp only [hg, cellsAt]
  rw [if_pos h1]; rfl
 ·rename_i b off hg
  split at h
  ·rename_i cs hb
   simp only [Option.some.injEq, Prod.mk.injEq] at h
   obtain ⟨rfl, rfl⟩ := h
   have h1 := hp (off < cs.length) (by simp)
   unfold loadP
   simp only [hg, cellsAt, hb]
   rw [if_pos (show off + 1 ≤ (Blk.live cs).cells.length from h1)]; simp only [Blk.cells, take_one (z := zD P t) h1]
  ·rename_i T e cs s hb
   simp only [Option.some.injEq, Prod.mk.injEq] at h
   obtain ⟨rfl, rfl⟩ := h
   have h1 := hp (off < cs.length) (by simp)
   unfold loadP
   simp only [hg, cellsAt, hb]
   rw [if_pos (show off + 1 ≤ (Blk.bld T e cs s).cells.length from h1)]; simp only [Blk.cells, take_one (z := zD P t) h1]
  ·simp at h
 ·rename_i b off hg
  split at h
  ·rename_i cs hb
   simp only [Option.some.injEq, Prod.mk.injEq] at h
   obtain ⟨rfl, rfl⟩ := h
   have h1 := hp (off + sz P t ≤ cs.length) (by simp)
   unfold loadP
   simp only [hg, cellsAt, hb]
   rw [if_pos (show off + sz P t ≤ (Blk.live cs).cells.length from h1)]; rfl
  ·simp at h
 ·simp at h
def loB : Option PV → Option Int
 | none => some 0
 | some (.val (.int _ l)) => some l
 | _ => none
def hiB (len : Nat) : Option PV → Option Int
 | none => some len
 | some (.val (.int _ h)) => some h
 | _ => none
def slB (P : Program) (u : Option TypeDesc) (x : PV) (lo hi : Option PV) : Option (List Prop × PV) := match x, u with
 | .val (.string s), some .string => match loB lo, hiB s.size hi with
  | some l, some h => some ([0 ≤ l ∧ l ≤ h ∧ h ≤ s.size], .val (.string (s.extract l.toNat h.toNat)))
  | _, _ => none
 | .sl k xs own, some (.slice e) => match loB lo, hiB xs.length hi with
  | some l, some h => some ([sz P e ≠ 0, k = sz P e ∨ xs = [], 0 ≤ l ∧ l ≤ h ∧ h ≤ xs.length], slRes own lo.isSome hi.isSome (zOf k (sz P e)) xs l.toNat h.toNat)
  | _, _ => none
 | .slt k xs ys, some (.slice e) => match loB lo, hiB xs.length hi with
  | some l, some h => some ([sz P e ≠ 0, k = sz P e, 0 ≤ l ∧ l ≤ h ∧ h ≤ xs.length + ys.length], .slt k (((xs ++ ys).take h.toNat).drop l.toNat) ((xs ++ ys).drop h.toNat))
  | _, _ => none
 | .rs _ b off len cap, some (.slice e) => match loB lo, hiB len hi with
  | some l, some h => some ([sz P e ≠ 0, 0 ≤ l ∧ l ≤ h ∧ h ≤ cap], rsRes b off l.toNat h.toNat cap (sz P e))
  | _, _ => none
 | .ptr b off, some (.array n e) => match loB lo, hiB n hi with
  | some l, some h => some ([sz P e ≠ 0, 0 ≤ l ∧ l ≤ h ∧ h ≤ n], rsRes b off l.toNat h.toNat n (sz P e))
  | _, _ => none
 | _, _ => none
def slP (P : Program) (t : TypeId) (x : PV) (lo hi : Option PV) : Option PV := match x, P.underlying t with
  | .val (.string s), some .string => match bnds s.size s.size lo hi with
   | some (l, h) => some (.val (.string (s.extract l h)))
   | none => none
  | .sl k xs own, some (.slice e) => if ¬ sz P e = 0 then if k = sz P e ∨ xs = [] then match bnds xs.length xs.length lo hi with
    | some (l, h) => some (slRes own lo.isSome hi.isSome (zOf k (sz P e)) xs l h)
    | none => none
   else none else none
  | .slt k xs ys, some (.slice e) => if ¬ sz P e = 0 then if k = sz P e then match bnds xs.length (xs.length + ys.length) lo hi with
    | some (l, h) => some (.slt k (((xs ++ ys).take h).drop l) ((xs ++ ys).drop h))
    | none => none
   else none else none
  | .rs _ b off len cap, some (.slice e) => if ¬ sz P e = 0 then match bnds len cap lo hi with
    | some (l, h) => some (rsRes b off l h cap (sz P e))
    | none => none
   else none
  | .ptr b off, some (.array n e) => if ¬ sz P e = 0 then match bnds n n lo hi with
    | some (l, h) => some (rsRes b off l h n (sz P e))
    | none => none
   else none
  | .vptr cs off, some (.array n e) => match bnds n n lo hi with
   | some (l, h) => if off + n * sz P e ≤ cs.length ∧ sz P e ≠ 0 ∧ cs.all PV.one then some (.sl (sz P e) (((chunks (sz P e) (cs.drop off) n).take h).drop l) false) else none
   | none => none
  | _, _ => none
theorem bnds_of {n c : Nat} {lo hi : Option PV} {l h : Int} (hl : loB lo = some l) (hh : hiB n hi = some h) (hr : 0 ≤ l ∧ l ≤ h ∧ h ≤ c) : bnds n c lo hi = some (l.toNat, h.toNat) := by
 have e1 : highB n c hi = some h.toNat := by
  unfold hiB at hh; unfold highB
  split at hh
  ·simp at hh; subst hh; simp
  ·simp at hh; subst hh; simp; omega
  ·simp at hh
 unfold bnds
 rw [e1]
 show lowB h.toNat lo = _
 unfold loB at hl; unfold lowB
 split at hl
 ·simp at hl; subst hl; simp
 ·simp at hl; subst hl
  simp only
  rw [if_pos (by omega)]
 ·simp at hl
theorem slB_sound {P : Program} {u : TypeId} {x : PV} {lo hi : Option PV} {ps : List Prop} {r : PV} (h : slB P (P.underlying u) x lo hi = some (ps, r)) (hp : All ps) : slP P u x lo hi = some r := by
 unfold slB at h
 split at h
 ·rename_i s hu
  split at h
  ·rename_i l h' hl hh
   simp only [Option.some.injEq, Prod.mk.injEq] at h
   obtain ⟨rfl, rfl⟩ := h
   have h1 := hp _ (List.mem_cons_self ..)
   simp only [slP, hu]
   rw [bnds_of hl hh h1]
  ·simp at h
 ·rename_i k xs o e hu
  split at h
  ·rename_i l h' hl hh
   simp only [Option.some.injEq, Prod.mk.injEq] at h
   obtain ⟨rfl, rfl⟩ := h
   have h1 := hp _ (List.mem_cons_self ..)
   have h2 := hp (k = sz P e ∨ xs = []) (by simp)
   have h3 := hp (0 ≤ l ∧ l ≤ h' ∧ h' ≤ xs.length) (by simp)
   simp only [slP, hu]
   rw [if_pos h1, if_pos h2, bnds_of hl hh h3]
  ·simp at h
 ·rename_i k xs ys e hu
  split at h
  ·rename_i l h' hl hh
   simp only [Option.some.injEq, Prod.mk.injEq] at h
   obtain ⟨rfl, rfl⟩ := h
   have h1 := hp _ (List.mem_cons_self ..)
   have h2 := hp (k = sz P e) (by simp)
   have h3 := hp (0 ≤ l ∧ l ≤ h' ∧ h' ≤ xs.length + ys.length) (by simp)
   simp only [slP, hu]
   rw [if_pos h1, if_pos h2, bnds_of hl hh (by simpa using h3)]
  ·simp at h
 ·rename_i kk' b off len cap e hu
  split at h
  ·rename_i l h' hl hh
   simp only [Option.some.injEq, Prod.mk.injEq] at h
   obtain ⟨rfl, rfl⟩ := h
   have h1 := hp _ (List.mem_cons_self ..)
   have h3 := hp (0 ≤ l ∧ l ≤ h' ∧ h' ≤ cap) (by simp)
   simp only [slP, hu]
   rw [if_pos h1, bnds_of hl hh h3]
  ·simp at h
 ·rename_i b off n e hu
  split at h
  ·rename_i l h' hl hh
   simp only [Option.some.injEq, Prod.mk.injEq] at h
   obtain ⟨rfl, rfl⟩ := h
   have h1 := hp _ (List.mem_cons_self ..)
   have h3 := hp (0 ≤ l ∧ l ≤ h' ∧ h' ≤ n) (by simp)
   simp only [slP, hu]
   rw [if_pos h1, bnds_of hl hh h3]
  ·simp at h
 ·simp at h
def stB (P : Program) (M : List Blk) (t : TypeId) (s : Option Tmp) (a v : PV) : Option (List Prop × (PV × Eff)) := match a with
 | .ptr b off => match M[b]? with
  | some (.live cs) => some ([¬ sz P t = 0, v.solid = true, v.cells.length = sz P t, off + v.cells.length ≤ cs.length], (.junk, { strip := s, mem := .store b off v.cells }))
  | _ => none
 | _ => none
def stP (P : Program) (M : List Blk) (t : TypeId) (s : Option Tmp) (a v : PV) : Option (PV × Eff) := match a with
  | .ptr b off => match M[b]? with
   | some (.live cs) => if ¬ sz P t = 0 ∧ v.solid ∧ v.cells.length = sz P t ∧ off + v.cells.length ≤ cs.length then some (.junk, { strip := s, mem := .store b off v.cells }) else none
   | _ => none
  | _ => none
theorem stB_sound {P : Program} {M : List Blk} {t : TypeId} {s : Option Tmp} {a v : PV} {ps : List Prop} {r : PV × Eff} (h : stB P M t s a v = some (ps, r)) (hp : All ps) : stP P M t s a v = some r := by
 unfold stB at h
 split at h
 ·split at h
  ·rename_i cs hb
   simp only [Option.some.injEq, Prod.mk.injEq] at h
   obtain ⟨rfl, rfl⟩ := h
   have h1 := hp _ (List.mem_cons_self ..)
   have h2 := hp (v.solid = true) (by simp)
   have h3 := hp (v.cells.length = sz P t) (by simp)
   have h4 := hp _ (List.mem_cons_of_mem _ (List.mem_cons_of_mem _ (List.mem_cons_of_mem _ (List.mem_cons_self ..))))
   simp only [stP, hb]
   rw [if_pos ⟨h1, h2, h3, h4⟩]
  ·simp at h
 ·simp at h
def zeros (z : PV) (n k : Nat) : List PV := (List.range (n * k)).map fun j => z.cells.getD (j % k) .junk
def mkP (P : Program) (n0 : Nat) (c : Bool) (u : Option TypeDesc) (l m : PV) : Option (PV × Eff) := match u, l, m with
  | some (.slice e), .val (.int .i64 n), .val (.int .i64 m) =>
   if 0 ≤ n ∧ n ≤ m ∧ ¬ sz P e = 0 ∧ zsz P e = some (sz P e) ∧ roomy m.toNat (byt P e) then
    if c = true ∧ n = 0 then some (.sl (sz P e) [] true, {})
    else match zeroP P e with
     | some z => if z.solid then some (.rs (sz P e) n0 0 n.toNat m.toNat, { mem := .new (zeros z m.toNat (sz P e)) }) else none
     | none => none
   else none
  | _, _, _ => none
def mkB (P : Program) (n0 : Nat) (c : Bool) (u : Option TypeDesc) (l m : PV) : Option (List Prop × (PV × Eff)) := match c, u, l, m with
  | false, some (.slice e), .val (.int .i64 n), .val (.int .i64 m) => some ([0 ≤ n, n ≤ m, ¬ sz P e = 0, zsz P e = some (sz P e), roomy m.toNat (byt P e) = true, zeroP P e = some (zD P e), (zD P e).solid = true], (.rs (sz P e) n0 0 n.toNat m.toNat, { mem := .new (zeros (zD P e) m.toNat (sz P e)) }))
  | _, _, _, _ => none
theorem mkB_sound {P : Program} {n0 : Nat} {c : Bool} {u : Option TypeDesc} {l m : PV} {ps : List Prop} {r : PV × Eff} (h : mkB P n0 c u l m = some (ps, r)) (hp : All ps) : mkP P n0 c u l m = some r := by
 unfold mkB at h
 split at h
 ·rename_i e n m
  simp only [Option.some.injEq, Prod.mk.injEq] at h
  obtain ⟨rfl, rfl⟩ := h
  have h1 := hp (0 ≤ n) (by simp)
  have h2 := hp (n ≤ m) (by simp)
  have h3 := hp (¬ sz P e = 0) (by simp)
  have h4 := hp (zsz P e = some (sz P e)) (by simp)
  have h5 := hp (roomy m.toNat (byt P e) = true) (by simp)
  have h6 := hp (zeroP P e = some (zD P e)) (by simp)
  have h7 := hp ((zD P e).solid = true) (by simp)
  simp [mkP, h1, h2, h3, h4, h5, h6, h7]
 ·simp at h
def clP (P : Program) (u : Option TypeDesc) (M : List Blk) (x : PV) : Option (PV × Eff) := match u, x with
   | some (.slice e), .rs k b off len _ => match M[b]? with
    | some (.live cs) => match zeroP P e with
     | some z => if z.solid = true ∧ k = sz P e ∧ ¬ sz P e = 0 ∧ zsz P e = some (sz P e) ∧ off + len * sz P e ≤ cs.length then some (.tuple [], { mem := .store b off (zeros z len (sz P e)) }) else none
     | none => none
    | _ => none
   | _, _ => none
def clB (P : Program) (u : Option TypeDesc) (M : List Blk) (x : PV) : Option (List Prop × (PV × Eff)) := match u, x with
  | some (.slice e), .rs k b off len _ => match M[b]? with
   | some (.live cs) => some ([k = sz P e, ¬ sz P e = 0, zsz P e = some (sz P e), zeroP P e = some (zD P e), (zD P e).solid = true, off + len * sz P e ≤ cs.length], (.tuple [], { mem := .store b off (zeros (zD P e) len (sz P e)) }))
   | _ => none
  | _, _ => none
theorem clB_sound {P : Program} {u : Option TypeDesc} {M : List Blk} {x : PV} {ps : List Prop} {r : PV × Eff} (h : clB P u M x = some (ps, r)) (hp : All ps) : clP P u M x = some r := by
 unfold clB at h
 split at h
 ·rename_i e k b off len cap
  split at h
  ·rename_i cs hb
   simp only [Option.some.injEq, Prod.mk.injEq] at h
   obtain ⟨rfl, rfl⟩ := h
   have h1 := hp (k = sz P e) (by simp)
   have h2 := hp (¬ sz P e = 0) (by simp)
   have h3 := hp (zsz P e = some (sz P e)) (by simp)
   have h4 := hp (zeroP P e = some (zD P e)) (by simp)
   have h5 := hp ((zD P e).solid = true) (by simp)
   have h6 := hp (off + len * sz P e ≤ cs.length) (by simp)
   simp only [clP, hb, h4]
   rw [if_pos ⟨h5, h1, h2, h3, h6⟩]
  ·simp at h
 ·simp at h
def rowB (P : Program) (e : TypeId) (u : Option TypeDesc) (y : PV) : Option (List Prop × List PV) := match u, y with
 | some (.slice _), .sl k ys _ => some ([k = sz P e ∨ ys = []], ys)
 | some (.slice _), .slt k ys _ => some ([k = sz P e], ys)
 | some .string, .val (.string s) => some ([sz P e = 1], s.data.toList.map byteP)
 | _, _ => none
def apB (P : Program) (u : Option TypeDesc) (u' : Option TypeDesc) (s : Option Tmp) (x y : PV) : Option (List Prop × (PV × Eff)) := match u, x with
 | some (.slice e), .sl k xs own => match rowB P e u' y with
  | some (ps, ys) => some ([¬ sz P e = 0, zsz P e = some (sz P e), (k = sz P e ∧ own = true) ∨ k = 0, roomy (xs.length + ys.length) (byt P e) = true] ++ ps, (.sl (sz P e) (xs ++ ys) true, { strip := s }))
  | none => none
 | some (.slice e), .slt 0 [] [] => match rowB P e u' y with
  | some (ps, ys) => some ([¬ sz P e = 0, zsz P e = some (sz P e), ¬ ys = [], roomy ys.length (byt P e) = true] ++ ps, (.sl (sz P e) ys true, {}))
  | none => none
 | _, _ => none
def apP (P : Program) (u : Option TypeDesc) (u' : Option TypeDesc) (M : List Blk) (s : Option Tmp) (x y : PV) : Option (PV × Eff) := match u with
   | some (.slice e) => match rowOf P e u' M y with
    | some ys => if ¬ sz P e = 0 ∧ zsz P e = some (sz P e) then appP P e M s x ys else none
    | none => none
   | _ => none
theorem rowB_sound {P : Program} {e : TypeId} {u : Option TypeDesc} {M : List Blk} {y : PV} {ps : List Prop} {ys : List PV} (h : rowB P e u y = some (ps, ys)) (hp : All ps) : rowOf P e u M y = some ys := by
 unfold rowB at h
 split at h
 ·simp only [Option.some.injEq, Prod.mk.injEq] at h
  obtain ⟨rfl, rfl⟩ := h
  have := hp _ (List.mem_cons_self ..)
  simp only [rowOf]; rw [if_pos this]
 ·simp only [Option.some.injEq, Prod.mk.injEq] at h
  obtain ⟨rfl, rfl⟩ := h
  have := hp _ (List.mem_cons_self ..)
  simp only [rowOf]; rw [if_pos this]
 ·simp only [Option.some.injEq, Prod.mk.injEq] at h
  obtain ⟨rfl, rfl⟩ := h
  have := hp _ (List.mem_cons_self ..)
  simp only [rowOf]; rw [if_pos this]
 ·simp at h
theorem apB_sound {P : Program} {u u' : Option TypeDesc} {M : List Blk} {s : Option Tmp} {x y : PV} {ps : List Prop} {r : PV × Eff} (h : apB P u u' s x y = some (ps, r)) (hp : All ps) : apP P u u' M s x y = some r := by
 unfold apB at h
 split at h
 ·rename_i e k xs own
  split at h
  ·rename_i qs ys hr
   simp only [Option.some.injEq, Prod.mk.injEq] at h
   obtain ⟨rfl, rfl⟩ := h
   obtain ⟨hp1, hp2⟩ := All.app.1 hp
   have h1 := hp1 (¬ sz P e = 0) (by simp)
   have h2 := hp1 (zsz P e = some (sz P e)) (by simp)
   have h3 := hp1 ((k = sz P e ∧ own = true) ∨ k = 0) (by simp)
   have h4 := hp1 (roomy (xs.length + ys.length) (byt P e) = true) (by simp)
   have h5 : rowOf P e u' M y = some ys := rowB_sound hr hp2
   simp only [apP, h5]
   rw [if_pos ⟨h1, h2⟩]
   simp only [appP]
   rw [if_pos ⟨h3, h4⟩]
  ·simp at h
 ·rename_i e
  split at h
  ·rename_i qs ys hr
   simp only [Option.some.injEq, Prod.mk.injEq] at h
   obtain ⟨rfl, rfl⟩ := h
   obtain ⟨hp1, hp2⟩ := All.app.1 hp
   have h1 := hp1 (¬ sz P e = 0) (by simp)
   have h2 := hp1 (zsz P e = some (sz P e)) (by simp)
   have h3 := hp1 (¬ ys = []) (by simp)
   have h4 := hp1 (roomy ys.length (byt P e) = true) (by simp)
   have h5 : rowOf P e u' M y = some ys := rowB_sound hr hp2
   simp only [apP, h5]
   rw [if_pos ⟨h1, h2⟩]
   simp only [appP]
   rw [if_pos ⟨trivial, h3, h4⟩]
  ·simp at h
 ·simp at h
def fld (P : Program) (s : TypeId) (f : Nat) : Option (Nat × TypeId) := match (fieldsOf P s).bind (·.toList[f]?) with
 | none => none
 | some fd => some (fd.offset, fd.type)
def faP (P : Program) (s : TypeId) (f : Nat) (v : PV) : Option PV := match fld P s f with
 | none => none
 | some (o, t) => if sz P t = 0 then none else match v with
  | .ptr b off => some (.ptr b (off + o))
  | .vptr cs off => some (.vptr cs (off + o))
  | _ => none
def fiP (P : Program) (s : TypeId) (f : Nat) (v : PV) : Option PV := match fld P s f, v with
 | some (o, t), .agg cs => loadP P [] t (.vptr cs o)
 | _, _ => none
end Go.Ve
