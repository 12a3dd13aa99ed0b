/- weirlaw30.HistTexts: part of the proof (a value semantics for the model's code, and the functions told by it). -/
import Derived.Test.YtdfajmeabnmhjaaGreatDoorA10
set_option linter.unusedSimpArgs false
set_option linter.unusedVariables false
set_option linter.deprecated false
namespace Go.Ve
section
variable (x y : BV) (xs T : List BV) (n : Nat) (b : Bool) (v : PV) (t : Tmp) (G : Nat → Option (List PV))
theorem g0 : getB (x :: xs) 0 = x := rfl
theorem g1 : getB (x :: xs) (n + 1) = getB xs n := rfl
theorem s0 : setB (x :: xs) 0 y = y :: xs := rfl
theorem s1 : setB (x :: xs) (n + 1) y = x :: setB xs n y := rfl
theorem pu0 : putB T none y = T := rfl
theorem pu1 : putB T (some t) y = setB T t y := rfl
theorem st0 : stripB T none = T := rfl
theorem st1 : stripB T (some t) = setB T t (getB T t).strip := rfl
theorem bs0 : (BV.pv v).strip = .pv v.strip := rfl
theorem bs1 : (BV.may b v).strip = .may b v.strip := rfl
theorem bv0 : (BV.pv v).v = v := rfl
theorem bv1 : (BV.may b v).v = v := rfl
theorem bo0 : (BV.pv v).ob = [] := rfl
theorem bo1 : (BV.may b v).ob = [b = true] := rfl
theorem bd0 : (BV.pv v).den = v := rfl
theorem vals0 : vals [] = [] := rfl
theorem vals1 (x : PV) (xs : List PV) : vals (x :: xs) = .pv x :: vals xs := rfl
theorem e_tmp : evB G T (.tmp t) = (getB T t).v := rfl
theorem e_int (k : IntKind) (n : Int) : evB G T (.const (.int k n)) = .val (.int k n) := rfl
theorem e_bool (b : Bool) : evB G T (.const (.bool b)) = .val (.bool b) := rfl
theorem e_str (s : ByteArray) : evB G T (.const (.string s)) = .val (.string s) := rfl
theorem e_nilI : evB G T (.const .nilIface) = .val .nilIface := rfl
theorem e_nilP : evB G T (.const (.pointer none)) = .val (.pointer none) := rfl
theorem e_nilF : evB G T (.const .nilFunc) = .val .nilFunc := rfl
theorem e_nilS : evB G T (.const (.slice none 0 0)) = .sl 0 [] true := rfl
theorem e_func (f : FuncId) : evB G T (.func f) = .func (.func f) [] [] := rfl
theorem v_tmp : bvB G T (.tmp t) = getB T t := rfl
theorem v_const (u : Value) : bvB G T (.const u) = .pv (evB G T (.const u)) := rfl
theorem o_tmp : obB T (.tmp t) = (getB T t).ob := rfl
theorem o_const (u : Value) : obB T (.const u) = [] := rfl
theorem o_global (g : Nat) : obB T (.global g) = [] := rfl
theorem o_func (f : FuncId) : obB T (.func f) = [] := rfl
theorem os0 : obsB T [] = [] := rfl
theorem os1 (x : Operand) (xs : List Operand) : obsB T (x :: xs) = obB T x ++ obsB T xs := rfl
theorem cj0 (K : Prop) : conj [] K = K := rfl
theorem cj1 (p : Prop) (ps : List Prop) (K : Prop) : conj (p :: ps) K = (p ∧ conj ps K) := rfl
theorem cc0 (K : Prop) : conjC b [] K = K := rfl
theorem cc1 (p : Prop) (ps : List Prop) (K : Prop) : conjC b (p :: ps) K = ((b = true → p) ∧ conjC b ps K) := rfl
theorem im0 (b w : Bool) : imp b w [] = [] := rfl
theorem im1 (b w : Bool) (p : Prop) (ps : List Prop) : imp b w (p :: ps) = (b = w → p) :: imp b w ps := rfl
theorem gc1 : gc true b = b := rfl
theorem gc0 : gc false b = !b := rfl
theorem gv0 (c w : Bool) : gval (.pv (.val (.bool c))) w = some (gc w c) := rfl
theorem gv1 (c w : Bool) : gval (.may b (.val (.bool c))) w = some (b && gc w c) := rfl
theorem gv2 (w : Bool) : gval (.pv (.tuple [])) w = some false := rfl
def gdB (ds : Option (Option Tmp)) (T : List BV) : BV := match ds with
 | some (some d) => getB T d
 | _ => .pv .junk
theorem gd0 (R : RI) (j : Nat) : guardB R T j = gdB R.ds[j]? T := rfl
theorem gd1 (d : Tmp) : gdB (some (some d)) T = getB T d := rfl
end
section
variable (E : Env) (D : FuncId → Option CB) (s : Bool) (R : RI) (d : Option Tmp) (t : TypeId) (p : String) (af : Array Edge) (l : List Oper) (T : List BV) (M : List Blk) (K : List BV → List Blk → Prop)
def arBd (o : Option PV) (ts : List Tmp) : AR := match o with
 | some r => .b [ts.Nodup] r ts
 | none => .no
def runB (a : AR) (as : List Prop) (E : Env) (D : FuncId → Option CB) (s : Bool) (R : RI) (d : Option Tmp) (l : List Oper) (T : List BV) (M : List Blk) (K : List BV → List Blk → Prop) : Prop := match a with
 | .q ps v e => conj as (conj ps (opsB E D s R l (putB (stripB T e.strip) d (.pv v)) (mApply e.mem M) K))
 | .g ps W args => conj as (conj ps (W args M fun r M' => opsB E D s R l (putB T d (.pv r)) M' K))
 | .v ps n k f => conj as (conj ps (∀ c, n ≤ c → opsB E D s R l (putB (killB k T) d (.pv (f c).1)) (f c).2 K))
 | .b ps v ts => conj as (conj ps (opsB E D s R l (putB (stripsB T ts) d (.pv v)) M K))
 | .no => False
def runC (a : AR) (c : Bool) (as : List Prop) (E : Env) (D : FuncId → Option CB) (s : Bool) (R : RI) (d : Option Tmp) (l : List Oper) (T : List BV) (M : List Blk) (K : List BV → List Blk → Prop) : Prop := match a with
 | .q ps v e => match quiet e with
  | true => conjC c as (conjC c ps (opsB E D s R l (putB T d (.may c v)) M K))
  | false => (c = true → conj as (conj ps (opsB E D s R l (putB (stripB T e.strip) d (.pv v)) (mApply e.mem M) K))) ∧ (c = false → opsB E D s R l (putB T d (.pv (.tuple []))) M K)
 | .g ps W args => (c = true → conj as (conj ps (W args M fun r M' => opsB E D s R l (putB T d (.pv r)) M' K))) ∧ (c = false → opsB E D s R l (putB T d (.pv (.tuple []))) M K)
 | .v ps n k f => (c = true → conj as (conj ps (∀ c, n ≤ c → opsB E D s R l (putB (killB k T) d (.pv (f c).1)) (f c).2 K))) ∧ (c = false → opsB E D s R l (putB T d (.pv (.tuple []))) M K)
 | .b ps v ts => (c = true → conj as (conj ps (opsB E D s R l (putB (stripsB T ts) d (.pv v)) M K))) ∧ (c = false → opsB E D s R l (putB T d (.pv (.tuple []))) M K)
 | .no => c = false ∧ opsB E D s R l (putB T d (.pv (.tuple []))) M K
def runG (g : Option Bool) (a : AR) (as : List Prop) (E : Env) (D : FuncId → Option CB) (s : Bool) (R : RI) (d : Option Tmp) (l : List Oper) (T : List BV) (M : List Blk) (K : List BV → List Blk → Prop) : Prop := match g with
 | none => False
 | some c => runC a c as E D s R d l T M K
theorem r_nil : opsB E D s R [] T M K = K T M := rfl
theorem r_op (op : Op) : opsB E D s R (⟨d, op, t, p, af, none⟩ :: l) T M K = runB (actB E D s R T M d op) (askB T op) E D s R d l T M K := rfl
theorem r_gd (op : Op) (j : Nat) (w : Bool) : opsB E D s R (⟨d, op, t, p, af, some (j, w)⟩ :: l) T M K = runG (gval (guardB R T j) w) (actB E D s R T M d op) (askB T op) E D s R d l T M K := rfl
variable (as ps : List Prop) (v : PV) (c : Bool)
theorem rn_q : runB (.q ps v {}) as E D s R d l T M K = conj as (conj ps (opsB E D s R l (putB T d (.pv v)) M K)) := rfl
theorem rn_e (e : Eff) : runB (.q ps v e) as E D s R d l T M K = conj as (conj ps (opsB E D s R l (putB (stripB T e.strip) d (.pv v)) (mApply e.mem M) K)) := rfl
theorem rn_g (W : PT) (args : List PV) : runB (.g ps W args) as E D s R d l T M K = conj as (conj ps (W args M fun r M' => opsB E D s R l (putB T d (.pv r)) M' K)) := rfl
theorem rn_v (n : Nat) (k : Option Nat) (f : Nat → PV × List Blk) : runB (.v ps n k f) as E D s R d l T M K = conj as (conj ps (∀ c, n ≤ c → opsB E D s R l (putB (killB k T) d (.pv (f c).1)) (f c).2 K)) := rfl
theorem rc_v (n : Nat) (k : Option Nat) (f : Nat → PV × List Blk) : runC (.v ps n k f) c as E D s R d l T M K = ((c = true → conj as (conj ps (∀ c, n ≤ c → opsB E D s R l (putB (killB k T) d (.pv (f c).1)) (f c).2 K))) ∧ (c = false → opsB E D s R l (putB T d (.pv (.tuple []))) M K)) := rfl
theorem rg (a : AR) : runG (some c) a as E D s R d l T M K = runC a c as E D s R d l T M K := rfl
theorem rc_n : runC .no c as E D s R d l T M K = (c = false ∧ opsB E D s R l (putB T d (.pv (.tuple []))) M K) := rfl
theorem arV_n : arV none = .no := rfl
theorem rc_q : runC (.q ps v {}) c as E D s R d l T M K = conjC c as (conjC c ps (opsB E D s R l (putB T d (.may c v)) M K)) := rfl
theorem rc_e (a : Option Tmp) (m : MEff) (h : quiet ⟨a, m⟩ = false) : runC (.q ps v ⟨a, m⟩) c as E D s R d l T M K = ((c = true → conj as (conj ps (opsB E D s R l (putB (stripB T a) d (.pv v)) (mApply m M) K))) ∧ (c = false → opsB E D s R l (putB T d (.pv (.tuple []))) M K)) := by
 simp only [runC, h]
theorem rc_g (W : PT) (args : List PV) : runC (.g ps W args) c as E D s R d l T M K = ((c = true → conj as (conj ps (W args M fun r M' => opsB E D s R l (putB T d (.pv r)) M' K))) ∧ (c = false → opsB E D s R l (putB T d (.pv (.tuple []))) M K)) := rfl
variable (u : TypeId) (x y z : Operand)
theorem k_pick : askB T (.pick x y z) = obB T x := rfl
theorem k_bin (op : BinOp) (u' : TypeId) : askB T (.binOp op u x y u') = obB T x ++ (obB T y ++ []) := rfl
theorem k_un (op : UnOp) : askB T (.unOp op u x) = obB T x ++ [] := rfl
theorem k_load : askB T (.load u x) = obB T x ++ [] := rfl
theorem k_nil : askB T (.nilCheck x) = obB T x ++ [] := rfl
theorem k_move : askB T (.move x) = obB T x ++ [] := rfl
theorem k_assign : askB T (.assign x) = obB T x ++ [] := rfl
theorem k_index : askB T (.index u x y) = obB T x ++ (obB T y ++ []) := rfl
theorem k_indexAddr : askB T (.indexAddr u x y) = obB T x ++ (obB T y ++ []) := rfl
theorem k_fieldAddr (f : Nat) : askB T (.fieldAddr u x f) = obB T x ++ [] := rfl
theorem k_field (f : Nat) : askB T (.field u x f) = obB T x ++ [] := rfl
theorem k_extract (i : Nat) : askB T (.extract x i) = obB T x ++ [] := rfl
theorem k_convert (u' : TypeId) : askB T (.convert u u' x) = obB T x ++ [] := rfl
theorem k_iface : askB T (.makeInterface u x) = obB T x ++ [] := rfl
theorem k_store : askB T (.store u x y) = obB T x ++ (obB T y ++ []) := rfl
theorem k_slice (lo hi : Option Operand) (m : Option Operand) : askB T (.slice u x lo hi m) = obB T x ++ obsB T (lo.toList ++ hi.toList) := rfl
theorem k_call (args : Array Operand) (ts : Array TypeId) : askB T (.call { callee := .value x, args := args, argTypes := ts }) = obB T x ++ obsB T args.toList := rfl
theorem k_blt (b : Builtin) (args : Array Operand) (ts : Array TypeId) : askB T (.call { callee := .builtin b, args := args, argTypes := ts }) = obsB T args.toList := rfl
theorem k_alloc : askB T (.alloc u) = [] := rfl
theorem k_box : askB T (.box u x) = obB T x ++ [] := rfl
theorem k_build (parts : Array (Nat × Operand)) : askB T (.build u parts) = obsB T (parts.toList.map (·.2)) := rfl
theorem k_buildSlice (n : Nat) (parts : Array (Nat × Operand)) : askB T (.buildSlice u n parts) = obsB T (parts.toList.map (·.2)) := rfl
theorem k_makeSlice : askB T (.makeSlice u x y) = obB T x ++ (obB T y ++ []) := rfl
theorem k_typeAssert (w w' : TypeId) (ok : Bool) : askB T (.typeAssert x w w' ok) = obB T x ++ [] := rfl
theorem a_pick : actB E D s R T M d (.pick x y z) = pkB (evB E.G T x) (bvB E.G T y) (bvB E.G T z) := rfl
theorem a_bin (op : BinOp) (u' : TypeId) : actB E D s R T M d (.binOp op u x y u') = arP (bB s op (evB E.G T x) (evB E.G T y)) (binP E.P op u x y (evB E.G T x) (evB E.G T y)) := rfl
theorem a_un (op : UnOp) : actB E D s R T M d (.unOp op u x) = arV (unP op (evB E.G T x)) := rfl
theorem a_load : actB E D s R T M d (.load u x) = vcSel (vcD E R d) (vlB E.P M u (aggT E.P u) (evB E.G T x)) (arP (ldB E.P M u (aggT E.P u) (evB E.G T x)) (loadP E.P M u (evB E.G T x))) := rfl
theorem a_nil : actB E D s R T M d (.nilCheck x) = arV (nilP (evB E.G T x)) := rfl
theorem a_index : actB E D s R T M d (.index u x y) = arP (ixB E.P (E.P.underlying u) (evB E.G T y) (evB E.G T x)) (indexP E.P u (evB E.G T x) (evB E.G T y)) := rfl
theorem a_indexAddr : actB E D s R T M d (.indexAddr u x y) = arP (iaB E.P (E.P.underlying u) (evB E.G T y) (evB E.G T x)) (iaP E.P u (evB E.G T x) (evB E.G T y)) := rfl
theorem a_slice (lo hi : Option Operand) : actB E D s R T M d (.slice u x lo hi none) = arP (slB E.P (E.P.underlying u) (evB E.G T x) (lo.map (evB E.G T)) (hi.map (evB E.G T))) (slP E.P u (evB E.G T x) (lo.map (evB E.G T)) (hi.map (evB E.G T))) := rfl
theorem a_call (args : Array Operand) (ts : Array TypeId) : actB E D s R T M d (.call { callee := .value x, args := args, argTypes := ts }) = valB E.Y D (Ve.seen R.dr M []) (evB E.G T x) (args.toList.map fun x => (evB E.G T x).strip) := rfl
theorem va_f (Y : Option Yd) (W : List Blk) (g : FuncId) (a c vs : List PV) : valB Y D W (.func (.func g) a c) vs = callB Y W (D g) (a.map PV.strip ++ vs ++ c.map PV.strip) := rfl
theorem va_y (Y : Option Yd) (W : List Blk) (g : Nat) (vs : List PV) : valB Y D W (.func (.yield g) [] []) vs = yB Y g vs := rfl
theorem a_callF (f : FuncId) (args : Array Operand) (ts : Array TypeId) : actB E D s R T M d (.call { callee := .value (.func f), args := args, argTypes := ts }) = callB E.Y (Ve.seen R.dr M []) (D f) ((args.toList.map fun x => (evB E.G T x).strip) ++ []) := rfl
theorem a_len (args : Array Operand) (ts : Array TypeId) : actB E D s R T M d (.call { callee := .builtin .len, args := args, argTypes := ts }) = arV (lenP E.P (args.toList.map (evB E.G T)) ts.toList) := rfl
def mvB (f : Bool) (x : Operand) (v : PV) : AR := match f with
 | true => .q [] v { strip := stripO x }
 | false => .q [] v.strip {}
theorem mv0 (v : PV) : mvB false x v = .q [] v.strip {} := rfl
theorem mv1 (v : PV) : mvB true x v = .q [] v { strip := stripO x } := rfl
theorem a_move : actB E D s R T M d (.move x) = mvB (feeds R d) x (evB E.G T x) := by
 show arO (outfE E.P (evB E.G T) M R d (.move x)) = _
 unfold outfE mvB
 cases feeds R d <;> rfl
theorem ev_mf (fn : Fn) (fs cs : Array Operand) : actB E D s R T M d (.makeFunc fn fs cs) = arV (some (.func fn (fs.toList.map (evB E.G T)) (cs.toList.map (evB E.G T)))) := rfl
theorem a_store : actB E D s R T M d (.store u x y) = arE (stB E.P M u (stripO y) (evB E.G T x) (evB E.G T y)) (stP E.P M u (stripO y) (evB E.G T x) (evB E.G T y)) := rfl
theorem a_mk : actB E D s R T M d (.makeSlice u x y) = vcSel (vcD E R d) (arE (mkB E.P M.length false (E.P.underlying u) (evB E.G T x) (evB E.G T y)) none) (arE (mkB E.P M.length (isConst x) (E.P.underlying u) (evB E.G T x) (evB E.G T y)) (mkP E.P M.length (isConst x) (E.P.underlying u) (evB E.G T x) (evB E.G T y))) := rfl
theorem a_cl : actB E D s R T M d (.call { callee := .builtin .clear, args := #[x], argTypes := #[u] }) = arE (clB E.P (E.P.underlying u) M (evB E.G T x)) (clP E.P (E.P.underlying u) M (evB E.G T x)) := rfl
def clQ (P : Program) (e : TypeId) (k b off len : Nat) : Option Blk → Option (List Prop × (PV × Eff))
 | some (.live cs) => some ([k = sz P e, ¬ sz P e = 0, zsz P e = some (sz P e), zeroP P e = some (zD P e), (zD P e).solid = true, off + len * sz P e ≤ cs.length], (.tuple [], { mem := .store b off (zeros (zD P e) len (sz P e)) }))
 | _ => none
theorem cl_r (P : Program) (M : List Blk) (e : TypeId) (k b off len cap : Nat) : clB P (some (.slice e)) M (.rs k b off len cap) = clQ P e k b off len M[b]? := by
 show (match M[b]? with | some (.live cs) => _ | _ => none) = _
 cases M[b]? with
 | none => rfl
 | some q => cases q <;> rfl
theorem clQ_l (P : Program) (e : TypeId) (k b off len : Nat) (cs : List PV) : clQ P e k b off len (some (.live cs)) = some ([k = sz P e, ¬ sz P e = 0, zsz P e = some (sz P e), zeroP P e = some (zD P e), (zD P e).solid = true, off + len * sz P e ≤ cs.length], (.tuple [], { mem := .store b off (zeros (zD P e) len (sz P e)) })) := rfl
theorem ic_t : isConst (.tmp t) = false := rfl
theorem ic_c (v : Value) : isConst (.const v) = true := rfl
theorem a_fa (f : Nat) : actB E D s R T M d (.fieldAddr u x f) = arV (faP E.P u f (evB E.G T x)) := rfl
theorem a_fi (f : Nat) : actB E D s R T M d (.field u x f) = arV (fiP E.P u f (evB E.G T x)) := rfl
def faQ (z : Nat) (o : Nat) (v : PV) : Option PV := if z = 0 then none else match v with
 | .ptr b off => some (.ptr b (off + o))
 | .vptr cs off => some (.vptr cs (off + o))
 | _ => none
theorem fa_q {P : Program} {g : TypeId} {f o z : Nat} {ty : TypeId} (h : fld P g f = some (o, ty)) (hz : sz P ty = z) (v : PV) : faP P g f v = faQ z o v := by
 subst hz; simp only [faP, h]; rfl
theorem fa_p (z o b off : Nat) : faQ (z + 1) o (.ptr b off) = some (.ptr b (off + o)) := rfl
theorem fa_v (z o off : Nat) (cs : List PV) : faQ (z + 1) o (.vptr cs off) = some (.vptr cs (off + o)) := rfl
theorem ld_f {P : Program} {ty : TypeId} (h : aggT P ty = some false) (M : List Blk) (cs : List PV) (o : Nat) : loadP P M ty (.vptr cs o) = if o < cs.length then some (cs.getD o .junk) else none := by
 unfold loadP
 simp only [h, cellsAt]
 by_cases ho : o < cs.length
 ·rw [if_pos (show o + 1 ≤ cs.length from ho), if_pos ho]; simp only [take_one (z := .junk) ho]
 ·rw [if_neg (show ¬ o + 1 ≤ cs.length from ho), if_neg ho]
theorem ld_t {P : Program} {ty : TypeId} {z : Nat} (h : aggT P ty = some true) (hz : sz P ty = z) (M : List Blk) (cs : List PV) (o : Nat) : loadP P M ty (.vptr cs o) = if o + z ≤ cs.length then some (.agg ((cs.drop o).take z)) else none := by
 subst hz; unfold loadP
 simp only [h, cellsAt]
 by_cases ho : o + sz P ty ≤ cs.length
 ·rw [if_pos ho, if_pos ho]; rfl
 ·rw [if_neg ho, if_neg ho]; rfl
theorem a_app2 (x y : Operand) (u u' : TypeId) : actB E D s R T M d (.call { callee := .builtin .append, args := #[x, y], argTypes := #[u, u'] }) =
  vcSel (vcD E R d) (vaB E.P E.lo (E.P.underlying u) (E.P.underlying u') M (evB E.G T x) (evB E.G T y)) (arE (apB E.P (E.P.underlying u) (E.P.underlying u') (stripO x) (evB E.G T x) (evB E.G T y)) (apP E.P (E.P.underlying u) (E.P.underlying u') (seen R.dr M []) (stripO x) (evB E.G T x) (evB E.G T y))) := rfl
def alP (z : Option PV) (n0 : Nat) : Option (PV × Eff) := match z with
  | some z => if z.solid then some (.ptr n0 0, { mem := .new z.cells }) else none
  | none => none
theorem a_al : actB E D s R T M d (.alloc u) = vcSel (vcD E R d) (alV E.P M.length u (zeroP E.P u)) (arO (alP (zeroP E.P u) M.length)) := rfl
theorem al_v (P : Program) (n0 : Nat) (t : TypeId) (z : PV) : alV P n0 t (some z) = bldM P n0 t z.solid (splitB z.cells) := rfl
theorem bm_s (P : Program) (n0 : Nat) (t : TypeId) (so : Bool) (pre : List PV) : bldM P n0 t so (some pre) = .q [so = true, norefL pre = true] (.ptr n0 0) { mem := .newB t (bldD P t) pre } := rfl
theorem sp_2 (x y : PV) : splitB [x, y] = endB x y := rfl
theorem sp_3 (x y z : PV) (r : List PV) : splitB (x :: y :: z :: r) = (splitB (y :: z :: r)).map (x.strip :: ·) := rfl
theorem en_b (o : Bool) : endB (.val (.pointer none)) (.sl 0 [] o) = some [] := rfl
def bxP (s : Option Tmp) (n0 : Nat) (v : PV) : Option (PV × Eff) := if v.solid then some (.ptr n0 0, { strip := s, mem := .new v.cells }) else none
theorem a_bx : actB E D s R T M d (.box u x) = vcSel (vcD E R d) (bldM E.P M.length u (evB E.G T x).solid (splitB (evB E.G T x).cells)) (arO (bxP (stripO x) M.length (evB E.G T x))) := rfl
theorem a_bu (ps : Array (Nat × Operand)) : actB E D s R T M d (.build u ps) = vcSel (vcD E R d) (arBd (buildP E.P u (ps.toList.map fun p => (p.1, evB E.G T p.2))) (ps.toList.filterMap fun p => stripO p.2)) (arO ((buildP E.P u (ps.toList.map fun p => (p.1, (evB E.G T p.2).strip))).map fun r => (r.strip, {}))) := by
 show vcSel (vcD E R d) (bldB E.P E.G T u ps) _ = _
 unfold bldB arBd
 cases buildP E.P u (ps.toList.map fun p => (p.1, evB E.G T p.2)) <;> rfl
theorem ab_s (r : PV) (ts : List Tmp) : arBd (some r) ts = .b [ts.Nodup] r ts := rfl
theorem rn_b (v : PV) (ts : List Tmp) (ps as : List Prop) : runB (.b ps v ts) as E D s R d l T M K = conj as (conj ps (opsB E D s R l (putB (stripsB T ts) d (.pv v)) M K)) := rfl
theorem sp_n : stripsB T [] = T := rfl
theorem sp_c (t : Tmp) (ts : List Tmp) : stripsB T (t :: ts) = stripsB (setB T t (getB T t).strip) ts := rfl
def bsP (P : Program) (u : Option TypeDesc) (n : Nat) (ix : List Nat) (vs : List PV) : Option (PV × Eff) := match u with
  | some (.slice e) =>
   if n = vs.length ∧ n * sz P e ≤ 16777216 ∧ ¬ sz P e = 0 ∧ zsz P e = some (sz P e) ∧ ix = List.range n ∧ (vs.all fun x => x.free && x.solid && decide (x.cells.length = sz P e)) = true then some (.sl (sz P e) vs true, {}) else none
  | _ => none
def vlQ (P : Program) (t : TypeId) (b off : Nat) (g : Option Bool) (o : Option Blk) : AR := match o with
  | some (.live cs) => match g with
   | some true => .q [off + sz P t ≤ cs.length] (.agg ((cs.drop off).take (sz P t))) { mem := .store b off (stripL ((cs.drop off).take (sz P t))) }
   | some false => .q [off + 1 ≤ cs.length] (cs.getD off .junk) { mem := .store b off (stripL ((cs.drop off).take 1)) }
   | none => .no
  | _ => .no
theorem vl_p (P : Program) (M : List Blk) (t : TypeId) (g : Option Bool) (b off : Nat) : vlB P M t g (.ptr b off) = vlQ P t b off g M[b]? := rfl
theorem vl_t (P : Program) (t : TypeId) (b off : Nat) (cs : List PV) : vlQ P t b off (some true) (some (.live cs)) = .q [off + sz P t ≤ cs.length] (.agg ((cs.drop off).take (sz P t))) { mem := .store b off (stripL ((cs.drop off).take (sz P t))) } := rfl
theorem vl_f (P : Program) (t : TypeId) (b off : Nat) (cs : List PV) : vlQ P t b off (some false) (some (.live cs)) = .q [off + 1 ≤ cs.length] (cs.getD off .junk) { mem := .store b off (stripL ((cs.drop off).take 1)) } := rfl
theorem vb_0 (P : Program) (M : List Blk) (n k : Nat) (e : TypeId) : vbs P M n k (some (.slice e)) = .q [n = 0, k = 0, ¬ sz P e = 0, zsz P e = some (sz P e)] (.rs (sz P e) M.length 0 0 0) { mem := .new [] } := rfl
theorem vs_t (x y : AR) : vcSel true x y = x := rfl
theorem vs_f (x y : AR) : vcSel false x y = y := rfl
theorem vd_n : vcD E R none = false := rfl
theorem vd_s (t : Tmp) : vcD E R (some t) = E.vc.contains t := rfl
theorem a_bs (n : Nat) (ps : Array (Nat × Operand)) : actB E D s R T M d (.buildSlice u n ps) = vcSel (vcD E R d) (vbs E.P M n ps.size (E.P.underlying u)) (arO (bsP E.P (E.P.underlying u) n (ps.toList.map (·.1)) (ps.toList.map fun p => (evB E.G T p.2).strip))) := by
 show vcSel (vcD E R d) (vecB E T M (.buildSlice u n ps)) (arO (outfE E.P (evB E.G T) M R d (.buildSlice u n ps))) = _
 congr 1
 unfold outfE bsP
 simp only [List.length_map, Array.length_toList]
 cases E.P.underlying u with
 | none => rfl
 | some a => cases a <;> rfl
def exP (i : Nat) (v : PV) : Option PV := match v with
 | .tuple vs => vs[i]?
 | _ => none
theorem a_ex (i : Nat) : actB E D s R T M d (.extract x i) = arV (exP i (evB E.G T x)) := by
 show arO ((qvalE E.P (evB E.G T) M (.extract x i)).map fun r => (r.strip, {})) = _
 simp only [qvalE, exP]
 cases evB E.G T x <;> first | rfl | (rename_i vs; simp only; cases vs[i]? <;> rfl)
theorem ex_t (i : Nat) (vs : List PV) : exP i (.tuple vs) = vs[i]? := rfl
def cvQ (u : Option TypeDesc) (r : Option (List Int)) : Option PV := match u with
  | some (.int .u8) => r.map fun ns => .val (.string (strOfNums ns))
  | _ => none
def cvP (P : Program) (a b : Option TypeDesc) (v : PV) : Option PV := match a, b, v with
  | some _, some (.int k), .val (.int _ n) => some (.val (.int k (k.wrap n)))
  | some _, some .string, .val (.string s) => some (.val (.string s))
  | some (.slice e), some .string, .sl _ xs _ => cvQ (P.underlying e) (bytesOf xs)
  | _, _, _ => none
theorem a_cv (u' : TypeId) : actB E D s R T M d (.convert u u' x) = arV (cvP E.P (E.P.underlying u) (E.P.underlying u') (evB E.G T x)) := by
 show arO ((qvalE E.P (evB E.G T) M (.convert u u' x)).map fun r => (r.strip, {})) = _
 simp only [qvalE, cvP]
 have fin : ∀ r : Option PV, arO (r.map fun r => (r.strip, {})) = arV r := fun r => by cases r <;> rfl
 rw [fin]
 congr 1
theorem cv_i (P : Program) (a : TypeDesc) (k k' : IntKind) (n : Int) : cvP P (some a) (some (.int k)) (.val (.int k' n)) = some (.val (.int k (k.wrap n))) := rfl
theorem cv_s (P : Program) (a : TypeDesc) (b : ByteArray) : cvP P (some a) (some .string) (.val (.string b)) = some (.val (.string b)) := rfl
theorem cv_b (P : Program) (e : TypeId) (k : Nat) (xs : List PV) (o : Bool) : cvP P (some (.slice e)) (some .string) (.sl k xs o) = cvQ (P.underlying e) (bytesOf xs) := rfl
theorem cv_u (ns : List Int) : cvQ (some (.int .u8)) (some ns) = some (.val (.string (strOfNums ns))) := rfl
def ifP (t : TypeId) (a : Option TypeDesc) (v : PV) : Option PV := match a with
  | none => none
  | some (.interface _) => none
  | some _ => some (.iface t v)
theorem a_if : actB E D s R T M d (.makeInterface u x) = arV (ifP u (E.P.underlying u) (evB E.G T x)) := by
 show arO ((qvalE E.P (evB E.G T) M (.makeInterface u x)).map fun r => (r.strip, {})) = _
 simp only [qvalE, ifP]
 cases E.P.underlying u with
 | none => rfl
 | some a => cases a <;> rfl
def mmP (mx : Bool) (x y : PV) : Option PV := match x, y with
   | .val (.int k a), .val (.int _ b) => some (.val (.int k (match mx with | true => if b > a then b else a | false => if b < a then b else a)))
   | _, _ => none
theorem a_min (x y : Operand) (ts : Array TypeId) : actB E D s R T M d (.call { callee := .builtin .min, args := #[x, y], argTypes := ts }) = arV (mmP false (evB E.G T x) (evB E.G T y)) := by
 show arO ((qvalE E.P (evB E.G T) M (.call { callee := .builtin .min, args := #[x, y], argTypes := ts })).map fun r => (r.strip, {})) = _
 simp only [qvalE, mmP]
 generalize evB E.G T x = v; generalize evB E.G T y = v'
 cases v <;> first | rfl | (rename_i w; cases w <;> first | rfl | (cases v' <;> first | rfl | (rename_i w'; cases w' <;> rfl)))
theorem a_max (x y : Operand) (ts : Array TypeId) : actB E D s R T M d (.call { callee := .builtin .max, args := #[x, y], argTypes := ts }) = arV (mmP true (evB E.G T x) (evB E.G T y)) := by
 show arO ((qvalE E.P (evB E.G T) M (.call { callee := .builtin .max, args := #[x, y], argTypes := ts })).map fun r => (r.strip, {})) = _
 simp only [qvalE, mmP]
 generalize evB E.G T x = v; generalize evB E.G T y = v'
 cases v <;> first | rfl | (rename_i w; cases w <;> first | rfl | (cases v' <;> first | rfl | (rename_i w'; cases w' <;> rfl)))
theorem mm_t (k k' : IntKind) (a b : Int) : mmP true (.val (.int k a)) (.val (.int k' b)) = some (.val (.int k (if b > a then b else a))) := rfl
theorem mm_f (k k' : IntKind) (a b : Int) : mmP false (.val (.int k a)) (.val (.int k' b)) = some (.val (.int k (if b < a then b else a))) := rfl
theorem a_assign : actB E D s R T M d (.assign x) = .q [] (evB E.G T x) { strip := stripO x } := rfl
theorem pq (r : PV) (o : Option PV) : arP (some (ps, r)) o = .q ps r.strip {} := rfl
theorem eq_q (v : PV) (e : Eff) (o : Option (PV × Eff)) : arE (some (ps, (v, e))) o = .q ps v e := rfl
theorem eq_n (o : Option (PV × Eff)) : arE none o = arO o := by cases o <;> rfl
theorem oq (v : PV) (e : Eff) : arO (some (v, e)) = .q [] v e := rfl
theorem pn (o : Option PV) : arP none o = arV o := by cases o <;> rfl
theorem vq (r : PV) : arV (some r) = .q [] r.strip {} := rfl
def fnA (r : Option (List Prop × PV)) (b : Bool) (vs : List PV) : AR := match r with
 | some (ps, r) => .q (ps ++ lentB b vs r) r {}
 | none => .no
theorem fa (r : PV) (vs : List PV) : fnA (some (ps, r)) false vs = .q ps r {} := by simp [fnA, lentB]
theorem fa1 (r : PV) (vs : List PV) : fnA (some (ps, r)) true vs = .q (ps ++ [norefL vs = true, r.scalar = true]) r {} := rfl
theorem cq (Y : Option Yd) (W : List Blk) (F : List PV → Option (List Prop × PV)) (vs : List PV) : callB Y W (some (.fn F)) vs = fnA (F (vs.map (brw W))) (vs.any PV.isRef) (vs.map (brw W)) := by
 cases h : F (vs.map (brw W)) <;> simp [callB, fnA, h]
theorem cg (Y : Option Yd) (W : List Blk) (C : PT) (m : ∀ args B K K', (∀ r b, K r b → K' r b) → C args B K → C args B K') (vs : List PV) : callB Y W (some (.con (.gen C m))) vs = .g [] (conY Y (.gen C m)) vs := rfl
theorem bw_v (W : List Blk) (v : Value) : brw W (.val v) = .val v := rfl
theorem bw_s (W : List Blk) (k : Nat) (xs : List PV) (o : Bool) : brw W (.sl k xs o) = .sl k xs o := rfl
theorem bw_t (W : List Blk) (k : Nat) (xs ys : List PV) : brw W (.slt k xs ys) = .slt k xs ys := rfl
theorem bw_a (W : List Blk) (cs : List PV) : brw W (.agg cs) = .agg cs := rfl
theorem bw_i (W : List Blk) (t : TypeId) (v : PV) : brw W (.iface t v) = .iface t v := rfl
theorem bw_f (W : List Blk) (f : Fn) (a c : List PV) : brw W (.func f a c) = .func f a c := rfl
theorem bw_p (W : List Blk) (cs : List PV) (o : Nat) : brw W (.vptr cs o) = .vptr cs o := rfl
theorem bw_r (W : List Blk) (k b o n c : Nat) : brw W (.rs k b o n c) = brwS k o n (.rs k b o n c) W[b]? := rfl
theorem bw_q (W : List Blk) (b o : Nat) : brw W (.ptr b o) = brwP o (.ptr b o) W[b]? := rfl
theorem bs_l (k o n : Nat) (p : PV) (cs : List PV) : brwS k o n p (some (.live cs)) = if 0 < k ∧ o + n * k ≤ cs.length ∧ ((cs.drop o).take (n * k)).all plainCell = true then .sl k (chunks k (stripL ((cs.drop o).take (n * k))) n) false else p := rfl
theorem bp_l (o : Nat) (p : PV) (cs : List PV) : brwP o p (some (.live cs)) = if cs.all plainCell = true then .vptr (stripL cs) o else p := rfl
theorem pk (b : Bool) (x y : BV) : pkB (.val (.bool b)) x y = .q (imp b true x.ob ++ imp b false y.ob) (mrg b x.v y.v).strip {} := rfl
theorem mb (t p q : Bool) : mrg t (.val (.bool p)) (.val (.bool q)) = .val (.bool (bif t then p else q)) := rfl
theorem mi (t : Bool) (k : IntKind) (p q : Int) : mrg t (.val (.int k p)) (.val (.int k q)) = .val (.int k (bif t then p else q)) := by simp [mrg]
theorem ms (t : Bool) (p q : ByteArray) : mrg t (.val (.string p)) (.val (.string q)) = .val (.string (bif t then p else q)) := rfl
end
section
variable (k : IntKind) (a b : Int) (s t : Bool)
theorem b_int (op : BinOp) (k' : IntKind) : bB s op (.val (.int k a)) (.val (.int k' b)) = intB s op k a k' b := rfl
theorem ar1 (k' : IntKind) (n : Int) : arB true .i64 k' n = some ([IntKind.i64 = k', inI64 n], .val (.int .i64 n)) := rfl
theorem ar0 (k' : IntKind) (n : Int) : arB false k k' n = some ([k = k'], .val (.int k (k.wrap n))) := rfl
theorem aru8 (k' : IntKind) (n : Int) : arB true .u8 k' n = some ([IntKind.u8 = k'], .val (.int .u8 (IntKind.wrap .u8 n))) := rfl
theorem aru32 (k' : IntKind) (n : Int) : arB true .u32 k' n = some ([IntKind.u32 = k'], .val (.int .u32 (IntKind.wrap .u32 n))) := rfl
theorem aru64 (k' : IntKind) (n : Int) : arB true .u64 k' n = some ([IntKind.u64 = k'], .val (.int .u64 (IntKind.wrap .u64 n))) := rfl
theorem ari32 (k' : IntKind) (n : Int) : arB true .i32 k' n = some ([IntKind.i32 = k'], .val (.int .i32 (IntKind.wrap .i32 n))) := rfl
section
variable (k' : IntKind)
theorem i_add : intB s .add k a k' b = arB s k k' (a + b) := rfl
theorem i_sub : intB s .sub k a k' b = arB s k k' (a - b) := rfl
theorem i_mul : intB s .mul k a k' b = arB s k k' (a * b) := rfl
theorem i_quo : intB s .quo k a k' b = some ([k = k', b ≠ 0], .val (.int k (k.wrap (a.tdiv b)))) := rfl
theorem i_rem : intB s .rem k a k' b = some ([k = k', b ≠ 0], .val (.int k (a.tmod b))) := rfl
theorem i_eql : intB s .eql k a k' b = some ([k = k'], .val (.bool (decide (a = b)))) := rfl
theorem i_neq : intB s .neq k a k' b = some ([k = k'], .val (.bool (!decide (a = b)))) := rfl
theorem i_lss : intB s .lss k a k' b = some ([k = k'], .val (.bool (decide (a < b)))) := rfl
theorem i_leq : intB s .leq k a k' b = some ([k = k'], .val (.bool (decide (a ≤ b)))) := rfl
theorem i_gtr : intB s .gtr k a k' b = some ([k = k'], .val (.bool (decide (b < a)))) := rfl
theorem i_geq : intB s .geq k a k' b = some ([k = k'], .val (.bool (decide (b ≤ a)))) := rfl
theorem i_and : intB s .and k a k' b = some ([k = k'], .val (.int k (k.wrap (BitVec.ofInt k.bits a &&& BitVec.ofInt k.bits b).toNat))) := rfl
theorem i_or : intB s .or k a k' b = some ([k = k'], .val (.int k (k.wrap (BitVec.ofInt k.bits a ||| BitVec.ofInt k.bits b).toNat))) := rfl
theorem i_shl : intB s .shl k a k' b = some ([0 ≤ b], .val (.int k (k.wrap (a * 2 ^ min b.toNat k.bits)))) := rfl
theorem i_shr : intB s .shr k a k' b = some ([0 ≤ b], .val (.int k (a.fdiv (2 ^ min b.toNat k.bits)))) := rfl
end
theorem t_add (a b : ByteArray) : strB .add a b = some ([a.size + b.size ≤ 9223372036854775807], .val (.string (a ++ b))) := rfl
theorem t_eql (a b : ByteArray) : strB .eql a b = some ([], .val (.bool (decide (a = b)))) := rfl
theorem t_neq (a b : ByteArray) : strB .neq a b = some ([], .val (.bool (!decide (a = b)))) := rfl
theorem t_lss (a b : ByteArray) : strB .lss a b = some ([], .val (.bool (Op.bytesLess a.data.toList b.data.toList))) := rfl
theorem x_str (P : Program) (i : Int) (s : ByteArray) : ixB P (some .string) (.val (.int k i)) (.val (.string s)) = some ([0 ≤ i ∧ i < s.size], .val (.int .u8 (bt s i))) := rfl
theorem y_sl (P : Program) (i : Int) (j : Nat) (xs : List PV) (o : Bool) (e : TypeId) : iaB P (some (.slice e)) (.val (.int k i)) (.sl j xs o) = some ([sz P e ≠ 0, j = sz P e, 0 ≤ i ∧ i < xs.length], .vptr (xs.getD i.toNat (zD P e)).cells 0) := rfl
theorem l_f (P : Program) (M : List Blk) (u : TypeId) (cs : List PV) (off : Nat) : ldB P M u (some false) (.vptr cs off) = some ([off < cs.length], cs.getD off (zD P u)) := rfl
theorem l_t (P : Program) (M : List Blk) (u : TypeId) (cs : List PV) (off : Nat) : ldB P M u (some true) (.vptr cs off) = some ([off + sz P u ≤ cs.length], .agg ((cs.drop off).take (sz P u))) := rfl
theorem y_slt (P : Program) (i : Int) (j : Nat) (xs ys : List PV) (e : TypeId) : iaB P (some (.slice e)) (.val (.int k i)) (.slt j xs ys) = some ([sz P e ≠ 0, j = sz P e, 0 ≤ i ∧ i < xs.length], .vptr (xs.getD i.toNat (zD P e)).cells 0) := rfl
theorem y_rs (P : Program) (i : Int) (kk b off n c : Nat) (e : TypeId) : iaB P (some (.slice e)) (.val (.int k i)) (.rs kk b off n c) = some ([sz P e ≠ 0, 0 ≤ i ∧ i < n], .ptr b (off + i.toNat * sz P e)) := rfl
theorem y_ap (P : Program) (i : Int) (b off n : Nat) (e : TypeId) : iaB P (some (.array n e)) (.val (.int k i)) (.ptr b off) = some ([sz P e ≠ 0, 0 ≤ i ∧ i < n], .ptr b (off + i.toNat * sz P e)) := rfl
theorem y_av (P : Program) (i : Int) (cs : List PV) (off n : Nat) (e : TypeId) : iaB P (some (.array n e)) (.val (.int k i)) (.vptr cs off) = some ([sz P e ≠ 0, 0 ≤ i ∧ i < n], .vptr cs (off + i.toNat * sz P e)) := rfl
def ldC (P : Program) (u : TypeId) (g : Bool) (off : Nat) (b : Option Blk) : Option (List Prop × PV) := match b, g with
 | some (.live cs), false => some ([off < cs.length], cs.getD off (zD P u))
 | some (.live cs), true => some ([off + sz P u ≤ cs.length], .agg ((cs.drop off).take (sz P u)))
 | some (.bld _ _ cs _), false => some ([off < cs.length], cs.getD off (zD P u))
 | _, _ => none
theorem l_p (P : Program) (M : List Blk) (u : TypeId) (g : Bool) (b off : Nat) : ldB P M u (some g) (.ptr b off) = ldC P u g off M[b]? := by
 cases g <;> (unfold ldB ldC; simp only; cases M[b]? with | none => rfl | some x => cases x <;> rfl)
theorem l_pb (P : Program) (u T e : TypeId) (off : Nat) (cs : List PV) (s : ByteArray) : ldC P u false off (some (.bld T e cs s)) = some ([off < cs.length], cs.getD off (zD P u)) := rfl
theorem l_pf (P : Program) (u : TypeId) (off : Nat) (cs : List PV) : ldC P u false off (some (.live cs)) = some ([off < cs.length], cs.getD off (zD P u)) := rfl
theorem l_pt (P : Program) (u : TypeId) (off : Nat) (cs : List PV) : ldC P u true off (some (.live cs)) = some ([off + sz P u ≤ cs.length], .agg ((cs.drop off).take (sz P u))) := rfl
def stC (P : Program) (t : TypeId) (s : Option Tmp) (b off : Nat) (v : PV) (B : Option Blk) : Option (List Prop × (PV × Eff)) := match B with
 | some (.live cs) => some ([¬ sz P t = 0, v.solid = true, v.cells.length = sz P t, off + v.cells.length ≤ cs.length], (.junk, { strip := s, mem := .store b off v.cells }))
 | _ => none
theorem sB_p (P : Program) (M : List Blk) (t : TypeId) (s : Option Tmp) (b off : Nat) (v : PV) : stB P M t s (.ptr b off) v = stC P t s b off v M[b]? := by
 unfold stB stC; simp only; cases M[b]? with | none => rfl | some x => cases x <;> rfl
theorem sB_l (P : Program) (t : TypeId) (s : Option Tmp) (b off : Nat) (v : PV) (cs : List PV) : stC P t s b off v (some (.live cs)) = some ([¬ sz P t = 0, v.solid = true, v.cells.length = sz P t, off + v.cells.length ≤ cs.length], (.junk, { strip := s, mem := .store b off v.cells })) := rfl
def mSt (M : List Blk) (b off : Nat) (vs : List PV) (B : Option Blk) : List Blk := match B with
 | some (.live cs) => M.set b (.live (splice cs off vs))
 | _ => M
theorem m_st (M : List Blk) (b off : Nat) (vs : List PV) : mApply (.store b off vs) M = mSt M b off vs M[b]? := by
 unfold mApply mSt; simp only; cases M[b]? with | none => rfl | some x => cases x <;> rfl
theorem m_sl (M : List Blk) (b off : Nat) (vs cs : List PV) : mSt M b off vs (some (.live cs)) = M.set b (.live (splice cs off vs)) := rfl
theorem m_nw (M : List Blk) (vs : List PV) : mApply (.new vs) M = M ++ [.live vs] := rfl
theorem m_nB (M : List Blk) (T e : TypeId) (pre : List PV) : mApply (.newB T e pre) M = M ++ [.bld T e pre ⟨#[]⟩] := rfl
theorem m_no (M : List Blk) : mApply .none M = M := rfl
theorem mk_v (P : Program) (n0 : Nat) (e : TypeId) (n m : Int) : mkB P n0 false (some (.slice e)) (.val (.int .i64 n)) (.val (.int .i64 m)) = some ([0 ≤ n, n ≤ m, ¬ sz P e = 0, zsz P e = some (sz P e), roomy m.toNat (byt P e) = true, zeroP P e = some (zD P e), (zD P e).solid = true], (.rs (sz P e) n0 0 n.toNat m.toNat, { mem := .new (zeros (zD P e) m.toNat (sz P e)) })) := rfl
theorem mk_c (P : Program) (n0 : Nat) (u : Option TypeDesc) (l m : PV) : mkB P n0 true u l m = none := rfl
theorem ap_s (k : Nat) (P : Program) (e e' : TypeId) (s : Option Tmp) (j : Nat) (xs ys : List PV) (o o' : Bool) : apB P (some (.slice e)) (some (.slice e')) s (.sl k xs o) (.sl j ys o') = some ([¬ sz P e = 0, zsz P e = some (sz P e), (k = sz P e ∧ o = true) ∨ k = 0, roomy (xs.length + ys.length) (byt P e) = true, j = sz P e ∨ ys = []], (.sl (sz P e) (xs ++ ys) true, { strip := s })) := rfl
theorem ap_z (P : Program) (e e' : TypeId) (s : Option Tmp) (j : Nat) (ys : List PV) (o' : Bool) : apB P (some (.slice e)) (some (.slice e')) s (.slt 0 [] []) (.sl j ys o') = some ([¬ sz P e = 0, zsz P e = some (sz P e), ¬ ys = [], roomy ys.length (byt P e) = true, j = sz P e ∨ ys = []], (.sl (sz P e) ys true, {})) := rfl
theorem ap_t (k : Nat) (P : Program) (e e' : TypeId) (s : Option Tmp) (j : Nat) (xs ys zs : List PV) (o : Bool) : apB P (some (.slice e)) (some (.slice e')) s (.sl k xs o) (.slt j ys zs) = some ([¬ sz P e = 0, zsz P e = some (sz P e), (k = sz P e ∧ o = true) ∨ k = 0, roomy (xs.length + ys.length) (byt P e) = true, j = sz P e], (.sl (sz P e) (xs ++ ys) true, { strip := s })) := rfl
theorem ap_b (k : Nat) (P : Program) (e : TypeId) (s : Option Tmp) (xs : List PV) (o : Bool) (b : ByteArray) : apB P (some (.slice e)) (some .string) s (.sl k xs o) (.val (.string b)) = some ([¬ sz P e = 0, zsz P e = some (sz P e), (k = sz P e ∧ o = true) ∨ k = 0, roomy (xs.length + (b.data.toList.map byteP).length) (byt P e) = true, sz P e = 1], (.sl (sz P e) (xs ++ b.data.toList.map byteP) true, { strip := s })) := rfl
theorem u_neg (n : Int) : unP .neg (.val (.int k n)) = some (.val (.int k (k.wrap (0 - n)))) := rfl
theorem u_not : unP .not (.val (.bool s)) = some (.val (.bool (!s))) := rfl
theorem lo0 : loB none = some 0 := rfl
theorem lo1 (l : Int) : loB (some (.val (.int k l))) = some l := rfl
theorem hi0 (n : Nat) : hiB n none = some (n : Int) := rfl
theorem hi1 (n : Nat) (l : Int) : hiB n (some (.val (.int k l))) = some l := rfl
def slsB (s : ByteArray) (l h : Option Int) : Option (List Prop × PV) := match l, h with
 | some l, some h => some ([0 ≤ l ∧ l ≤ h ∧ h ≤ s.size], .val (.string (s.extract l.toNat h.toNat)))
 | _, _ => none
theorem sl_s (P : Program) (s : ByteArray) (lo hi : Option PV) : slB P (some .string) (.val (.string s)) lo hi = slsB s (loB lo) (hiB s.size hi) := rfl
theorem sl_sv (s : ByteArray) (l h : Int) : slsB s (some l) (some h) = some ([0 ≤ l ∧ l ≤ h ∧ h ≤ s.size], .val (.string (s.extract l.toNat h.toNat))) := rfl
def sllB (own p q : Bool) (k z : Nat) (xs : List PV) (l h : Option Int) : Option (List Prop × PV) := match l, h with
 | some l, some h => some ([z ≠ 0, k = z ∨ xs = [], 0 ≤ l ∧ l ≤ h ∧ h ≤ xs.length], slRes own p q (zOf k z) xs l.toNat h.toNat)
 | _, _ => none
def sltB (z k : Nat) (xs ys : List PV) (l h : Option Int) : Option (List Prop × PV) := match l, h with
 | some l, some h => some ([z ≠ 0, k = z, 0 ≤ l ∧ l ≤ h ∧ h ≤ xs.length + ys.length], .slt k (((xs ++ ys).take h.toNat).drop l.toNat) ((xs ++ ys).drop h.toNat))
 | _, _ => none
def slrB (z b off cap : Nat) (l h : Option Int) : Option (List Prop × PV) := match l, h with
 | some l, some h => some ([z ≠ 0, 0 ≤ l ∧ l ≤ h ∧ h ≤ cap], rsRes b off l.toNat h.toNat cap z)
 | _, _ => none
theorem sl_l (P : Program) (k : Nat) (xs : List PV) (o : Bool) (e : TypeId) (lo hi : Option PV) : slB P (some (.slice e)) (.sl k xs o) lo hi = sllB o lo.isSome hi.isSome k (sz P e) xs (loB lo) (hiB xs.length hi) := by
 simp only [slB]; unfold sllB; cases loB lo <;> cases hiB xs.length hi <;> rfl
theorem sl_lv (o p q : Bool) (k z : Nat) (xs : List PV) (l h : Int) : sllB o p q k z xs (some l) (some h) = some ([z ≠ 0, k = z ∨ xs = [], 0 ≤ l ∧ l ≤ h ∧ h ≤ xs.length], slRes o p q (zOf k z) xs l.toNat h.toNat) := rfl
theorem zf_0 (z : Nat) : zOf 0 z = 0 := rfl
theorem zf_1 (k z : Nat) : zOf (k + 1) z = z := rfl
theorem sl_t (P : Program) (k : Nat) (xs ys : List PV) (e : TypeId) (lo hi : Option PV) : slB P (some (.slice e)) (.slt k xs ys) lo hi = sltB (sz P e) k xs ys (loB lo) (hiB xs.length hi) := by
 simp only [slB]; unfold sltB; cases loB lo <;> cases hiB xs.length hi <;> rfl
theorem sl_tv (z k : Nat) (xs ys : List PV) (l h : Int) : sltB z k xs ys (some l) (some h) = some ([z ≠ 0, k = z, 0 ≤ l ∧ l ≤ h ∧ h ≤ xs.length + ys.length], .slt k (((xs ++ ys).take h.toNat).drop l.toNat) ((xs ++ ys).drop h.toNat)) := rfl
theorem sl_r (P : Program) (kk b off n cap : Nat) (e : TypeId) (lo hi : Option PV) : slB P (some (.slice e)) (.rs kk b off n cap) lo hi = slrB (sz P e) b off cap (loB lo) (hiB n hi) := by
 simp only [slB]; unfold slrB; cases loB lo <;> cases hiB n hi <;> rfl
theorem sl_a (P : Program) (b off n : Nat) (e : TypeId) (lo hi : Option PV) : slB P (some (.array n e)) (.ptr b off) lo hi = slrB (sz P e) b off n (loB lo) (hiB n hi) := by
 simp only [slB]; unfold slrB; cases loB lo <;> cases hiB n hi <;> rfl
theorem sl_rv (z b off cap : Nat) (l h : Int) : slrB z b off cap (some l) (some h) = some ([z ≠ 0, 0 ≤ l ∧ l ≤ h ∧ h ≤ cap], rsRes b off l.toNat h.toNat cap z) := rfl
theorem sr_o (z : Nat) (xs : List PV) (l h : Nat) : slRes true false true z xs l h = .slt z (xs.take h) (xs.drop h) := rfl
theorem sr_f (p q : Bool) (z : Nat) (xs : List PV) (l h : Nat) : slRes false p q z xs l h = .sl z ((xs.take h).drop l) false := rfl
theorem sr_l (o q : Bool) (z : Nat) (xs : List PV) (l h : Nat) : slRes o true q z xs l h = .sl z ((xs.take h).drop l) false := by cases o <;> rfl
theorem sr_h (o p : Bool) (z : Nat) (xs : List PV) (l h : Nat) : slRes o p false z xs l h = .sl z ((xs.take h).drop l) false := by cases o <;> cases p <;> rfl
theorem rr (b off l h cap z : Nat) : rsRes b off l h cap z = if l = cap then .sl z [] false else .rs z b (off + l * z) (h - l) (cap - l) := rfl
def vaQ (P : Program) (lo : Nat) (e : TypeId) (M : List Blk) (b off len cap : Nat) (ys : List PV) (ps : List Prop) (o : Option Blk) : AR := match o with
 | some (.live cs) => .v ([¬ sz P e = 0, zsz P e = some (sz P e), zOne P e = true, lo ≤ b, off = 0, cap * sz P e ≤ cs.length, avoidL b cs = true, (M.set b (.live [])).all (·.avoid b) = true, roomy (len + ys.length) (byt P e) = true] ++ ps)
   (len + ys.length) (some b) (fun c => (.rs (sz P e) b 0 (len + ys.length) c, M.set b (.live (padded (cs.take (len * sz P e) ++ stripL (ys.flatMap PV.cells)) (c * sz P e)))))
 | _ => .no
theorem vq_l (P : Program) (lo : Nat) (e : TypeId) (M : List Blk) (b off len cap : Nat) (ys : List PV) (ps : List Prop) (cs : List PV) : vaQ P lo e M b off len cap ys ps (some (.live cs)) =
  .v ((¬ sz P e = 0) :: (zsz P e = some (sz P e)) :: (zOne P e = true) :: (lo ≤ b) :: (off = 0) :: (cap * sz P e ≤ cs.length) :: (avoidL b cs = true) :: ((M.set b (.live [])).all (·.avoid b) = true) :: (roomy (len + ys.length) (byt P e) = true) :: ps)
   (len + ys.length) (some b) (fun c => (.rs (sz P e) b 0 (len + ys.length) c, M.set b (.live (padded (cs.take (len * sz P e) ++ stripL (ys.flatMap PV.cells)) (c * sz P e))))) := rfl
def vaN (P : Program) (e : TypeId) (M : List Blk) (ys : List PV) (ps : List Prop) : AR := .v ((¬ sz P e = 0) :: (zsz P e = some (sz P e)) :: (zOne P e = true) :: (¬ ys = []) :: (roomy ys.length (byt P e) = true) :: ps) ys.length none (fun c => (.rs (sz P e) M.length 0 ys.length c, M ++ [.live (padded (stripL (ys.flatMap PV.cells)) (c * sz P e))]))
theorem vv_n (P : Program) (lo : Nat) (e e' : TypeId) (M : List Blk) (o o' : Bool) (j : Nat) (ys : List PV) : vaB P lo (some (.slice e)) (some (.slice e')) M (.sl 0 [] o) (.sl j ys o') = vaN P e M ys [j = sz P e ∨ ys = []] := rfl
theorem vv_nt (P : Program) (lo : Nat) (e e' : TypeId) (M : List Blk) (o : Bool) (j : Nat) (ys zs : List PV) : vaB P lo (some (.slice e)) (some (.slice e')) M (.sl 0 [] o) (.slt j ys zs) = vaN P e M ys [j = sz P e] := rfl
theorem vv_r (P : Program) (lo : Nat) (e e' : TypeId) (M : List Blk) (o' : Bool) (k b off len cap j : Nat) (ys : List PV) : vaB P lo (some (.slice e)) (some (.slice e')) M (.rs k b off len cap) (.sl j ys o') = vaQ P lo e M b off len cap ys [j = sz P e ∨ ys = []] M[b]? := by
 unfold vaB vaQ
 simp only [rowB]
 cases M[b]? with
 | none => rfl
 | some x => cases x <;> rfl
theorem vv_rt (P : Program) (lo : Nat) (e e' : TypeId) (M : List Blk) (k b off len cap j : Nat) (ys zs : List PV) : vaB P lo (some (.slice e)) (some (.slice e')) M (.rs k b off len cap) (.slt j ys zs) = vaQ P lo e M b off len cap ys [j = sz P e] M[b]? := by
 unfold vaB vaQ
 simp only [rowB]
 cases M[b]? with
 | none => rfl
 | some x => cases x <;> rfl
theorem kb_n (T : List BV) : killB none T = T := rfl
theorem kb_0 (b : Nat) : killB (some b) [] = [] := rfl
theorem kb_1 (b : Nat) (x : BV) (T : List BV) : killB (some b) (x :: T) = x.kill (some b) :: killB (some b) T := rfl
theorem kv_p (b : Nat) (p : PV) : (BV.pv p).kill (some b) = .pv (bif p.avoid b then p else .junk) := rfl
theorem kv_m (b : Nat) (c : Bool) (p : PV) : (BV.may c p).kill (some b) = .may c (bif p.avoid b then p else .junk) := rfl
theorem dr_i (l : List Oper) : (ri l).dr = false := rfl
theorem dr_d (l : List Oper) : (riD l).dr = true := rfl
theorem b_bb (op : BinOp) (a b : Bool) : bB s op (.val (.bool a)) (.val (.bool b)) = none := rfl
theorem bn_e {P : Program} {t : TypeId} (h : P.underlying t = some .bool) (x y : Operand) (a b : Bool) : binP P .eql t x y (.val (.bool a)) (.val (.bool b)) = some (.val (.bool (decide (a = b)))) := by
 simp [binP, binV, h, askable, eqD]
theorem bn_n {P : Program} {t : TypeId} (h : P.underlying t = some .bool) (x y : Operand) (a b : Bool) : binP P .neq t x y (.val (.bool a)) (.val (.bool b)) = some (.val (.bool (!decide (a = b)))) := by
 simp [binP, binV, h, askable, eqD]
theorem b_str (op : BinOp) (a b : ByteArray) : bB s op (.val (.string a)) (.val (.string b)) = strB op a b := rfl
end
section
variable (E : Env) (D : FuncId → Option CB) (s : Bool) (T : List BV) (M : List Blk) (K : KB)
theorem c_skip : awpB E D s .skip T M K = K .normal T M := rfl
theorem c_reg (i : Nat) (ops : Array Oper) : awpB E D s (.region i ops false) T M K = opsB E D s (ri ops.toList) ops.toList T M (K .normal) := rfl
theorem c_drw (i : Nat) (ops : Array Oper) : awpB E D s (.region i ops true) T M K = (DrawOk E (conD D) ops.toList ∧ opsB E D s (riD ops.toList) ops.toList T M (K .normal)) := rfl
theorem c_seq (a b : Code) : awpB E D s (.seq a b) T M K = awpB E D s a T M (seqB (awpB E D s b) K) := rfl
def cdB (c : PV) (E : Env) (D : FuncId → Option CB) (s : Bool) (x y : Code) (T : List BV) (M : List Blk) (K : KB) : Prop := condB c (awpB E D s x T M K) (awpB E D s y T M K)
theorem c_cond (c : Operand) (x y : Code) : awpB E D s (.cond c x y) T M K = conj (obB T c) (cdB (evB E.G T c) E D s x y T M K) := rfl
theorem c_bool (b : Bool) (x y : Code) : cdB (.val (.bool b)) E D s x y T M K = ((b = true → awpB E D s x T M K) ∧ (b = false → awpB E D s y T M K)) := rfl
theorem c_block (id : Nat) (c : Code) : awpB E D s (.block id c) T M K = awpB E D s c T M (blockB id K) := rfl
theorem c_loop (c : Code) : awpB E D s (.loop c) T M K = loopBI E.lo (awpB E D s c) T M K := rfl
theorem c_rf (g : Operand) (ps : Array Tmp) (as bd : Code) : awpB E D s (.rangeFunc g ps as bd) T M K = conj (obB T g) (rfB E D ps as bd (evB E.G T g) T M K) := rfl
theorem c_exit (id : Nat) : awpB E D s (.exit id) T M K = K (.exit id) T M := rfl
theorem c_ret : awpB E D s .ret T M K = K .ret T M := rfl
theorem c_label (n : Nat) : awpB E D s (.label n) T M K = K .normal T M := rfl
theorem q_n (f : List BV → List Blk → KB → Prop) : seqB f K .normal T M = f T M K := rfl
theorem q_x (f : List BV → List Blk → KB → Prop) (id : Nat) : seqB f K (.exit id) T M = K (.exit id) T M := rfl
theorem q_r (f : List BV → List Blk → KB → Prop) : seqB f K .ret T M = K .ret T M := rfl
theorem w_n (id : Nat) : blockB id K .normal T M = K .normal T M := rfl
theorem w_x (id id' : Nat) : blockB id K (.exit id') T M = if id' = id then K .normal T M else K (.exit id') T M := rfl
theorem w_r (id : Nat) : blockB id K .ret T M = K .ret T M := rfl
theorem z_n (P : Program) (fn : Func) (Q : PV → List Blk → Prop) : retBK P fn Q .normal T M = conj (retOB T fn.results.toList) (kr (retB P T M fn.results.toList) M Q) := rfl
theorem z_r (P : Program) (fn : Func) (Q : PV → List Blk → Prop) : retBK P fn Q .ret T M = conj (retOB T fn.results.toList) (kr (retB P T M fn.results.toList) M Q) := rfl
theorem ro0 : retOB T [] = [] := rfl
theorem ro1 (t : Tmp) (rs : List ResultVar) : retOB T (.tmp t :: rs) = (getB T t).ob ++ retOB T rs := rfl
theorem ro2 (t : Tmp) (u : TypeId) (rs : List ResultVar) : retOB T (.cell t u :: rs) = (getB T t).ob ++ retOB T rs := rfl
def rs1 (v : PV) (r : Option (List PV)) : Option (List PV) := match r with
 | some vs => some (v :: vs.map PV.strip)
 | none => none
theorem rs1s (v : PV) (vs : List PV) : rs1 v (some vs) = some (v :: vs.map PV.strip) := rfl
theorem rb0 (P : Program) : retB P T M [] = some [] := rfl
theorem rb1 (P : Program) (t : Tmp) (rs : List ResultVar) : retB P T M (.tmp t :: rs) = rs1 (getB T t).v (retB P T M rs) := rfl
variable {α : Type} (lo : Nat) (S : α → List PV) (N : α → List Blk) (P : α → Prop) (μ : α → Nat) (x : α)
theorem lq_n : loopBQ lo S N P μ x K .normal T M = ∃ y, P y ∧ μ y < μ x ∧ Gc lo (T.map BV.den) M (S y) (N y) := rfl
theorem lq_x (id : Nat) : loopBQ lo S N P μ x K (.exit id) T M = K (.exit id) T M := rfl
theorem lq_r : loopBQ lo S N P μ x K .ret T M = K .ret T M := rfl
end
def ov (T : List PV) : List (Nat × PV) → List PV
 | [] => T
 | (n, v) :: l => ov (T.set n v) l
def jk (T : List PV) : List Nat → List PV
 | [] => T
 | n :: l => jk (T.set n .junk) l
def ovM (M : List Blk) : List (Nat × Blk) → List Blk
 | [] => M
 | (n, v) :: l => ovM (M.set n v) l
theorem ov0 (T : List PV) : ov T [] = T := rfl
theorem ov1 (T : List PV) (n : Nat) (v : PV) (l : List (Nat × PV)) : ov T ((n, v) :: l) = ov (T.set n v) l := rfl
theorem jk0 (T : List PV) : jk T [] = T := rfl
theorem jk1 (T : List PV) (n : Nat) (l : List Nat) : jk T (n :: l) = jk (T.set n .junk) l := rfl
theorem om0 (M : List Blk) : ovM M [] = M := rfl
theorem om1 (M : List Blk) (n : Nat) (v : Blk) (l : List (Nat × Blk)) : ovM M ((n, v) :: l) = ovM (M.set n v) l := rfl
theorem set0 {α : Type} (x : α) (xs : List α) (v : α) : (x :: xs).set 0 v = v :: xs := rfl
theorem set1 {α : Type} (x : α) (xs : List α) (n : Nat) (v : α) : (x :: xs).set (n + 1) v = x :: xs.set n v := rfl
theorem loopB_ov {α : Type} (W : List Nat) (U : α → List (Nat × PV)) (n : Nat) (V : α → List (Nat × Blk)) (P : α → Prop) (μ : α → Nat) (x0 : α) {lo : Nat} {f : List BV → List Blk → KB → Prop} {T : List BV} {M : List Blk} {K : KB}
  (hg : Gc lo (T.map BV.den) M (ov (jk (T.map BV.den) W) (U x0)) (ovM (M.take n) (V x0))) (h0 : P x0)
  (hr : ∀ x, P x → f (vals (ov (jk (T.map BV.den) W) (U x))) (ovM (M.take n) (V x)) (loopBQ lo (fun x => ov (jk (T.map BV.den) W) (U x)) (fun x => ovM (M.take n) (V x)) P μ x K)) : loopBI lo f T M K :=
 loopB_by _ _ P μ x0 hg h0 hr
theorem gcE (lo : Nat) (T : List PV) (M : List Blk) (T0 : List PV) (M0 : List Blk) : Gc lo T M T0 M0 = (Wk T T0 ∧ WkB (M.take M0.length) M0 ∧ (M0.length = M.length ∨ (lo ≤ M0.length ∧ ltL M0.length T0 = true ∧ M0.all (·.lt M0.length) = true))) := rfl
theorem wk_n : Wk [] [] = True := rfl
theorem wk_c (x y : PV) (xs ys : List PV) : Wk (x :: xs) (y :: ys) = (wk1 x y ∧ Wk xs ys) := rfl
theorem wk_j (x : PV) : wk1 x .junk = True := eq_true (.inl rfl)
theorem wk_s (x : PV) : wk1 x x = True := eq_true (.inr (.inl rfl))
theorem wk_i (k : IntKind) (a b : Int) : wk1 (.val (.int k a)) (.val (.int k b)) = (b = a) := by
 apply propext
 unfold wk1
 constructor
 ·rintro (h | h | h | ⟨o, k, o', h, _⟩)
  ·cases h
  ·cases h; rfl
  ·cases h; rfl
  ·cases h
 ·rintro rfl; exact .inr (.inl rfl)
theorem wk_b (a b : Bool) : wk1 (.val (.bool a)) (.val (.bool b)) = (b = a) := by
 apply propext
 unfold wk1
 constructor
 ·rintro (h | h | h | ⟨o, k, o', h, _⟩)
  ·cases h
  ·cases h; rfl
  ·cases h; rfl
  ·cases h
 ·rintro rfl; exact .inr (.inl rfl)
theorem wk_t (a b : ByteArray) : wk1 (.val (.string a)) (.val (.string b)) = (b = a) := by
 apply propext
 unfold wk1
 constructor
 ·rintro (h | h | h | ⟨o, k, o', h, _⟩)
  ·cases h
  ·cases h; rfl
  ·cases h; rfl
  ·cases h
 ·rintro rfl; exact .inr (.inl rfl)
theorem wk_z (k : Nat) (o o' : Bool) : wk1 (.sl 0 [] o) (.sl k [] o') = True := eq_true (.inr (.inr (.inr ⟨o, k, o', rfl, rfl⟩)))
theorem wkB_n : WkB [] [] = True := rfl
theorem wkB_l (c c' : List PV) (xs ys : List Blk) : WkB (.live c :: xs) (.live c' :: ys) = (Wk c c' ∧ WkB xs ys) := rfl
end Go.Ve
