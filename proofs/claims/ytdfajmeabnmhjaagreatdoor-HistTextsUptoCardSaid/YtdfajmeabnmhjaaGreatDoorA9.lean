/- weirlaw30.HistTexts: part of the proof (a value semantics for the model's code, and the functions told by it). -/
import Derived.Test.YtdfajmeabnmhjaaGreatDoorA8
set_option linter.unusedSimpArgs false
set_option linter.unusedVariables false
set_option linter.deprecated false
namespace Go.Ve
def arO : Option (PV × Eff) → AR
 | some (v, e) => .q [] v e
 | none => .no
def arE : Option (List Prop × (PV × Eff)) → Option (PV × Eff) → AR
 | some (ps, (v, e)), _ => .q ps v e
 | none, some (v, e) => .q [] v e
 | none, none => .no
def arV : Option PV → AR
 | some v => .q [] v.strip {}
 | none => .no
def arP : Option (List Prop × PV) → Option PV → AR
 | some (ps, r), _ => .q ps r.strip {}
 | none, some r => .q [] r.strip {}
 | none, none => .no
def lentB (b : Bool) (vs : List PV) (r : PV) : List Prop := match b with
 | false => []
 | true => [norefL vs = true, r.scalar = true]
def callB (Y : Option Yd) (W : List Blk) : Option CB → List PV → AR
 | some (.fn F), vs => match F (vs.map (brw W)) with
  | some (ps, r) => .q (ps ++ lentB (vs.any PV.isRef) (vs.map (brw W)) r) r {}
  | none => .no
 | some (.con (.pure _)), _ => .no
 | some (.con c), vs => .g [] (conY Y c) vs
 | none, _ => .no
def yB : Option Yd → Nat → List PV → AR
 | some y, l, vs => .g [l = y.l] (up y.T) vs
 | none, _, _ => .no
def valB (Y : Option Yd) (D : FuncId → Option CB) (W : List Blk) (f : PV) (vs : List PV) : AR := match f with
 | .func (.func g) first cap => callB Y W (D g) (first.map PV.strip ++ vs ++ cap.map PV.strip)
 | .func (.yield l) [] [] => yB Y l vs
 | _ => .no
def imp (b : Bool) (w : Bool) : List Prop → List Prop
 | [] => []
 | p :: ps => (b = w → p) :: imp b w ps
theorem imp_all {b w : Bool} {ps : List Prop} (h : All (imp b w ps)) (hb : b = w) : All ps := by
 induction ps with
 | nil => exact All.nil
 | cons p ps ih => exact .cons (h (b = w → p) (by simp [imp]) hb) (ih fun q hq => h q (by simp [imp, hq]))
def pkB (c : PV) (x y : BV) : AR := match c with
 | .val (.bool t) => .q (imp t true x.ob ++ imp t false y.ob) (mrg t x.v y.v).strip {}
 | _ => .no
def bvB (G : Nat → Option (List PV)) (T : List BV) : Operand → BV
 | .tmp t => getB T t
 | x => .pv (evB G T x)
def vaB (P : Program) (lo : Nat) (u u' : Option TypeDesc) (M : List Blk) (x y : PV) : AR := match u with
 | some (.slice e) => match rowB P e u' y with
  | some (ps, ys) => match x with
   | .sl 0 [] _ => .v ([¬ sz P e = 0, zsz P e = some (sz P e), zOne P e = true, ¬ ys = [], roomy ys.length (byt P e) = true] ++ ps) ys.length none (fun c => (.rs (sz P e) M.length 0 ys.length c, M ++ [.live (padded (stripL (ys.flatMap PV.cells)) (c * sz P e))]))
   | .rs _ b off len cap => match M[b]? with
    | some (.live cs) => .v ([¬ sz P e = 0, zsz P e = some (sz P e), zOne P e = true, lo ≤ b, off = 0, cap * sz P e ≤ cs.length, avoidL b cs = true, (M.set b (.live [])).all (·.avoid b) = true, roomy (len + ys.length) (byt P e) = true] ++ ps)
      (len + ys.length) (some b) (fun c => (.rs (sz P e) b 0 (len + ys.length) c, M.set b (.live (padded (cs.take (len * sz P e) ++ stripL (ys.flatMap PV.cells)) (c * sz P e)))))
    | _ => .no
   | _ => .no
  | none => .no
 | _ => .no
def vbs (P : Program) (M : List Blk) (n k : Nat) (u : Option TypeDesc) : AR := match u with
 | some (.slice e) => .q [n = 0, k = 0, ¬ sz P e = 0, zsz P e = some (sz P e)] (.rs (sz P e) M.length 0 0 0) { mem := .new [] }
 | _ => .no
def vlB (P : Program) (M : List Blk) (t : TypeId) (g : Option Bool) (x : PV) : AR := match x with
 | .ptr b off => match M[b]? with
  | some (.live cs) => match g with
   | some true => .q [off + sz P t ≤ cs.length] (.agg ((cs.drop off).take (sz P t))) { mem := .store b off (stripL ((cs.drop off).take (sz P t))) }
   | some false => .q [off + 1 ≤ cs.length] (cs.getD off .junk) { mem := .store b off (stripL ((cs.drop off).take 1)) }
   | none => .no
  | _ => .no
 | _ => .no
def bldB (P : Program) (G : Nat → Option (List PV)) (T : List BV) (t : TypeId) (parts : Array (Nat × Operand)) : AR := match buildP P t (parts.toList.map fun p => (p.1, evB G T p.2)) with
 | some r => .b [(parts.toList.filterMap fun p => stripO p.2).Nodup] r (parts.toList.filterMap fun p => stripO p.2)
 | none => .no
def bldM (P : Program) (n0 : Nat) (t : TypeId) (so : Bool) : Option (List PV) → AR
 | some pre => .q [so = true, norefL pre = true] (.ptr n0 0) { mem := .newB t (bldD P t) pre }
 | none => .no
def alV (P : Program) (n0 : Nat) (t : TypeId) : Option PV → AR
 | some z => bldM P n0 t z.solid (splitB z.cells)
 | none => .no
def vecB (E : Env) (T : List BV) (M : List Blk) : Op → AR
 | .call { callee := .builtin .append, args, argTypes } => match args.toList, argTypes.toList with
  | [x, y], [t, t'] => vaB E.P E.lo (E.P.underlying t) (E.P.underlying t') M (evB E.G T x) (evB E.G T y)
  | _, _ => .no
 | .buildSlice t n parts => vbs E.P M n parts.size (E.P.underlying t)
 | .load t x => vlB E.P M t (aggT E.P t) (evB E.G T x)
 | .makeSlice u x y => arE (mkB E.P M.length false (E.P.underlying u) (evB E.G T x) (evB E.G T y)) none
 | .build t parts => bldB E.P E.G T t parts
 | .alloc t => alV E.P M.length t (zeroP E.P t)
 | .box t x => bldM E.P M.length t (evB E.G T x).solid (splitB (evB E.G T x).cells)
 | _ => .no
def vcSel (b : Bool) (x y : AR) : AR := match b with
 | true => x
 | false => y
def actB0 (E : Env) (D : FuncId → Option CB) (s : Bool) (R : RI) (T : List BV) (M : List Blk) (d : Option Tmp) (op : Op) : AR :=
 match op with
 | .call { callee := .value f, args, .. } => valB E.Y D (Ve.seen R.dr M []) (evB E.G T f) (args.toList.map fun x => (evB E.G T x).strip)
 | .pick c a b => pkB (evB E.G T c) (bvB E.G T a) (bvB E.G T b)
 | .binOp op u x y _ => arP (bB s op (evB E.G T x) (evB E.G T y)) (binP E.P op u x y (evB E.G T x) (evB E.G T y))
 | .index u x ix => arP (ixB E.P (E.P.underlying u) (evB E.G T ix) (evB E.G T x)) (indexP E.P u (evB E.G T x) (evB E.G T ix))
 | .indexAddr u x ix => arP (iaB E.P (E.P.underlying u) (evB E.G T ix) (evB E.G T x)) (iaP E.P u (evB E.G T x) (evB E.G T ix))
 | .load u x => arP (ldB E.P M u (aggT E.P u) (evB E.G T x)) (loadP E.P M u (evB E.G T x))
 | .slice u x lo hi none => arP (slB E.P (E.P.underlying u) (evB E.G T x) (lo.map (evB E.G T)) (hi.map (evB E.G T))) (slP E.P u (evB E.G T x) (lo.map (evB E.G T)) (hi.map (evB E.G T)))
 | .call { callee := .builtin .len, args, argTypes } => arV (lenP E.P (args.toList.map (evB E.G T)) argTypes.toList)
 | .unOp op _ x => arV (unP op (evB E.G T x))
 | .nilCheck x => arV (nilP (evB E.G T x))
 | .store u x y => arE (stB E.P M u (stripO y) (evB E.G T x) (evB E.G T y)) (stP E.P M u (stripO y) (evB E.G T x) (evB E.G T y))
 | .makeSlice u x y => arE (mkB E.P M.length (isConst x) (E.P.underlying u) (evB E.G T x) (evB E.G T y)) (mkP E.P M.length (isConst x) (E.P.underlying u) (evB E.G T x) (evB E.G T y))
 | .fieldAddr u x f => arV (faP E.P u f (evB E.G T x))
 | .field u x f => arV (fiP E.P u f (evB E.G T x))
 | .call { callee := .builtin .append, args, argTypes } => match args.toList, argTypes.toList with
  | [x, y], [t, t'] => arE (apB E.P (E.P.underlying t) (E.P.underlying t') (stripO x) (evB E.G T x) (evB E.G T y)) (apP E.P (E.P.underlying t) (E.P.underlying t') (seen R.dr M []) (stripO x) (evB E.G T x) (evB E.G T y))
  | _, _ => .no
 | .call { callee := .builtin .clear, args, argTypes } => match args.toList, argTypes.toList with
  | [x], [t] => arE (clB E.P (E.P.underlying t) M (evB E.G T x)) (clP E.P (E.P.underlying t) M (evB E.G T x))
  | _, _ => .no
 | op => arO (outfE E.P (evB E.G T) M R d op)
def actB (E : Env) (D : FuncId → Option CB) (s : Bool) (R : RI) (T : List BV) (M : List Blk) (d : Option Tmp) (op : Op) : AR := vcSel (vcOn E R d op) (vecB E T M op) (actB0 E D s R T M d op)
def askB (T : List BV) : Op → List Prop
 | .pick c _ _ => obB T c
 | .call { callee := .value f, args, .. } => obB T f ++ obsB T args.toList
 | op => obsB T (opnds op)
theorem outfE_len (P : Program) (ev : Operand → PV) (M : List Blk) (R : RI) (d : Option Tmp) (args : Array Operand) (ts : Array TypeId) : outfE P ev M R d (.call { callee := .builtin .len, args := args, argTypes := ts }) = (lenP P (args.toList.map ev) ts.toList).map fun r => (r.strip, {}) := by
 simp only [outfE, qvalE]
 congr 1
 unfold lenP
 cases ha : args.toList with
 | nil => rfl
 | cons x xs =>
  cases xs with
  | nil =>
   cases ht : ts.toList with
   | nil => rfl
   | cons u us =>
    cases us with
    | cons _ _ => rfl
    | nil =>
     simp only [List.map_cons, List.map_nil]
     generalize P.underlying u = o
     generalize ev x = q
     cases o with
     | none => rfl
     | some dd => cases dd <;> first | rfl | (cases q <;> first | rfl | (rename_i v; cases v <;> rfl))
  | cons y ys => rfl
theorem arV_q {o : Option PV} {ps : List Prop} {v : PV} {e : Eff} (h : arV o = .q ps v e) : (o.map fun r => (r.strip, ({} : Eff))) = some (v, e) := by
 cases o with
 | none => simp [arV] at h
 | some r => simp [arV] at h; obtain ⟨_, rfl, rfl⟩ := h; rfl
theorem arO_q {o : Option (PV × Eff)} {ps : List Prop} {v : PV} {e : Eff} (h : arO o = .q ps v e) : o = some (v, e) := by
 cases o with
 | none => simp [arO] at h
 | some r => obtain ⟨v', e'⟩ := r; simp [arO] at h; obtain ⟨_, rfl, rfl⟩ := h; rfl
theorem arP_q {o : Option (List Prop × PV)} {o' : Option PV} (hs : ∀ ps r, o = some (ps, r) → All ps → o' = some r) {ps : List Prop} {v : PV} {e : Eff} (h : arP o o' = .q ps v e) (hp : All ps) : (o'.map fun r => (r.strip, ({} : Eff))) = some (v, e) := by
 cases o with
 | none =>
  cases o' with
  | none => simp [arP] at h
  | some r => simp [arP] at h; obtain ⟨_, rfl, rfl⟩ := h; rfl
 | some q =>
  obtain ⟨ps', r⟩ := q
  simp [arP] at h
  obtain ⟨rfl, rfl, rfl⟩ := h
  rw [hs _ _ rfl hp]; rfl
theorem arE_q {o : Option (List Prop × (PV × Eff))} {o' : Option (PV × Eff)} (hs : ∀ ps r, o = some (ps, r) → All ps → o' = some r) {ps : List Prop} {v : PV} {e : Eff} (h : arE o o' = .q ps v e) (hp : All ps) : o' = some (v, e) := by
 cases o with
 | none =>
  cases o' with
  | none => simp [arE] at h
  | some r => obtain ⟨v', e'⟩ := r; simp [arE] at h; obtain ⟨_, rfl, rfl⟩ := h; rfl
 | some q =>
  obtain ⟨ps', v', e'⟩ := q
  simp [arE] at h
  obtain ⟨rfl, rfl, rfl⟩ := h
  exact hs _ _ rfl hp
theorem arE_g {o : Option (List Prop × (PV × Eff))} {o' : Option (PV × Eff)} {ps : List Prop} {W : PT} {args : List PV} : arE o o' ≠ .g ps W args := by cases o <;> cases o' <;> simp [arE]
theorem outfE_store (P : Program) (ev : Operand → PV) (M : List Blk) (R : RI) (d : Option Tmp) (u : TypeId) (x y : Operand) : outfE P ev M R d (.store u x y) = stP P M u (stripO y) (ev x) (ev y) := rfl
theorem outfE_mk (P : Program) (ev : Operand → PV) (M : List Blk) (R : RI) (d : Option Tmp) (u : TypeId) (x y : Operand) : outfE P ev M R d (.makeSlice u x y) = mkP P M.length (isConst x) (P.underlying u) (ev x) (ev y) := rfl
theorem qvalE_fa (P : Program) (ev : Operand → PV) (M : List Blk) (s : TypeId) (x : Operand) (f : Nat) : qvalE P ev M (.fieldAddr s x f) = faP P s f (ev x) := by
 simp only [qvalE, faP, fld]
 cases (fieldsOf P s).bind (·.toList[f]?) <;> rfl
theorem qvalE_fi (P : Program) (ev : Operand → PV) (M : List Blk) (s : TypeId) (x : Operand) (f : Nat) : qvalE P ev M (.field s x f) = fiP P s f (ev x) := by
 simp only [qvalE, fiP, fld]
 cases (fieldsOf P s).bind (·.toList[f]?) <;> cases ev x <;> rfl
theorem arV_g {o : Option PV} {ps : List Prop} {W : PT} {args : List PV} : arV o ≠ .g ps W args := by cases o <;> simp [arV]
theorem arO_g {o : Option (PV × Eff)} {ps : List Prop} {W : PT} {args : List PV} : arO o ≠ .g ps W args := by cases o <;> simp [arO]
theorem arP_g {o : Option (List Prop × PV)} {o' : Option PV} {ps : List Prop} {W : PT} {args : List PV} : arP o o' ≠ .g ps W args := by cases o <;> cases o' <;> simp [arP]
theorem arV_b {o : Option PV} {ps : List Prop} {v : PV} {ts : List Tmp} : arV o ≠ .b ps v ts := by cases o <;> simp [arV]
theorem arO_b {o : Option (PV × Eff)} {ps : List Prop} {v : PV} {ts : List Tmp} : arO o ≠ .b ps v ts := by cases o <;> simp [arO]
theorem arE_b {o : Option (List Prop × (PV × Eff))} {o' : Option (PV × Eff)} {ps : List Prop} {v : PV} {ts : List Tmp} : arE o o' ≠ .b ps v ts := by cases o <;> cases o' <;> simp [arE]
theorem arP_b {o : Option (List Prop × PV)} {o' : Option PV} {ps : List Prop} {v : PV} {ts : List Tmp} : arP o o' ≠ .b ps v ts := by cases o <;> cases o' <;> simp [arP]
theorem vaB_b {P : Program} {lo : Nat} {u u' : Option TypeDesc} {M : List Blk} {x y : PV} {ps : List Prop} {v : PV} {ts : List Tmp} : vaB P lo u u' M x y ≠ .b ps v ts := by
 unfold vaB
 split
 ·split
  ·split
   ·simp
   ·split <;> simp
   ·simp
  ·simp
 ·simp
theorem arV_v {o : Option PV} {ps : List Prop} {n : Nat} {k : Option Nat} {f : Nat → PV × List Blk} : arV o ≠ .v ps n k f := by cases o <;> simp [arV]
theorem arO_v {o : Option (PV × Eff)} {ps : List Prop} {n : Nat} {k : Option Nat} {f : Nat → PV × List Blk} : arO o ≠ .v ps n k f := by cases o <;> simp [arO]
theorem arE_v {o : Option (List Prop × (PV × Eff))} {o' : Option (PV × Eff)} {ps : List Prop} {n : Nat} {k : Option Nat} {f : Nat → PV × List Blk} : arE o o' ≠ .v ps n k f := by cases o <;> cases o' <;> simp [arE]
theorem arP_v {o : Option (List Prop × PV)} {o' : Option PV} {ps : List Prop} {n : Nat} {k : Option Nat} {f : Nat → PV × List Blk} : arP o o' ≠ .v ps n k f := by cases o <;> cases o' <;> simp [arP]
theorem vcSel_g {b : Bool} {x y : AR} {ps : List Prop} {W : PT} {args : List PV} (h : vcSel b x y = .g ps W args) (hx : x ≠ .g ps W args) : y = .g ps W args := by
 cases b with
 | true => exact absurd h hx
 | false => exact h
theorem bvB_den {E : Env} {T : List BV} {M : List Blk} (x : Operand) : aev E ⟨T.map BV.den, M⟩ x = (bvB E.G T x).den := by
 cases x with
 | tmp t => show (T.map BV.den).getD t undefP = _; rw [show bvB E.G T (.tmp t) = getB T t from rfl, getB_den]; rfl
 | _ => rfl
section
variable {E : Env} {D : FuncId → Option CB} {s : Bool} {R : RI} {T : List BV} {M : List Blk}
theorem actB0_q {o : Oper} (hvc : vcOn E R o.dst o.op = false) {ps : List Prop} {v : PV} {e : Eff} (h : actB0 E D s R T M o.dst o.op = .q ps v e) (ha : All (askB T o.op)) (hp : All ps) {K : St → Prop} (hK : K (app o v e ⟨T.map BV.den, M⟩)) : aop E (conD D) R o ⟨T.map BV.den, M⟩ K := by
 obtain ⟨d, op, t, p, af, gd⟩ := o
 simp only at h ha hvc
 have fin : ∀ (hn : ∀ f args ts, op ≠ .call { callee := .value f, args := args, argTypes := ts }) (ho : outfE E.P (aev E ⟨T.map BV.den, M⟩) M R d op = some (v, e)), aop E (conD D) R ⟨d, op, t, p, af, gd⟩ ⟨T.map BV.den, M⟩ K := by
  intro hn ho
  unfold aop
  split
  ·rename_i f args ts hop; exact absurd hop (hn _ _ _)
  ·have ho' : outf E R ⟨T.map BV.den, M⟩ ⟨d, op, t, p, af, gd⟩ = some (v, e) := ho
   simp only [hvc, ho']; exact hK
 have con : ∀ (hop : askB T op = obsB T (opnds op)), outfE E.P (aev E ⟨T.map BV.den, M⟩) M R d op = outfE E.P (evB E.G T) M R d op := by
  intro hop
  rw [hop] at ha
  exact outfE_congr _ _ _ _ _ (fun x hx => evB_aev (obsB_mem ha hx))
 unfold actB0 at h
 split at h
 ·
  rename_i f args ts
  unfold aop
  simp only [callee]
  obtain ⟨h1, h2⟩ := All.app.1 ha
  rw [evB_aev h1]
  unfold valB at h
  split at h
  ·rename_i g first cap hf
   rw [hf]
   simp only
   have hargs : (args.toList.map fun x => (aev E ⟨T.map BV.den, M⟩ x).strip) = (args.toList.map fun x => (evB E.G T x).strip) := List.map_congr_left fun x hx => by rw [evB_aev (obsB_mem h2 hx)]
   rw [hargs]
   unfold callB at h
   split at h
   ·rename_i F hD
    split at h
    ·rename_i ps' r hF
     simp only [AR.q.injEq] at h
     obtain ⟨rfl, rfl, rfl⟩ := h
     simp only [conD, hD, Option.map_some, CB.toCon]
     obtain ⟨hp1, hp2⟩ := All.app.1 hp
     refine ⟨_, ⟨⟨_, hF, hp1⟩, ?_⟩, by simpa [app, stripAt, mApply] using hK⟩
     generalize (first.map PV.strip ++ (args.toList.map fun x => (evB E.G T x).strip) ++ cap.map PV.strip) = vs at *
     cases hb : vs.any PV.isRef with
     | false => exact .inl rfl
     | true =>
      rw [hb] at hp2
      exact .inr ⟨hp2 _ (by simp [lentB]), hp2 _ (by simp [lentB])⟩
    ·simp at h
   ·simp at h
   ·simp at h
   ·simp at h
  ·unfold yB at h
   split at h <;> simp at h
  ·simp at h
 ·rename_i c a b
  refine fin (by intros; simp) ?_
  unfold pkB at h
  split at h
  ·rename_i tt hc
   simp only [AR.q.injEq] at h
   obtain ⟨rfl, rfl, rfl⟩ := h
   have hc' : aev E ⟨T.map BV.den, M⟩ c = .val (.bool tt) := by rw [evB_aev ha]; exact hc
   obtain ⟨p1, p2⟩ := All.app.1 hp
   simp only [outfE, qvalE, hc', Option.map_some, Option.some.injEq, Prod.mk.injEq, and_true]
   congr 1
   rw [mrg_eq, bvB_den, bvB_den]
   cases tt with
   | true => simp only [if_true]; exact BV.den_ob (imp_all p1 rfl)
   | false => simp only [Bool.false_eq_true, if_false]; exact BV.den_ob (imp_all p2 rfl)
  ·simp at h
 ·refine fin (by intros; simp) ?_
  rw [con rfl]
  exact arP_q (fun ps r h1 h2 => bB_sound h1 h2) h hp
 ·refine fin (by intros; simp) ?_
  rw [con rfl]
  exact arP_q (fun ps r h1 h2 => ixB_sound h1 h2) h hp
 ·refine fin (by intros; simp) ?_
  rw [con rfl]
  exact arP_q (fun ps r h1 h2 => iaB_sound h1 h2) h hp
 ·refine fin (by intros; simp) ?_
  rw [con rfl]
  exact arP_q (fun ps r h1 h2 => ldB_sound h1 h2) h hp
 ·refine fin (by intros; simp) ?_
  rw [con rfl]
  have := arP_q (fun ps r h1 h2 => slB_sound h1 h2) h hp
  rename_i lo hi
  cases lo <;> cases hi <;> exact this
 ·refine fin (by intros; simp) ?_
  rw [con rfl, outfE_len]
  exact arV_q h
 ·refine fin (by intros; simp) ?_
  rw [con rfl]
  exact arV_q h
 ·refine fin (by intros; simp) ?_
  rw [con rfl]
  exact arV_q h
 ·refine fin (by intros; simp) ?_
  rw [con rfl, outfE_store]
  exact arE_q (fun ps r h1 h2 => stB_sound h1 h2) h hp
 ·refine fin (by intros; simp) ?_
  rw [con rfl, outfE_mk]
  exact arE_q (fun ps r h1 h2 => mkB_sound h1 h2) h hp
 ·refine fin (by intros; simp) ?_
  rw [con rfl]
  show (qvalE E.P (evB E.G T) M _).map _ = _
  rw [qvalE_fa]
  exact arV_q h
 ·refine fin (by intros; simp) ?_
  rw [con rfl]
  show (qvalE E.P (evB E.G T) M _).map _ = _
  rw [qvalE_fi]
  exact arV_q h
 ·rename_i args ts
  refine fin (by intros; simp) ?_
  rw [con rfl]
  split at h
  ·rename_i x y t t' hx ht
   show (match args.toList, ts.toList with | [x, y], [t, t'] => _ | _, _ => none) = _
   rw [hx, ht]
   exact arE_q (fun ps r h1 h2 => apB_sound h1 h2) h hp
  ·simp at h
 ·rename_i args ts
  refine fin (by intros; simp) ?_
  rw [con rfl]
  split at h
  ·rename_i x t hx ht
   show (match args.toList, ts.toList with | [x], [t] => _ | _, _ => none) = _
   rw [hx, ht]
   exact arE_q (fun ps r h1 h2 => clB_sound h1 h2) h hp
  ·simp at h
 ·rename_i hn _ _ _ _ _ _ _ _ _ _ _ _ _ _ _
  refine fin hn ?_
  rw [con ?_]
  ·exact arO_q h
  ·unfold askB
   split
   ·rename_i c a b hpk _ _ _ _ _ _ _ _ _ _ _ _ _ _
    exact absurd rfl (hpk _ _ _)
   ·rename_i f args ts
    exact absurd rfl (hn _ _ _)
   ·rfl
theorem vaB_q {P : Program} {lo : Nat} {u u' : Option TypeDesc} {M : List Blk} {x y : PV} {ps : List Prop} {v : PV} {e : Eff} : vaB P lo u u' M x y ≠ .q ps v e := by
 unfold vaB
 split
 ·split
  ·split
   ·simp
   ·split <;> simp
   ·simp
  ·simp
 ·simp
theorem vaB_g {P : Program} {lo : Nat} {u u' : Option TypeDesc} {M : List Blk} {x y : PV} {ps : List Prop} {W : PT} {args : List PV} : vaB P lo u u' M x y ≠ .g ps W args := by
 unfold vaB
 split
 ·split
  ·split
   ·simp
   ·split <;> simp
   ·simp
  ·simp
 ·simp
theorem vaB_sound {P : Program} {lo : Nat} {u u' : Option TypeDesc} {M : List Blk} {x y : PV} {ps : List Prop} {n : Nat} {k : Option Nat} {f : Nat → PV × List Blk} (h : vaB P lo u u' M x y = .v ps n k f) (hp : All ps) :
  ∃ e ys, u = some (.slice e) ∧ rowOf P e u' M y = some ys ∧ (¬ sz P e = 0 ∧ zsz P e = some (sz P e) ∧ zOne P e = true) ∧ vapp P e lo M x ys = some (n, k, f) := by
 unfold vaB at h
 split at h
 ·rename_i e
  split at h
  ·rename_i qs ys hr
   split at h
   ·simp only [AR.v.injEq] at h
    obtain ⟨rfl, rfl, rfl, rfl⟩ := h
    obtain ⟨h1, h2⟩ := All.app.1 hp
    refine ⟨e, ys, rfl, rowB_sound hr h2, ⟨h1 _ (by simp), h1 _ (by simp), h1 _ (by simp)⟩, ?_⟩
    have a1 := h1 (¬ ys = []) (by simp)
    have a2 := h1 (roomy ys.length (byt P e) = true) (by simp)
    simp only [vapp]; rw [if_pos ⟨a1, a2⟩]
   ·rename_i kk b off len cap
    split at h
    ·rename_i cs hb
     simp only [AR.v.injEq] at h
     obtain ⟨rfl, rfl, rfl, rfl⟩ := h
     obtain ⟨h1, h2⟩ := All.app.1 hp
     refine ⟨e, ys, rfl, rowB_sound hr h2, ⟨h1 _ (by simp), h1 _ (by simp), h1 _ (by simp)⟩, ?_⟩
     simp only [vapp, hb]
     rw [if_pos ⟨h1 _ (by simp), h1 _ (by simp), h1 _ (by simp), h1 _ (by simp), h1 _ (by simp), h1 _ (by simp)⟩]
    ·simp at h
   ·simp at h
  ·simp at h
 ·simp at h
theorem actB_q {o : Oper} {ps : List Prop} {v : PV} {e : Eff} (h : actB E D s R T M o.dst o.op = .q ps v e) (ha : All (askB T o.op)) (hp : All ps) {K : St → Prop} (hK : K (app o v e ⟨T.map BV.den, M⟩)) : aop E (conD D) R o ⟨T.map BV.den, M⟩ K := by
 unfold actB at h
 cases hvc : vcOn E R o.dst o.op with
 | false => rw [hvc] at h; exact actB0_q hvc h ha hp hK
 | true =>
  rw [hvc] at h
  simp only [vcSel] at h
  obtain ⟨d, op, t, p, af, gd⟩ := o
  simp only at h ha hvc
  have fin : ∀ (hn : ∀ f args ts, op ≠ .call { callee := .value f, args := args, argTypes := ts }) {r : PV} {m : MEff} (ho : vnew E.P (aev E ⟨T.map BV.den, M⟩) M op = some (r, m)) (hv : v = r) (he : e = { mem := m }), aop E (conD D) R ⟨d, op, t, p, af, gd⟩ ⟨T.map BV.den, M⟩ K := by
   intro hn r m ho hv he
   subst hv; subst he
   unfold aop
   split
   ·rename_i f args ts hop; exact absurd hop (hn _ _ _)
   ·have ho' : vop E ⟨d, op, t, p, af, gd⟩ ⟨T.map BV.den, M⟩ = some (0, fun _ => app ⟨d, op, t, p, af, gd⟩ v { mem := m } ⟨T.map BV.den, M⟩) := by
     unfold vop; simp only [ho]
    simp only [hvc, ho']
    exact fun _ _ => hK
  unfold vecB at h
  split at h
  ·split at h
   ·exact absurd h vaB_q
   ·simp at h
  ·rename_i tt nn parts
   unfold vbs at h
   split at h
   ·rename_i e' hu
    simp only [AR.q.injEq] at h
    obtain ⟨rfl, rfl, rfl⟩ := h
    have hn0 := hp (nn = 0) (by simp)
    have h0 := hp (parts.size = 0) (by simp)
    have h1 := hp (¬ sz E.P e' = 0) (by simp)
    have h2 := hp (zsz E.P e' = some (sz E.P e')) (by simp)
    refine fin (by intros; simp) (r := .rs (sz E.P e') M.length 0 0 0) (m := .new []) ?_ rfl rfl
    simp only [vnew, hu]
    rw [if_pos ⟨hn0, h0, h1, h2⟩]
   ·simp at h
  ·rename_i u x
   have ha' : All (obsB T (opnds (.load u x))) := ha
   have hx := evB_aev (E := E) (M := M) (obsB_mem ha' (x := x) (by simp [opnds]))
   unfold vlB at h
   split at h
   ·rename_i b off hb0
    split at h
    ·rename_i cs hb
     split at h
     ·rename_i hg
      simp only [AR.q.injEq] at h
      obtain ⟨rfl, rfl, rfl⟩ := h
      refine fin (by intros; simp) (m := .store b off (stripL ((cs.drop off).take (sz E.P u)))) ?_ rfl rfl
      simp only [vnew, hx, hb0, hg, hb]
      rw [if_pos (hp _ (by simp))]
     ·rename_i hg
      simp only [AR.q.injEq] at h
      obtain ⟨rfl, rfl, rfl⟩ := h
      refine fin (by intros; simp) (m := .store b off (stripL ((cs.drop off).take 1))) ?_ rfl rfl
      simp only [vnew, hx, hb0, hg, hb]
      rw [if_pos (hp _ (by simp))]
     ·simp at h
    ·simp at h
   ·simp at h
  ·rename_i u x y
   have ha' : All (obsB T (opnds (.makeSlice u x y))) := ha
   have hx := evB_aev (E := E) (M := M) (obsB_mem ha' (x := x) (by simp [opnds]))
   have hy := evB_aev (E := E) (M := M) (obsB_mem ha' (x := y) (by simp [opnds]))
   unfold mkB at h
   split at h
   ·rename_i e' n m _ hu hn hm
    simp only [arE, AR.q.injEq] at h
    obtain ⟨rfl, rfl, rfl⟩ := h
    refine fin (by intros; simp) (r := .rs (sz E.P e') M.length 0 n.toNat m.toNat) (m := .new (zeros (zD E.P e') m.toNat (sz E.P e'))) ?_ rfl rfl
    simp only [vnew, hx, hy, hu, hn, hm]
    rw [if_pos ⟨hp _ (by simp), hp _ (by simp), hp _ (by simp), hp _ (by simp), hp _ (by simp)⟩]
    have hz := hp (zeroP E.P e' = some (zD E.P e')) (by simp)
    have hs := hp ((zD E.P e').solid = true) (by simp)
    simp only [hz, hs, if_true]
    rfl
   ·simp [arE] at h
  ·unfold bldB at h; split at h <;> simp at h
  ·rename_i u
   unfold alV at h
   split at h
   ·rename_i z hz
    unfold bldM at h
    split at h
    ·rename_i pre hs
     simp only [AR.q.injEq] at h
     obtain ⟨rfl, rfl, rfl⟩ := h
     refine fin (by intros; simp) (m := .newB u (bldD E.P u) pre) ?_ rfl rfl
     simp only [vnew, hz, hs]
     rw [if_pos ⟨hp _ (by simp), hp _ (by simp)⟩]
    ·simp at h
   ·simp at h
  ·rename_i u x
   have ha' : All (obsB T (opnds (.box u x))) := ha
   have hx := evB_aev (E := E) (M := M) (obsB_mem ha' (x := x) (by simp [opnds]))
   unfold bldM at h
   split at h
   ·rename_i pre hs
    simp only [AR.q.injEq] at h
    obtain ⟨rfl, rfl, rfl⟩ := h
    refine fin (by intros; simp) (m := .newB u (bldD E.P u) pre) ?_ rfl rfl
    simp only [vnew, hx, hs]
    rw [if_pos ⟨hp _ (by simp), hp _ (by simp)⟩]
   ·simp at h
  ·simp at h
theorem actB_v {o : Oper} {ps : List Prop} {n : Nat} {k : Option Nat} {f : Nat → PV × List Blk} (h : actB E D s R T M o.dst o.op = .v ps n k f) (ha : All (askB T o.op)) (hp : All ps) {K : St → Prop}
    (hK : ∀ c, n ≤ c → K ⟨putL (killT k (T.map BV.den)) o.dst (f c).1, (f c).2⟩) : aop E (conD D) R o ⟨T.map BV.den, M⟩ K := by
  unfold actB at h
  cases hvc : vcOn E R o.dst o.op with
  | false =>
    rw [hvc] at h
    simp only [vcSel] at h
    exfalso
    obtain ⟨d, op, t, p, af, gd⟩ := o
    simp only at h
    unfold actB0 at h
    split at h
    · unfold valB at h
      split at h
      · unfold callB at h
        split at h
        · split at h <;> simp at h
        · simp at h
        · simp at h
        · simp at h
      · unfold yB at h
        split at h <;> simp at h
      · simp at h
    · unfold pkB at h
      split at h <;> simp at h
    all_goals first
      | exact absurd h arP_v
      | exact absurd h arV_v
      | exact absurd h arE_v
      | exact absurd h arO_v
      | (split at h
         · exact absurd h arE_v
         · simp at h)
  | true =>
    rw [hvc] at h
    simp only [vcSel] at h
    obtain ⟨d, op, t, p, af, gd⟩ := o
    simp only at h ha hvc hK
    unfold vecB at h
    split at h
    · rename_i args ts
      split at h
      · rename_i x y t1 t2 hargs hts
        have ha' : All (obsB T args.toList) := ha
        have hx := evB_aev (E := E) (M := M) (obsB_mem ha' (x := x) (by simp [hargs]))
        have hy := evB_aev (E := E) (M := M) (obsB_mem ha' (x := y) (by simp [hargs]))
        obtain ⟨e, ys, hu, hrow, hc, hva⟩ := vaB_sound h hp
        unfold aop
        simp only [hvc]
        have hv : vop E ⟨d, .call { callee := .builtin .append, args := args, argTypes := ts }, t, p, af, gd⟩ ⟨T.map BV.den, M⟩ = some (n, fun c => (({ tmps := killT k (T.map BV.den), blks := (f c).2 } : St).put d (f c).1)) := by
          unfold vop vnew vopA vbld
          simp only [hargs, hts, hu, hx, hy, hrow, hva]
          rw [if_pos hc]
        simp only [hv]
        intro c hc
        rw [put_eq]
        exact hK c hc
      · simp at h
    · unfold vbs at h; split at h <;> simp at h
    · unfold vlB at h
      split at h
      · split at h
        · split at h <;> simp at h
        · simp at h
      · simp at h
    · unfold mkB at h
      split at h <;> simp [arE] at h
    · unfold bldB at h; split at h <;> simp at h
    · unfold alV at h
      split at h
      · unfold bldM at h; split at h <;> simp at h
      · simp at h
    · unfold bldM at h; split at h <;> simp at h
    · simp at h
theorem actB_b {o : Oper} {ps : List Prop} {v : PV} {ts : List Tmp} (h : actB E D s R T M o.dst o.op = .b ps v ts) (ha : All (askB T o.op)) (hp : All ps) {K : St → Prop}
    (hK : K ⟨putL (Ve.strips (T.map BV.den) ts) o.dst v, M⟩) : aop E (conD D) R o ⟨T.map BV.den, M⟩ K := by
  unfold actB at h
  cases hvc : vcOn E R o.dst o.op with
  | false =>
    rw [hvc] at h
    simp only [vcSel] at h
    exfalso
    obtain ⟨d, op, t, p, af, gd⟩ := o
    simp only at h
    unfold actB0 at h
    split at h
    · unfold valB at h
      split at h
      · unfold callB at h
        split at h
        · split at h <;> simp at h
        · simp at h
        · simp at h
        · simp at h
      · unfold yB at h
        split at h <;> simp at h
      · simp at h
    · unfold pkB at h
      split at h <;> simp at h
    all_goals first
      | exact absurd h arP_b
      | exact absurd h arV_b
      | exact absurd h arE_b
      | exact absurd h arO_b
      | (split at h
         · exact absurd h arE_b
         · simp at h)
  | true =>
    rw [hvc] at h
    simp only [vcSel] at h
    obtain ⟨d, op, t, p, af, gd⟩ := o
    simp only at h ha hvc hK
    unfold vecB at h
    split at h
    · split at h
      · exact absurd h vaB_b
      · simp at h
    · unfold vbs at h; split at h <;> simp at h
    · unfold vlB at h
      split at h
      · split at h
        · split at h <;> simp at h
        · simp at h
      · simp at h
    · unfold mkB at h
      split at h <;> simp [arE] at h
    · rename_i bt parts
      have ha' : All (obsB T (opnds (.build bt parts))) := ha
      have hx : ∀ q ∈ parts.toList, aev E ⟨T.map BV.den, M⟩ q.2 = evB E.G T q.2 := fun q hq => evB_aev (E := E) (M := M) (obsB_mem ha' (x := q.2) (by simp only [opnds]; exact List.mem_map.2 ⟨q, hq, rfl⟩))
      unfold bldB at h
      split at h
      · rename_i r hb
        simp only [AR.b.injEq] at h
        obtain ⟨rfl, rfl, rfl⟩ := h
        have hnd := hp _ (List.mem_cons_self ..)
        have hpm : (parts.toList.map fun p => (p.1, aev E ⟨T.map BV.den, M⟩ p.2)) = parts.toList.map fun p => (p.1, evB E.G T p.2) := List.map_congr_left fun q hq => by rw [hx q hq]
        unfold aop
        simp only [hvc]
        have hv : vop E ⟨d, .build bt parts, t, p, af, gd⟩ ⟨T.map BV.den, M⟩ = some (0, fun _ => (({ tmps := Ve.strips (T.map BV.den) (parts.toList.filterMap fun p => stripO p.2), blks := M } : St).put d r)) := by
          have hbl : vbld E ⟨d, .build bt parts, t, p, af, gd⟩ ⟨T.map BV.den, M⟩ = some (({ tmps := Ve.strips (T.map BV.den) (parts.toList.filterMap fun p => stripO p.2), blks := M } : St).put d r) := by
            unfold vbld
            simp only [hpm, hb]
            rw [if_pos hnd]
          unfold vop
          rw [hbl]
          rfl
        simp only [hv]
        intro c hc
        rw [put_eq]
        exact hK
      · simp at h
    · unfold alV at h
      split at h
      · unfold bldM at h; split at h <;> simp at h
      · simp at h
    · unfold bldM at h; split at h <;> simp at h
    · simp at h
theorem vecB_g {op : Op} {ps : List Prop} {W : PT} {args : List PV} : vecB E T M op ≠ .g ps W args := by
 unfold vecB
 split
 ·split
  ·exact vaB_g
  ·simp
 ·unfold vbs; split <;> simp
 ·unfold vlB
  split
  ·split
   ·split <;> simp
   ·simp
  ·simp
 ·exact arE_g
 ·unfold bldB; split <;> simp
 ·unfold alV
  split
  ·unfold bldM; split <;> simp
  ·simp
 ·unfold bldM; split <;> simp
 ·simp
theorem actB_g {o : Oper} {ps : List Prop} {W : PT} {args : List PV} (h : actB E D s R T M o.dst o.op = .g ps W args) (ha : All (askB T o.op)) (hp : All ps) {K : St → Prop} (hK : W args M fun r M' => K ⟨putL (T.map BV.den) o.dst r, M'⟩) : aop E (conD D) R o ⟨T.map BV.den, M⟩ K := by
  obtain ⟨d, op, t, p, af, gd⟩ := o
  simp only at h ha hK
  replace h := vcSel_g h vecB_g
  unfold actB0 at h
  split at h
  · rename_i f fargs ts
    unfold aop
    simp only [callee]
    obtain ⟨h1, h2⟩ := All.app.1 ha
    rw [evB_aev h1]
    have hargs' : (fargs.toList.map fun x => (aev E ⟨T.map BV.den, M⟩ x).strip) = (fargs.toList.map fun x => (evB E.G T x).strip) := List.map_congr_left fun x hx => by rw [evB_aev (obsB_mem h2 hx)]
    unfold valB at h
    split at h
    · rename_i g first cap hf
      rw [hf]
      simp only
      have hargs : (fargs.toList.map fun x => (aev E ⟨T.map BV.den, M⟩ x).strip) = (fargs.toList.map fun x => (evB E.G T x).strip) := List.map_congr_left fun x hx => by rw [evB_aev (obsB_mem h2 hx)]
      rw [hargs]
      unfold callB at h
      split at h
      · split at h <;> simp at h
      · simp at h
      · rename_i c hnp hD
        simp only [AR.g.injEq] at h
        obtain ⟨rfl, rfl, rfl⟩ := h
        simp only [conD, hD, Option.map_some, CB.toCon, put_eq]
        cases c with
        | pure Q => exact absurd rfl (hnp Q)
        | _ => exact hK
      · simp at h
    · rename_i l hf
      rw [hf]
      simp only
      unfold yB at h
      split at h
      · rename_i y hy
        simp only [AR.g.injEq] at h
        obtain ⟨rfl, rfl, rfl⟩ := h
        have hl := hp _ (List.mem_cons_self ..)
        unfold yop
        rw [evB_aev h1, hf, hy]
        refine ⟨hl, ?_⟩
        rw [hargs']
        simpa only [put_eq] using hK
      · simp at h
    · simp at h
  · unfold pkB at h
    split at h <;> simp at h
  all_goals first
    | exact absurd h arP_g
    | exact absurd h arV_g
    | exact absurd h arE_g
    | exact absurd h arO_g
    | (split at h
       · exact absurd h arE_g
       · simp at h)
end
def gc (w c : Bool) : Bool := match w with
 | true => c
 | false => !c
theorem gc_t (w : Bool) : gc w w = true := by cases w <;> rfl
theorem gc_f (w : Bool) : gc w (!w) = false := by cases w <;> rfl
def gval : BV → Bool → Option Bool
 | .pv (.val (.bool c)), w => some (gc w c)
 | .may b (.val (.bool c)), w => some (b && gc w c)
 | .pv (.tuple []), _ => some false
 | _, _ => none
def guardB (R : RI) (T : List BV) (j : Nat) : BV := match R.ds[j]? with
 | some (some d) => getB T d
 | _ => .pv .junk
def quiet (e : Eff) : Bool := match e with
 | ⟨none, .none⟩ => true
 | _ => false
def killP (k : Option Nat) (p : PV) : PV := match k with
 | none => p
 | some b => bif p.avoid b then p else .junk
def BV.kill (k : Option Nat) : BV → BV
 | .pv p => .pv (killP k p)
 | .may b p => .may b (killP k p)
def killB (k : Option Nat) (T : List BV) : List BV := match k with
 | none => T
 | some b => T.map (BV.kill (some b))
theorem killB_den (k : Option Nat) (T : List BV) : (killB k T).map BV.den = killT k (T.map BV.den) := by
 cases k with
 | none => rfl
 | some b =>
  simp only [killB, killT, List.map_map]
  refine List.map_congr_left fun x _ => ?_
  cases x with
  | pv p =>
   simp only [Function.comp, BV.kill, BV.den, killP]
   exact Bool.cond_eq_ite ..
  | may c p =>
   simp only [Function.comp, BV.kill, BV.den, killP]
   cases c with
   | true => simp only [cond_true]; exact Bool.cond_eq_ite ..
   | false => simp [PV.avoid, avoidL]
def stripsB (T : List BV) (ts : List Tmp) : List BV := ts.foldl (fun T t => stripB T (some t)) T
theorem stripsB_den : ∀ (ts : List Tmp) (T : List BV), (stripsB T ts).map BV.den = Ve.strips (T.map BV.den) ts
 | [], T => rfl
 | t :: ts, T => by
  show (stripsB (stripB T (some t)) ts).map BV.den = Ve.strips (stripAt (T.map BV.den) (some t)) ts
  rw [stripsB_den ts, stripB_den]
def opsB (E : Env) (D : FuncId → Option CB) (s : Bool) (R : RI) : List Oper → List BV → List Blk → (List BV → List Blk → Prop) → Prop
 | [], T, M, K => K T M
 | o :: l, T, M, K => match o.guard with
  | none => match actB E D s R T M o.dst o.op with
   | .q ps v e => conj (askB T o.op) (conj ps (opsB E D s R l (putB (stripB T e.strip) o.dst (.pv v)) (mApply e.mem M) K))
   | .g ps W args => conj (askB T o.op) (conj ps (W args M fun r M' => opsB E D s R l (putB T o.dst (.pv r)) M' K))
   | .v ps n k f => conj (askB T o.op) (conj ps (∀ c, n ≤ c → opsB E D s R l (putB (killB k T) o.dst (.pv (f c).1)) (f c).2 K))
   | .b ps v ts => conj (askB T o.op) (conj ps (opsB E D s R l (putB (stripsB T ts) o.dst (.pv v)) M K))
   | .no => False
  | some (j, w) => match gval (guardB R T j) w with
   | none => False
   | some c => match actB E D s R T M o.dst o.op with
    | .q ps v e => match quiet e with
     | true => conjC c (askB T o.op) (conjC c ps (opsB E D s R l (putB T o.dst (.may c v)) M K))
     | false => (c = true → conj (askB T o.op) (conj ps (opsB E D s R l (putB (stripB T e.strip) o.dst (.pv v)) (mApply e.mem M) K))) ∧ (c = false → opsB E D s R l (putB T o.dst (.pv (.tuple []))) M K)
    | .g ps W args => (c = true → conj (askB T o.op) (conj ps (W args M fun r M' => opsB E D s R l (putB T o.dst (.pv r)) M' K))) ∧ (c = false → opsB E D s R l (putB T o.dst (.pv (.tuple []))) M K)
    | .v ps n k f => (c = true → conj (askB T o.op) (conj ps (∀ c, n ≤ c → opsB E D s R l (putB (killB k T) o.dst (.pv (f c).1)) (f c).2 K))) ∧ (c = false → opsB E D s R l (putB T o.dst (.pv (.tuple []))) M K)
    | .b ps v ts => (c = true → conj (askB T o.op) (conj ps (opsB E D s R l (putB (stripsB T ts) o.dst (.pv v)) M K))) ∧ (c = false → opsB E D s R l (putB T o.dst (.pv (.tuple []))) M K)
    | .no => c = false ∧ opsB E D s R l (putB T o.dst (.pv (.tuple []))) M K
def KK (K : Exit → List BV → List Blk → Prop) : Exit → St → Prop := fun e st => ∃ T, st.tmps = T.map BV.den ∧ K e T st.blks
def KO (K : List BV → List Blk → Prop) : St → Prop := fun st => ∃ T, st.tmps = T.map BV.den ∧ K T st.blks
section
variable {E : Env} {D : FuncId → Option CB} {s : Bool} {R : RI}
theorem app_den (o : Oper) (v : PV) (e : Eff) (T : List BV) (M : List Blk) : app o v e ⟨T.map BV.den, M⟩ = ⟨(putB (stripB T e.strip) o.dst (.pv v)).map BV.den, mApply e.mem M⟩ := by
 simp only [app, put_eq, putB_den, stripB_den]; rfl
theorem quiet_eq {e : Eff} (h : quiet e = true) : e = {} := by
 unfold quiet at h
 split at h
 ·rfl
 ·simp at h
theorem awpOps_none {l : List Oper} {o : Oper} {st : St} {K : St → Prop} {D : FuncId → Option Con} (hg : o.guard = none) : awpOps E D R (o :: l) st K = aop E D R o st (fun st' => awpOps E D R l st' K) := by rw [awpOps]; simp only [hg]
theorem awpOps_some {l : List Oper} {o : Oper} {T : List BV} {M : List Blk} {K : St → Prop} {D : FuncId → Option Con} {j : Nat} {w c : Bool} (hg : o.guard = some (j, w)) (hc : gval (guardB R T j) w = some c)
  (h1 : c = true → aop E D R o ⟨T.map BV.den, M⟩ (fun st' => awpOps E D R l st' K)) (h2 : c = false → awpOps E D R l ⟨putL (T.map BV.den) o.dst (.tuple []), M⟩ K) : awpOps E D R (o :: l) ⟨T.map BV.den, M⟩ K := by
 have e : guardP R ⟨T.map BV.den, M⟩ j = (guardB R T j).den := by
  unfold guardP guardB
  cases R.ds[j]? with
  | none => rfl
  | some x => cases x with
   | none => rfl
   | some d => exact (getB_den ..).symm
 rw [awpOps]
 simp only [hg, e]
 generalize guardB R T j = g at *
 have undef : c = false → awpOps E D R l ((⟨T.map BV.den, M⟩ : St).put o.dst (.tuple [])) K := fun hc => by rw [put_eq]; exact h2 hc
 unfold gval at hc
 split at hc
 ·simp only [Option.some.injEq] at hc
  simp only [BV.den]
  subst hc
  exact ⟨fun hb => h1 (by rw [hb]; exact gc_t _), fun hb => undef (by rw [hb]; exact gc_f _)⟩
 ·rename_i b' c'
  simp only [Option.some.injEq] at hc
  cases b' with
  | false => simp only [BV.den, cond_false]; exact undef (by rw [← hc]; rfl)
  | true =>
   simp only [BV.den, cond_true]
   subst hc
   exact ⟨fun hb => h1 (by rw [hb]; exact gc_t _), fun hb => undef (by rw [hb]; exact gc_f _)⟩
 ·simp only [Option.some.injEq] at hc
  simp only [BV.den]
  exact undef hc.symm
 ·simp at hc
theorem opsB_sound {K : List BV → List Blk → Prop} : ∀ (l : List Oper) (T : List BV) (M : List Blk), opsB E D s R l T M K → awpOps E (conD D) R l ⟨T.map BV.den, M⟩ (KO K)
  | [], T, M, h => ⟨T, rfl, h⟩
  | o :: l, T, M, h => by
    have go : ∀ {ps : List Prop} {v : PV} {e : Eff}, actB E D s R T M o.dst o.op = .q ps v e → All (askB T o.op) → All ps → opsB E D s R l (putB (stripB T e.strip) o.dst (.pv v)) (mApply e.mem M) K →
        aop E (conD D) R o ⟨T.map BV.den, M⟩ (fun st' => awpOps E (conD D) R l st' (KO K)) := fun ha h1 h2 h3 =>
      actB_q ha h1 h2 (by rw [app_den]; exact opsB_sound l _ _ h3)
    have goG : ∀ {ps : List Prop} {W : PT} {args : List PV}, actB E D s R T M o.dst o.op = .g ps W args → All (askB T o.op) → All ps → W args M (fun r M' => opsB E D s R l (putB T o.dst (.pv r)) M' K) →
        (∀ K K' : PV → List Blk → Prop, (∀ r b, K r b → K' r b) → W args M K → W args M K') → aop E (conD D) R o ⟨T.map BV.den, M⟩ (fun st' => awpOps E (conD D) R l st' (KO K)) := fun ha h1 hp h2 hm =>
      actB_g ha h1 hp (hm _ _ (fun r b hr => by have := opsB_sound l _ _ hr; rw [putB_den] at this; exact this) h2)
    have mono : ∀ {ps : List Prop} {W : PT} {args : List PV}, actB E D s R T M o.dst o.op = .g ps W args → ∀ K K' : PV → List Blk → Prop, (∀ r b, K r b → K' r b) → W args M K → W args M K' := by
      intro ps W args ha K K' hk hw
      replace ha := vcSel_g ha vecB_g
      unfold actB0 at ha
      split at ha
      · unfold valB at ha
        split at ha
        · unfold callB at ha
          split at ha
          · split at ha <;> simp at ha
          · simp at ha
          · simp only [AR.g.injEq] at ha
            obtain ⟨_, rfl, rfl⟩ := ha
            exact conY_mono _ _ hk hw
          · simp at ha
        · unfold yB at ha
          split at ha
          · simp only [AR.g.injEq] at ha
            obtain ⟨_, rfl, rfl⟩ := ha
            exact up_mono hk hw
          · simp at ha
        · simp at ha
      · unfold pkB at ha
        split at ha <;> simp at ha
      all_goals first
        | exact absurd ha arP_g
        | exact absurd ha arV_g
        | exact absurd ha arE_g
        | exact absurd ha arO_g
        | (split at ha
           · exact absurd ha arE_g
           · simp at ha)
    have goV : ∀ {ps : List Prop} {n : Nat} {k : Option Nat} {f : Nat → PV × List Blk}, actB E D s R T M o.dst o.op = .v ps n k f → All (askB T o.op) → All ps → (∀ c, n ≤ c → opsB E D s R l (putB (killB k T) o.dst (.pv (f c).1)) (f c).2 K) →
        aop E (conD D) R o ⟨T.map BV.den, M⟩ (fun st' => awpOps E (conD D) R l st' (KO K)) := fun ha h1 hp h2 =>
      actB_v ha h1 hp (fun c hc => by have := opsB_sound l _ _ (h2 c hc); rw [putB_den, killB_den] at this; exact this)
    have goB : ∀ {ps : List Prop} {v : PV} {ts : List Tmp}, actB E D s R T M o.dst o.op = .b ps v ts → All (askB T o.op) → All ps → opsB E D s R l (putB (stripsB T ts) o.dst (.pv v)) M K →
        aop E (conD D) R o ⟨T.map BV.den, M⟩ (fun st' => awpOps E (conD D) R l st' (KO K)) := fun ha h1 hp h2 =>
      actB_b ha h1 hp (by have := opsB_sound l _ _ h2; rw [putB_den, stripsB_den] at this; exact this)
    have undef : opsB E D s R l (putB T o.dst (.pv (.tuple []))) M K → awpOps E (conD D) R l ⟨putL (T.map BV.den) o.dst (.tuple []), M⟩ (KO K) := fun h => by
      have := opsB_sound l _ _ h; rw [putB_den] at this; exact this
    unfold opsB at h
    cases hg : o.guard with
    | none =>
      rw [awpOps_none hg]
      simp only [hg] at h
      split at h
      · rename_i ps v e ha
        obtain ⟨h1, h2⟩ := conj_iff.1 h
        obtain ⟨h2, h3⟩ := conj_iff.1 h2
        exact go ha h1 h2 h3
      · rename_i ps W args ha
        obtain ⟨h1, h2⟩ := conj_iff.1 h
        obtain ⟨hp, h2⟩ := conj_iff.1 h2
        exact goG ha h1 hp h2 (mono ha)
      · rename_i ps n k f ha
        obtain ⟨h1, h2⟩ := conj_iff.1 h
        obtain ⟨hp, h2⟩ := conj_iff.1 h2
        exact goV ha h1 hp h2
      · rename_i ps v ts ha
        obtain ⟨h1, h2⟩ := conj_iff.1 h
        obtain ⟨hp, h2⟩ := conj_iff.1 h2
        exact goB ha h1 hp h2
      · exact h.elim
    | some jw =>
      obtain ⟨j, w⟩ := jw
      simp only [hg] at h
      split at h
      · exact h.elim
      · rename_i c hc
        split at h
        · rename_i ps v e ha
          split at h
          · rename_i hq
            have he := quiet_eq hq
            subst he
            obtain ⟨h1, h2⟩ := conjC_iff.1 h
            obtain ⟨h2, h3⟩ := conjC_iff.1 h2
            have h4 := opsB_sound l _ _ h3
            rw [putB_den] at h4
            refine awpOps_some hg hc (fun hct => ?_) (fun hcf => ?_)
            · refine actB_q ha (h1 hct) (h2 hct) ?_
              rw [app_den, putB_den]
              subst hct
              exact h4
            · subst hcf; exact h4
          · refine awpOps_some hg hc (fun hct => ?_) (fun hcf => undef (h.2 hcf))
            obtain ⟨h1, h2⟩ := conj_iff.1 (h.1 hct)
            obtain ⟨h2, h3⟩ := conj_iff.1 h2
            exact go ha h1 h2 h3
        · rename_i ps W args ha
          refine awpOps_some hg hc (fun hct => ?_) (fun hcf => undef (h.2 hcf))
          obtain ⟨h1, h2⟩ := conj_iff.1 (h.1 hct)
          obtain ⟨hp, h2⟩ := conj_iff.1 h2
          exact goG ha h1 hp h2 (mono ha)
        · rename_i ps n k f ha
          refine awpOps_some hg hc (fun hct => ?_) (fun hcf => undef (h.2 hcf))
          obtain ⟨h1, h2⟩ := conj_iff.1 (h.1 hct)
          obtain ⟨hp, h2⟩ := conj_iff.1 h2
          exact goV ha h1 hp h2
        · rename_i ps v ts ha
          refine awpOps_some hg hc (fun hct => ?_) (fun hcf => undef (h.2 hcf))
          obtain ⟨h1, h2⟩ := conj_iff.1 (h.1 hct)
          obtain ⟨hp, h2⟩ := conj_iff.1 h2
          exact goB ha h1 hp h2
        · exact awpOps_some hg hc (fun hct => by rw [h.1] at hct; cases hct) (fun _ => undef h.2)
end
end Go.Ve
