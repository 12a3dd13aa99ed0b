/- weirlaw30.HistTexts: part of the proof (a value semantics for the model's code, and the functions told by it). -/
import Derived.Test.YtdfajmeabnmhjaaGreatDoorA3
import Derived.Still
import Derived.OrdersIn
set_option linter.unusedSimpArgs false
set_option linter.unusedVariables false
set_option linter.deprecated false
namespace Go.Ve
inductive Knd where
 | quiet | reads | rcall | fresh | mem | bar
 deriving DecidableEq
structure Tm where
 b : Bool
 vc : List Tmp
def vcT (tm : Tm) (o : Oper) : Bool := vecOp o.op && match o.dst with
 | some t => tm.vc.contains t
 | none => false
def kindN (tm : Bool) (D : FuncId → Option Con) (o : Oper) : Knd :=
 match o.op with
 | .load .. => .reads
 | .alloc _ => .fresh
 | .box .. => .fresh
 | .store .. => .mem
 | .makeSlice .. => .mem
 | .call { callee := .builtin .clear, .. } => .bar
 | .call { callee := .value f, .. } => match f with
  | .func g => match D g with
   | some (.pure _) => .quiet
   | some (.read _) => .rcall
   | _ => .bar
  | _ => match tm with
   | true => .rcall
   | false => .bar
 | _ => .quiet
def kindO (tm : Tm) (D : FuncId → Option Con) (o : Oper) : Knd := if vcT tm o = true then .bar else kindN tm.b D o
theorem kind_N {tm : Tm} {D : FuncId → Option Con} {o : Oper} (h : kindO tm D o ≠ .bar) : kindO tm D o = kindN tm.b D o ∧ vcT tm o = false := by
 unfold kindO at h ⊢
 split
 ·rename_i hc; simp [hc] at h
 ·rename_i hc; exact ⟨rfl, by simpa using hc⟩
def stripS (ops : RI) (o : Oper) : Option Tmp :=
 match o.op with
 | .move x => if feeds ops o.dst then stripO x else none
 | .assign x => stripO x
 | .box _ x => stripO x
 | .store _ _ x => stripO x
 | .call { callee := .builtin .append, args, .. } => match args.toList with | x :: _ => stripO x | _ => none
 | _ => none
def opW (ops : RI) (o : Oper) : List Tmp := o.dst.toList ++ (stripS ops o).toList
def opR (ops : RI) (o : Oper) : List Tmp := o.op.operands.toList.filterMap stripO ++ (match o.guard with
 | none => []
 | some (j, _) => match ops.ds[j]? with | some (some d) => [d] | _ => [])
def disj (a b : List Tmp) : Bool := a.all fun t => !b.contains t
def commB (tm : Tm) (D : FuncId → Option Con) (ops : RI) (i j : Oper) : Bool :=
 disj (opW ops i) (opR ops j) && disj (opW ops i) (opW ops j) && disj (opW ops j) (opR ops i) &&
 match kindO tm D i, kindO tm D j with
 | .quiet, .quiet | .quiet, .reads | .reads, .quiet | .reads, .reads | .quiet, .mem | .mem, .quiet | .quiet, .fresh | .fresh, .quiet | .reads, .fresh | .quiet, .rcall | .rcall, .quiet | .rcall, .rcall | .reads, .rcall | .rcall, .reads => true
 | _, _ => false
def appOp (tm : Tm) (i : Oper) : Bool := vcT tm i && i.guard.isNone && match i.op with
 | .call { callee := .builtin .append, .. } => true
 | _ => false
def movOp (j : Oper) : Bool := j.guard.isNone && match j.op with
 | .move (.tmp _) => true
 | _ => false
def commV (tm : Tm) (ops : RI) (i j : Oper) : Bool := disj (opW ops i) (opR ops j) && disj (opW ops i) (opW ops j) && disj (opW ops j) (opR ops i) && appOp tm i && movOp j
def bldOp (tm : Tm) (i : Oper) : Bool := vcT tm i && i.guard.isNone && match i.op with
 | .build _ _ => true
 | _ => false
def alcOp (tm : Tm) (j : Oper) : Bool := (!vcT tm j && j.guard.isNone) && match j.op with
 | .alloc _ => true
 | _ => false
def commW (tm : Tm) (ops : RI) (i j : Oper) : Bool := disj (opW ops i) (opR ops j) && disj (opW ops i) (opW ops j) && disj (opW ops j) (opR ops i) && bldOp tm i && alcOp tm j
def Tame (E : Env) (D : FuncId → Option Con) : Prop := E.Y = none ∧ ∀ g c, D g = some c → (∃ R, c = .pure R) ∨ ∃ R, c = .read R
def edges (o : Oper) : List Nat := (o.after.toList.filter (Region.binds .any)).map (·.on)
def ancs : List Oper → List (List Nat) → List (List Nat)
 | [], acc => acc
 | o :: os, acc => ancs os (acc ++ [((edges o).flatMap fun e => e :: acc.getD e []).eraseDups])
def pairsOk (tm : Tm) (D : FuncId → Option Con) (ops : RI) (an : List (List Nat)) : List Oper → Nat → Bool
 | [], _ => true
 | o :: rest, k => (edges o).all (· < k) && (List.range rest.length).all (fun d => (an.getD (k + 1 + d) []).contains k || match rest[d]? with | some q => commB tm D ops o q || (commV tm ops o q || commW tm ops o q) | none => true) && pairsOk tm D ops an rest (k + 1)
def drawOk (tm : Tm) (D : FuncId → Option Con) (ops : List Oper) : Bool := pairsOk tm D (riD ops) (ancs ops []) ops 0
def DrawOk (E : Env) (D : FuncId → Option Con) (ops : List Oper) : Prop := drawOk ⟨false, E.vc⟩ D ops = true ∨ (Tame E D ∧ drawOk ⟨true, E.vc⟩ D ops = true)
theorem DrawOk.tm {E : Env} {D : FuncId → Option Con} {ops : List Oper} (h : DrawOk E D ops) : ∃ tm : Tm, ((tm.b = true → Tame E D) ∧ tm.vc = E.vc) ∧ drawOk tm D ops = true := by
 rcases h with h | ⟨h1, h2⟩
 ·exact ⟨⟨false, E.vc⟩, ⟨(fun h => absurd h (by simp)), rfl⟩, h⟩
 ·exact ⟨⟨true, E.vc⟩, ⟨fun _ => h1, rfl⟩, h2⟩
section
variable {E : Env} {D : FuncId → Option Con} {tm : Tm}
theorem aev_congr {T T' : List PV} {M M' : List Blk} {x : Operand} (h : ∀ t, stripO x = some t → T.getD t undefP = T'.getD t undefP) : aev E ⟨T, M⟩ x = aev E ⟨T', M'⟩ x := by
 cases x with
 | tmp t => exact h t rfl
 | _ => rfl
theorem outf_tmps {ops : RI} {o : Oper} {T T' : List PV} {M : List Blk} (h : ∀ x ∈ o.op.operands.toList, aev E ⟨T, M⟩ x = aev E ⟨T', M⟩ x) : outf E ops ⟨T, M⟩ o = outf E ops ⟨T', M⟩ o := by
 have hl : ∀ xs : List Operand, (∀ x ∈ xs, aev E ⟨T, M⟩ x = aev E ⟨T', M⟩ x) → xs.map (aev E ⟨T, M⟩) = xs.map (aev E ⟨T', M⟩) := fun xs hx => List.map_congr_left hx
 have hload : ∀ t a, loadP E.P M t a = loadP E.P M t a := fun _ _ => rfl
 unfold outf outfE qvalE
 cases ho : o.op with
 | move x => simp [ho, Op.operands] at h; simp [h]
 | assign x => simp [ho, Op.operands] at h; simp [h]
 | pick c a b => simp [ho, Op.operands] at h; simp [h]
 | alloc t => simp
 | box t x => simp [ho, Op.operands] at h; simp [h]
 | build t ps =>
  simp only [ho, Op.operands] at h
  have e : (ps.toList.map fun (i, x) => (i, (aev E ⟨T, M⟩ x).strip)) = ps.toList.map fun (i, x) => (i, (aev E ⟨T', M⟩ x).strip) := by
   refine List.map_congr_left fun p hp => ?_
   show (p.1, (aev E ⟨T, M⟩ p.2).strip) = (p.1, (aev E ⟨T', M⟩ p.2).strip)
   rw [h p.2 (by simp; exact ⟨p.1, by simpa using hp⟩)]
  simp only [e]
 | buildSlice t n ps =>
  simp only [ho, Op.operands] at h
  have e : (ps.toList.map fun p => (aev E ⟨T, M⟩ p.2).strip) = ps.toList.map fun p => (aev E ⟨T', M⟩ p.2).strip := by
   refine List.map_congr_left fun p hp => ?_
   rw [h p.2 (by simp; exact ⟨p.1, by simpa using hp⟩)]
  simp only [e]
 | load t x => simp [ho, Op.operands] at h; simp [h, hload]
 | store t a x => simp [ho, Op.operands] at h; simp [h]
 | nilCheck x => simp [ho, Op.operands] at h; simp [h]
 | binOp op t x y u => simp [ho, Op.operands] at h; simp [h]
 | unOp op t x => simp [ho, Op.operands] at h; simp [h]
 | convert s d x => simp [ho, Op.operands] at h; simp [h]
 | makeInterface t x => simp [ho, Op.operands] at h; simp [h]
 | makeFunc fn a c =>
  simp only [ho, Op.operands, Array.toList_append] at h
  simp [hl a.toList (fun x hx => h x (List.mem_append_left _ hx)), hl c.toList (fun x hx => h x (List.mem_append_right _ hx))]
 | makeSlice t l c => simp [ho, Op.operands] at h; simp [h]
 | slice t x lo hi mx =>
  cases mx with
  | some m => simp
  | none =>
   have h1 : aev E ⟨T, M⟩ x = aev E ⟨T', M⟩ x := h x (by simp [ho, Op.operands])
   have h2 : lo.map (aev E ⟨T, M⟩) = lo.map (aev E ⟨T', M⟩) := by
    cases lo with
    | none => rfl
    | some l => simp [h l (by simp [ho, Op.operands])]
   have h3 : hi.map (aev E ⟨T, M⟩) = hi.map (aev E ⟨T', M⟩) := by
    cases hi with
    | none => rfl
    | some l => simp [h l (by simp [ho, Op.operands])]
   simp [h1, h2, h3]
 | fieldAddr s x f => simp [ho, Op.operands] at h; simp [h]
 | field s x f => simp [ho, Op.operands] at h; simp [h, hload]
 | indexAddr t x i => simp [ho, Op.operands] at h; simp [h]
 | index t x i => simp [ho, Op.operands] at h; simp [h, hload]
 | typeAssert x t u ok => simp [ho, Op.operands] at h; simp [h]
 | extract t i => simp [ho, Op.operands] at h; simp [h]
 | call c =>
  obtain ⟨callee, args, ts⟩ := c
  cases callee with
  | value f => simp
  | invoke r m => simp
  | builtin b =>
   have h' : ∀ x ∈ args.toList, aev E ⟨T, M⟩ x = aev E ⟨T', M⟩ x := fun x hx => h x (by simp [ho, Op.operands, Call.operands]; simpa using hx)
   cases b <;> simp only
   case append =>
    split
    ·rename_i x y t t' ha ht
     rw [h' x (by rw [ha]; simp), h' y (by rw [ha]; simp)]
    ·rfl
   case clear =>
    split
    ·rename_i x t ha ht
     rw [h' x (by rw [ha]; simp)]
    ·rfl
   case len =>
    split
    ·rename_i x t ha ht
     rw [h' x (by rw [ha]; simp)]
    ·rfl
   case min | max =>
    split
    ·rename_i x y ha
     rw [h' x (by rw [ha]; simp), h' y (by rw [ha]; simp)]
    ·rfl
 | _ => simp
theorem outf_quiet {ops : RI} (hd : ops.dr = true) {o : Oper} {T : List PV} {M M' : List Blk} (h : kindO tm D o = .quiet) : outf E ops ⟨T, M⟩ o = outf E ops ⟨T, M'⟩ o := by
 have ha : ∀ x, aev E ⟨T, M⟩ x = aev E ⟨T, M'⟩ x := fun x => aev_congr fun _ _ => rfl
 have ha' : aev E ⟨T, M⟩ = aev E ⟨T, M'⟩ := funext ha
 have hl : ∀ t cs off, loadP E.P M t (.vptr cs off) = loadP E.P M' t (.vptr cs off) := fun _ _ _ => rfl
 unfold outf outfE qvalE
 rw [(kind_N (by rw [h]; simp)).1] at h
 unfold kindN at h
 cases ho : o.op with
 | load t x => simp [ho] at h
 | alloc t => simp [ho] at h
 | box t x => simp [ho] at h
 | store t a x => simp [ho] at h
 | makeSlice t l c => simp [ho] at h
 | call c =>
  obtain ⟨callee, args, ts⟩ := c
  cases callee with
  | builtin b => cases b <;> first | (simp [ho] at h; done) | simp [ha', hd, seen]
  | _ => simp
 | slice t x lo hi mx => cases mx <;> simp [ha']
 | field s x f => simp [ha', hl]
 | index t x i => simp [ha', hl]
 | _ => simp [ha']
theorem outf_reads {ops : RI} {o : Oper} {T : List PV} {M : List Blk} {b : Blk} {v : PV} {e : Eff} (h : kindO tm D o = .reads) (hq : outf E ops ⟨T, M⟩ o = some (v, e)) : outf E ops ⟨T, M ++ [b]⟩ o = some (v, e) := by
 rw [(kind_N (by rw [h]; simp)).1] at h
 unfold kindN at h
 split at h <;> try (simp at h; done)
 ·rename_i t x ho
  unfold outf outfE qvalE at hq ⊢
  simp only [ho] at hq ⊢
  obtain ⟨r, hr, he⟩ := Option.map_eq_some_iff.1 hq
  rw [show loadP E.P (M ++ [b]) t (aev E ⟨T, M ++ [b]⟩ x) = some r by
   rw [show aev E ⟨T, M ++ [b]⟩ x = aev E ⟨T, M⟩ x from aev_congr fun _ _ => rfl]
   have hc : ∀ n cs, cellsAt M (aev E ⟨T, M⟩ x) n = some cs → cellsAt (M ++ [b]) (aev E ⟨T, M⟩ x) n = some cs := by
    intro n cs hcs
    unfold cellsAt at hcs ⊢
    split at hcs
    ·rename_i i off he
     cases hb : M[i]? with
     | none => simp [hb] at hcs
     | some blk =>
      obtain ⟨hlt, _⟩ := List.getElem?_eq_some_iff.1 hb
      rw [List.getElem?_append_left hlt, hb]
      simpa [hb] using hcs
    ·exact hcs
    ·exact hcs
   unfold loadP at hr ⊢
   split at hr
   ·obtain ⟨cs, h1, rfl⟩ := Option.map_eq_some_iff.1 hr
    rw [hc _ _ h1]; rfl
   ·split at hr
    ·rename_i c hcc
     rw [hc _ _ hcc]; exact hr
    ·simp at hr
   ·simp at hr]
  simp [he]
 ·split at h <;> (try split at h) <;> simp at h
def Yld (E : Env) (D : FuncId → Option Con) (ops : RI) (o : Oper) (st : St) (v : PV) (e : Eff) : Prop :=
 match o.op with
 | .call { callee := .value f, args, .. } => ∃ g vs, callee E st f args = some (g, vs) ∧ e = {} ∧ ((∃ R, D g = some (.pure R) ∧ PQ ops.dr st.blks R vs v) ∨ (∃ R, D g = some (.read R) ∧ R vs st.blks v))
 | _ => vcOn E ops o.dst o.op = false ∧ outf E ops st o = some (v, e)
theorem vop_dr (ht : tm.vc = E.vc) {ops : RI} {o : Oper} (hb : kindO tm D o ≠ .bar) : vcOn E ops o.dst o.op = false := by
 have h := (kind_N hb).2
 unfold vcT at h
 rw [ht] at h
 exact h
theorem yld_of_aop (ht : (tm.b = true → Tame E D) ∧ tm.vc = E.vc) {ops : RI} (hd : ops.dr = true) {o : Oper} {st : St} {K : St → Prop} (hb : kindO tm D o ≠ .bar) (h : aop E D ops o st K) : ∃ v e, Yld E D ops o st v e ∧ K (app o v e st) := by
 unfold aop at h
 unfold Yld
 split at h
 ·rename_i f args ts ho
  simp only [ho]
  split at h
  ·rename_i g vs hc
   split at h
   ·rename_i R hg
    obtain ⟨r, hr, hk⟩ := h
    exact ⟨r, {}, ⟨g, vs, hc, rfl, .inl ⟨R, hg, hr⟩⟩, hk⟩
   ·rename_i c hne hg
    cases c with
    | pure R => exact absurd rfl (hne R)
    | read R =>
     obtain ⟨r, hr, hk⟩ := h
     exact ⟨r, {}, ⟨g, vs, hc, rfl, .inr ⟨R, hg, hr⟩⟩, hk⟩
    | gen T _ =>
     exfalso
     by_cases htm : tm.b = true
     ·rcases (ht.1 htm).2 g _ hg with ⟨R, h⟩ | ⟨R, h⟩ <;> cases h
     rw [Bool.not_eq_true] at htm
     rw [(kind_N hb).1] at hb
     rw [htm] at hb
     apply hb
     unfold kindN
     simp only [ho]
     cases f with
     | func g' =>
      simp [callee, aev] at hc
      simp [hc.1, hg]
     | _ => rfl
    | iter T =>
     exfalso
     by_cases htm : tm.b = true
     ·rcases (ht.1 htm).2 g _ hg with ⟨R, h⟩ | ⟨R, h⟩ <;> cases h
     rw [Bool.not_eq_true] at htm
     rw [(kind_N hb).1] at hb
     rw [htm] at hb
     apply hb
     unfold kindN
     simp only [ho]
     cases f with
     | func g' =>
      simp [callee, aev] at hc
      simp [hc.1, hg]
     | _ => rfl
   ·exact h.elim
  ·rename_i hc
   exfalso
   by_cases htm : tm.b = true
   ·unfold yop at h
    rw [(ht.1 htm).1] at h
    split at h
    ·rename_i h1; cases h1
    ·exact h
   rw [Bool.not_eq_true] at htm
   rw [(kind_N hb).1] at hb
   rw [htm] at hb
   apply hb
   unfold kindN
   simp only [ho]
   cases f with
   | func g' => simp [callee, aev] at hc
   | _ => rfl
 ·rename_i hnc
  rw [vop_dr ht.2 hb] at h
  simp only at h
  split at h
  ·rename_i v e hv
   refine ⟨v, e, ?_, h⟩
   split
   ·rename_i ho; exact absurd ho (hnc _ _ _)
   ·exact ⟨vop_dr ht.2 hb, hv⟩
  ·exact h.elim
theorem aop_of_yld {ops : RI} (hd : ops.dr = true) {o : Oper} {st : St} {K : St → Prop} {v : PV} {e : Eff} (h : Yld E D ops o st v e) (hk : K (app o v e st)) : aop E D ops o st K := by
 unfold Yld at h
 unfold aop
 split at h
 ·rename_i f args ts ho
  obtain ⟨g, vs, hc, rfl, h⟩ := h
  simp only [ho, hc]
  rcases h with ⟨R, hg, hr⟩ | ⟨R, hg, hr⟩
  ·simp only [hg]; exact ⟨v, hr, hk⟩
  ·simp only [hg]; exact ⟨v, hr, hk⟩
 ·rename_i hn
  split
  ·rename_i f args ts ho; exact absurd ho (hn _ _ _)
  ·rw [h.1]; simp only; rw [h.2]; exact hk
theorem yld_specN {ops : RI} (hd : ops.dr = true) {o : Oper} {st : St} {v : PV} {e : Eff} (h : Yld E D ops o st v e) : (e.strip = none ∨ e.strip = stripS ops o) ∧ (kindN tm.b D o = .quiet ∨ kindN tm.b D o = .reads ∨ kindN tm.b D o = .rcall → e.mem = .none) ∧ (kindN tm.b D o = .fresh → ∃ cs, e.mem = .new cs) := by
 unfold Yld at h
 split at h
 ·rename_i f args ts ho
  obtain ⟨g, vs, hc, rfl, h⟩ := h
  refine ⟨.inl rfl, fun _ => rfl, fun hk => ?_⟩
  unfold kindN at hk
  simp only [ho] at hk
  split at hk
  ·split at hk <;> simp at hk
  ·cases htb : tm.b <;> simp [htb] at hk
 ·have hqm : ∀ {q : Option PV}, q.map (fun r => (r.strip, ({} : Eff))) = some (v, e) → e = {} := by
   intro q hq
   obtain ⟨r, _, he⟩ := Option.map_eq_some_iff.1 hq
   exact (Prod.mk.inj he).2.symm
  have h := h.2
  unfold outf outfE at h
  unfold stripS kindN
  split at h
  ·rename_i x ho
   simp only [ho]
   split at h
   ·rename_i hf
    simp at h; obtain ⟨_, rfl⟩ := h
    exact ⟨.inr (by simp [hf]), fun _ => rfl, fun hk => by simp at hk⟩
   ·simp at h; obtain ⟨_, rfl⟩ := h
    exact ⟨.inl rfl, fun _ => rfl, fun hk => by simp at hk⟩
  ·rename_i x ho
   simp only [ho]
   simp at h; obtain ⟨_, rfl⟩ := h
   exact ⟨.inr rfl, fun _ => rfl, fun hk => by simp at hk⟩
  ·rename_i t ho
   simp only [ho]
   split at h
   ·split at h
    ·simp at h; obtain ⟨_, rfl⟩ := h
     exact ⟨.inl rfl, fun hk => by simp at hk, fun _ => ⟨_, rfl⟩⟩
    ·simp at h
   ·simp at h
  ·rename_i t x ho
   simp only [ho]
   split at h
   ·simp at h; obtain ⟨_, rfl⟩ := h
    exact ⟨.inr rfl, fun hk => by simp at hk, fun _ => ⟨_, rfl⟩⟩
   ·simp at h
  ·rename_i t ps ho
   simp only [ho]
   obtain ⟨r, _, he⟩ := Option.map_eq_some_iff.1 h
   obtain ⟨_, rfl⟩ := Prod.mk.inj he
   exact ⟨.inl rfl, fun _ => rfl, fun hk => by simp at hk⟩
  ·rename_i t n ps ho
   simp only [ho]
   split at h
   ·split at h
    ·simp at h; obtain ⟨_, rfl⟩ := h
     exact ⟨.inl rfl, fun _ => rfl, fun hk => by simp at hk⟩
    ·simp at h
   ·simp at h
  ·rename_i t x y ho
   simp only [ho]
   split at h
   ·split at h
    ·split at h
     ·simp at h; obtain ⟨_, rfl⟩ := h
      exact ⟨.inr rfl, fun hk => by simp at hk, fun hk => by simp at hk⟩
     ·simp at h
    ·simp at h
   ·simp at h
  ·rename_i t x y ho
   simp only [ho]
   have hs : e.strip = none := by
    split at h
    ·split at h
     ·split at h
      ·simp at h; obtain ⟨_, rfl⟩ := h; rfl
      ·split at h
       ·split at h
        ·simp at h; obtain ⟨_, rfl⟩ := h; rfl
        ·simp at h
       ·simp at h
     ·simp at h
    ·simp at h
   exact ⟨.inl hs, fun hk => by simp at hk, fun hk => by simp at hk⟩
  ·rename_i args ts ho
   simp only [ho]
   split at h
   ·rename_i x y t t' ha ht
    split at h
    ·split at h
     ·split at h
      ·rw [hd] at h
       unfold appP at h
       split at h
       ·split at h
        ·simp at h; obtain ⟨_, rfl⟩ := h
         exact ⟨.inr (by simp [ha]), fun _ => rfl, fun hk => by simp at hk⟩
        ·simp at h
       ·split at h
        ·simp at h; obtain ⟨_, rfl⟩ := h
         exact ⟨.inl rfl, fun _ => rfl, fun hk => by simp at hk⟩
        ·simp at h
       ·simp [seen] at h
       ·simp at h
      ·simp at h
     ·simp at h
    ·simp at h
   ·simp at h
  ·rename_i args ts ho
   simp only [ho]
   split at h
   ·split at h
    ·split at h
     ·split at h
      ·split at h
       ·simp at h; obtain ⟨_, rfl⟩ := h
        exact ⟨.inl rfl, fun hk => by simp at hk, fun hk => by simp at hk⟩
       ·simp at h
      ·simp at h
     ·simp at h
    ·simp at h
   ·simp at h
  ·have he := hqm h
   subst he
   refine ⟨.inl rfl, fun _ => rfl, fun hk => ?_⟩
   split at hk <;> simp_all
theorem yld_spec {ops : RI} (hd : ops.dr = true) {o : Oper} {st : St} {v : PV} {e : Eff} (h : Yld E D ops o st v e) : (e.strip = none ∨ e.strip = stripS ops o) ∧ (kindO tm D o = .quiet ∨ kindO tm D o = .reads ∨ kindO tm D o = .rcall → e.mem = .none) ∧ (kindO tm D o = .fresh → ∃ cs, e.mem = .new cs) := by
 obtain ⟨h1, h2, h3⟩ := yld_specN (tm := tm) hd h
 refine ⟨h1, fun hk => h2 ?_, fun hk => h3 ?_⟩
 ·rcases hk with hk | hk | hk <;> (rw [(kind_N (by rw [hk]; simp)).1] at hk; simp [hk])
 ·rw [(kind_N (by rw [hk]; simp)).1] at hk; exact hk
def upd (T : List PV) (s d : Option Tmp) (v : PV) : List PV := match d with | some d => (stripAt T s).set d v | none => stripAt T s
theorem app_eq (o : Oper) (v : PV) (e : Eff) (st : St) : app o v e st = ⟨upd st.tmps e.strip o.dst v, mApply e.mem st.blks⟩ := by
 unfold app St.put upd
 cases o.dst <;> rfl
theorem stripAt_get (T : List PV) (s : Option Tmp) (t : Nat) : (stripAt T s)[t]? = if s = some t then T[t]?.map PV.strip else T[t]? := by
 unfold stripAt
 cases s with
 | none => simp
 | some x =>
  simp only
  cases hx : T[x]? with
  | none =>
   by_cases e : x = t
   ·subst e; simp [hx]
   ·simp [e]
  | some p =>
   simp only
   by_cases e : x = t
   ·subst e
    obtain ⟨hlt, _⟩ := List.getElem?_eq_some_iff.1 hx
    rw [List.getElem?_set_self hlt, if_pos rfl, hx]; rfl
   ·rw [List.getElem?_set_ne e]; simp [e]
theorem stripAt_length (T : List PV) (s : Option Tmp) : (stripAt T s).length = T.length := by
 unfold stripAt
 cases s with
 | none => rfl
 | some x => simp only; cases T[x]? <;> simp
theorem upd_get (T : List PV) (s d : Option Tmp) (v : PV) (t : Nat) : (upd T s d v)[t]? = if d = some t then (if t < T.length then some v else none) else if s = some t then T[t]?.map PV.strip else T[t]? := by
 unfold upd
 cases d with
 | none => simp [stripAt_get]
 | some x =>
  by_cases e : x = t
  ·subst e
   simp only [if_true]
   by_cases hlt : x < T.length
   ·rw [List.getElem?_set_self (by rw [stripAt_length]; exact hlt)]; simp [hlt]
   ·rw [List.getElem?_eq_none (by rw [List.length_set, stripAt_length]; exact Nat.le_of_not_lt hlt)]; simp [hlt]
  ·rw [List.getElem?_set_ne e, stripAt_get]; simp [e]
theorem upd_length (T : List PV) (s d : Option Tmp) (v : PV) : (upd T s d v).length = T.length := by
 unfold upd
 cases d <;> simp [stripAt_length]
theorem upd_comm {T : List PV} {s d s' d' : Option Tmp} {v v' : PV} (h : ∀ t, (s = some t ∨ d = some t) → ¬ (s' = some t ∨ d' = some t)) : upd (upd T s d v) s' d' v' = upd (upd T s' d' v') s d v := by
 apply List.ext_getElem?
 intro t
 simp only [upd_get, upd_length]
 have := h t
 by_cases h1 : s = some t <;> by_cases h2 : d = some t <;> by_cases h3 : s' = some t <;> by_cases h4 : d' = some t <;> simp_all
theorem disj_spec {a b : List Tmp} (h : disj a b = true) {t : Tmp} (ha : t ∈ a) : t ∉ b := by
 have := List.all_eq_true.1 h t ha
 simpa using this
theorem upd_getD {T : List PV} {s d : Option Tmp} {v : PV} {t : Nat} (h : ¬ (s = some t ∨ d = some t)) : (upd T s d v).getD t undefP = T.getD t undefP := by
 have h1 : ¬ s = some t := fun e => h (.inl e)
 have h2 : ¬ d = some t := fun e => h (.inr e)
 simp [List.getD, upd_get, h1, h2]
theorem slots_W {ops : RI} {o : Oper} {st : St} {v : PV} {e : Eff} (h : e.strip = none ∨ e.strip = stripS ops o) {t : Tmp} (ht : e.strip = some t ∨ o.dst = some t) : t ∈ opW ops o := by
 unfold opW
 rcases ht with ht | ht
 ·rcases h with h | h
  ·rw [h] at ht; simp at ht
  ·rw [h] at ht; simp [ht]
 ·simp [ht]
theorem aev_R {ops : RI} {i j : Oper} {T : List PV} {M M' : List Blk} {s : Option Tmp} {v : PV} (hs : s = none ∨ s = stripS ops i) (h : disj (opW ops i) (opR ops j) = true) {x : Operand} (hx : x ∈ j.op.operands.toList) :
  aev E ⟨upd T s i.dst v, M⟩ x = aev E ⟨T, M'⟩ x := by
 refine aev_congr fun t ht => upd_getD fun hw => ?_
 have h1 : t ∈ opW ops i := slots_W (st := ⟨[], []⟩) (v := v) (e := { strip := s }) hs hw
 refine disj_spec h h1 ?_
 unfold opR
 exact List.mem_append_left _ (List.mem_filterMap.2 ⟨x, hx, ht⟩)
theorem yld_at {ops : RI} (hd : ops.dr = true) {o : Oper} {T T' : List PV} {M M' : List Blk} {v : PV} {e : Eff} (h : Yld E D ops o ⟨T, M⟩ v e) (hT : ∀ x ∈ o.op.operands.toList, aev E ⟨T, M⟩ x = aev E ⟨T', M⟩ x)
  (hM : M' = M ∨ kindO tm D o = .quiet ∨ (kindO tm D o = .reads ∧ ∃ b, M' = M ++ [b])) : Yld E D ops o ⟨T', M'⟩ v e := by
 unfold Yld at h ⊢
 split at h
 ·rename_i f args ts ho
  simp only [ho]
  obtain ⟨g, vs, hc, he, h⟩ := h
  refine ⟨g, vs, ?_, he, ?_⟩
  ·rw [ho] at hT
   have h1 : ∀ x ∈ f :: args.toList, aev E ⟨T, M⟩ x = aev E ⟨T', M'⟩ x := fun x hx => by
    rw [hT x (by simpa [Op.operands, Call.operands] using hx)]
    exact aev_congr fun _ _ => rfl
   unfold callee at hc ⊢
   rw [← h1 f (by simp)]
   have h2 : args.toList.map (fun x => (aev E ⟨T', M'⟩ x).strip) = args.toList.map (fun x => (aev E ⟨T, M⟩ x).strip) := List.map_congr_left fun x hx => by rw [h1 x (by simp [hx])]
   rw [h2]
   exact hc
  ·rcases h with ⟨R, hg, hr⟩ | ⟨R, hg, hr⟩
   ·refine .inl ⟨R, hg, ?_⟩
    rw [hd] at hr ⊢
    exact hr
   ·refine .inr ⟨R, hg, ?_⟩
    rcases hM with rfl | hq | ⟨hq, _⟩
    ·exact hr
    ·exfalso
     rw [(kind_N (by rw [hq]; simp)).1] at hq
     unfold kindN at hq
     simp only [ho] at hq
     cases f with
     | func g' =>
      simp [callee, aev] at hc
      simp [hc.1, hg] at hq
     | _ => cases htb : tm.b <;> simp [htb] at hq
    ·exfalso
     rw [(kind_N (by rw [hq]; simp)).1] at hq
     unfold kindN at hq
     simp only [ho] at hq
     cases f with
     | func g' =>
      simp [callee, aev] at hc
      simp [hc.1, hg] at hq
     | _ => cases htb : tm.b <;> simp [htb] at hq
 ·obtain ⟨hv, h⟩ := h
  refine ⟨hv, ?_⟩
  rw [outf_tmps hT] at h
  rcases hM with rfl | hq | ⟨hq, b, rfl⟩
  ·exact h
  ·rw [outf_quiet hd hq (M' := M)]; exact h
  ·exact outf_reads hq h
def Spec (tm : Tm) (D : FuncId → Option Con) (ops : RI) (o : Oper) (e : Eff) : Prop :=
 (e.strip = none ∨ e.strip = stripS ops o) ∧ (kindO tm D o = .quiet ∨ kindO tm D o = .reads ∨ kindO tm D o = .rcall → e.mem = .none) ∧ (kindO tm D o = .fresh → (∃ cs, e.mem = .new cs) ∨ e.mem = .none)
theorem Yld.spec {ops : RI} (hd : ops.dr = true) {o : Oper} {st : St} {v : PV} {e : Eff} (h : Yld E D ops o st v e) : Spec tm D ops o e :=
 let ⟨a, b, c⟩ := yld_spec hd h
 ⟨a, b, fun hk => .inl (c hk)⟩
theorem spec_skip (ops : RI) (o : Oper) : Spec tm D ops o {} := ⟨.inl rfl, fun _ => rfl, fun _ => .inr rfl⟩
theorem comm_spec {ops : RI} (hd : ops.dr = true) {i j : Oper} (hc : commB tm D ops i j = true) {v v' : PV} {e e' : Eff} (hi : Spec tm D ops i e) (hj : Spec tm D ops j e') (st : St) :
  (∀ {v0 e0}, Yld E D ops j (app i v e st) v0 e0 → Yld E D ops j st v0 e0) ∧ (∀ {v0 e0}, Yld E D ops i st v0 e0 → Yld E D ops i (app j v' e' st) v0 e0) ∧ app j v' e' (app i v e st) = app i v e (app j v' e' st) := by
 unfold commB at hc
 simp only [Bool.and_eq_true] at hc
 obtain ⟨⟨⟨d1, d2⟩, d3⟩, hk⟩ := hc
 obtain ⟨s1, m1, f1⟩ := hi
 obtain ⟨s2, m2, f2⟩ := hj
 obtain ⟨T, M⟩ := st
 simp only [app_eq]
 have hslots : ∀ t, (e.strip = some t ∨ i.dst = some t) → ¬ (e'.strip = some t ∨ j.dst = some t) := fun t h1 h2 =>
  disj_spec d2 (slots_W (st := ⟨[], []⟩) (v := v) s1 h1) (slots_W (st := ⟨[], []⟩) (v := v) s2 h2)
 have hTj : ∀ M0, ∀ x ∈ j.op.operands.toList, aev E ⟨upd T e.strip i.dst v, M0⟩ x = aev E ⟨T, M0⟩ x := fun M0 x hx => aev_R s1 d1 hx
 have hTi : ∀ M0, ∀ x ∈ i.op.operands.toList, aev E ⟨T, M0⟩ x = aev E ⟨upd T e'.strip j.dst v', M0⟩ x := fun M0 x hx => (aev_R s2 d3 hx).symm
 have hmem : e.mem = .none ∨ e'.mem = .none := by
  cases h1 : kindO tm D i <;> cases h2 : kindO tm D j <;> simp [h1, h2] at hk m1 m2 <;> simp [m1, m2]
 have hMj : M = mApply e.mem M ∨ kindO tm D j = .quiet := by
  cases h1 : kindO tm D i <;> cases h2 : kindO tm D j <;> simp [h1, h2] at hk m1 <;> first | exact .inr rfl | (exact .inl (by rw [m1]; rfl))
 have hMi : mApply e'.mem M = M ∨ kindO tm D i = .quiet ∨ (kindO tm D i = .reads ∧ ∃ b, mApply e'.mem M = M ++ [b]) := by
  cases h1 : kindO tm D i <;> cases h2 : kindO tm D j <;> simp [h1, h2] at hk m2 f2 <;> first | exact .inr (.inl rfl) | (exact .inl (by rw [m2]; rfl)) | (rcases f2 with ⟨cs, hcs⟩ | hcs; exact .inr (.inr ⟨rfl, .live cs, by rw [hcs]; rfl⟩); exact .inl (by rw [hcs]; rfl))
 refine ⟨fun hj => ?_, fun hi => ?_, ?_⟩
 ·refine yld_at (tm := tm) hd hj (hTj _) ?_
  rcases hMj with h | h
  ·exact .inl h
  ·exact .inr (.inl h)
 ·exact yld_at (tm := tm) hd hi (hTi _) hMi
 ·rw [upd_comm hslots]
  congr 1
  rcases hmem with h | h
  ·rw [h]; rfl
  ·rw [h]; rfl
def gP (ops : RI) (st : St) (o : Oper) : Option Bool :=
 match o.guard with
 | none => some true
 | some (j, want) => match guardP ops st j with
  | .val (.bool b) => some (b == want)
  | .tuple [] => some false
  | _ => none
theorem gP_app {ops : RI} {i j : Oper} {v : PV} {e : Eff} (hs : Spec tm D ops i e) (h : disj (opW ops i) (opR ops j) = true) (st : St) : gP ops (app i v e st) j = gP ops st j := by
 unfold gP
 cases hg : j.guard with
 | none => rfl
 | some jw =>
  obtain ⟨k, want⟩ := jw
  simp only
  have : guardP ops (app i v e st) k = guardP ops st k := by
   unfold guardP
   split
   ·rename_i d hk
    simp only [app_eq]
    have := upd_getD (T := st.tmps) (s := e.strip) (d := i.dst) (v := v) (t := d) (fun hw => by
     have h1 := slots_W (st := ⟨[], []⟩) (v := v) hs.1 hw
     refine disj_spec h h1 ?_
     unfold opR
     exact List.mem_append_right _ (by simp [hg, hk]))
    simpa [undefP] using this
   ·rfl
  rw [this]
def stepA (E : Env) (D : FuncId → Option Con) (ops : Array Oper) (i : Nat) (K : St → Prop) (st : St) : Prop :=
 match ops[i]? with
 | none => K st
 | some o => match gP (riD ops.toList) st o with
  | some true => aop E D (riD ops.toList) o st K
  | some false => K (st.put o.dst (.tuple []))
  | none => False
def anyA (E : Env) (D : FuncId → Option Con) (ops : Array Oper) (K : St → Prop) : Nat → Array Bool → St → Prop
 | 0, listed, st => Region.ready .any ops listed = [] ∧ K st
 | fuel + 1, listed, st => (Region.ready .any ops listed = [] → K st) ∧ ∀ i ∈ Region.ready .any ops listed, stepA E D ops i (anyA E D ops K fuel (listed.setIfInBounds i true)) st
def Did (E : Env) (D : FuncId → Option Con) (ops : RI) (o : Oper) (st : St) (v : PV) (e : Eff) : Prop :=
 (gP ops st o = some true ∧ Yld E D ops o st v e) ∨ (gP ops st o = some false ∧ v = .tuple [] ∧ e = {})
theorem Did.spec {ops : RI} (hd : ops.dr = true) {o : Oper} {st : St} {v : PV} {e : Eff} (h : Did E D ops o st v e) : Spec tm D ops o e := by
 rcases h with ⟨_, h⟩ | ⟨_, _, rfl⟩
 ·exact (h.spec hd)
 ·exact spec_skip _ _
theorem Did.step {ops : Array Oper} {i : Nat} {o : Oper} {st : St} {v : PV} {e : Eff} {K : St → Prop} (hi : ops[i]? = some o) (h : Did E D (riD ops.toList) o st v e) (hk : K (app o v e st)) : stepA E D ops i K st := by
 unfold stepA
 simp only [hi]
 rcases h with ⟨hg, h⟩ | ⟨hg, rfl, rfl⟩
 ·simp only [hg]; exact aop_of_yld rfl h hk
 ·simp only [hg]; exact hk
theorem did_of_step (ht : (tm.b = true → Tame E D) ∧ tm.vc = E.vc) {ops : Array Oper} {i : Nat} {o : Oper} {st : St} {K : St → Prop} (hi : ops[i]? = some o) (hb : kindO tm D o ≠ .bar) (h : stepA E D ops i K st) : ∃ v e, Did E D (riD ops.toList) o st v e ∧ K (app o v e st) := by
 unfold stepA at h
 simp only [hi] at h
 split at h
 ·rename_i hg
  obtain ⟨v, e, h1, h2⟩ := yld_of_aop ht rfl hb h
  exact ⟨v, e, .inl ⟨hg, h1⟩, h2⟩
 ·rename_i hg
  exact ⟨.tuple [], {}, .inr ⟨hg, rfl, rfl⟩, h⟩
 ·exact h.elim
theorem comm_bar {ops : RI} {i j : Oper} (hc : commB tm D ops i j = true) : kindO tm D i ≠ .bar ∧ kindO tm D j ≠ .bar := by
 unfold commB at hc
 simp only [Bool.and_eq_true] at hc
 obtain ⟨_, hk⟩ := hc
 constructor <;> intro h <;> rw [h] at hk
 ·simp at hk
 ·cases h1 : kindO tm D i <;> simp [h1] at hk
theorem stepA_comm (ht : (tm.b = true → Tame E D) ∧ tm.vc = E.vc) {ops : Array Oper} {j : Nat} {oi oj : Oper} {v : PV} {e : Eff} {K : St → Prop} {st : St} (hj : ops[j]? = some oj) (hc : commB tm D (riD ops.toList) oi oj = true) (hi : Did E D (riD ops.toList) oi st v e)
  (h : stepA E D ops j K (app oi v e st)) : stepA E D ops j (fun st' => Did E D (riD ops.toList) oi st' v e ∧ K (app oi v e st')) st := by
 obtain ⟨v', e', h1, h2⟩ := did_of_step ht hj (comm_bar hc).2 h
 have hd := hc
 unfold commB at hd
 simp only [Bool.and_eq_true] at hd
 obtain ⟨⟨⟨d1, d2⟩, d3⟩, _⟩ := hd
 have sj := h1.spec (tm := tm) rfl
 obtain ⟨c1, c2, c3⟩ := comm_spec (E := E) rfl hc (v := v) (v' := v') (hi.spec (tm := tm) rfl) sj st
 have hgj : gP (riD ops.toList) (app oi v e st) oj = gP (riD ops.toList) st oj := gP_app (hi.spec (tm := tm) rfl) d1 st
 have hgi : gP (riD ops.toList) (app oj v' e' st) oi = gP (riD ops.toList) st oi := gP_app sj d3 st
 have hdj : Did E D (riD ops.toList) oj st v' e' := by
  rcases h1 with ⟨hg, hy⟩ | ⟨hg, hv, he⟩
  ·exact .inl ⟨by rw [← hgj]; exact hg, c1 hy⟩
  ·exact .inr ⟨by rw [← hgj]; exact hg, hv, he⟩
 refine hdj.step hj ⟨?_, by rw [← c3]; exact h2⟩
 rcases hi with ⟨hg, hy⟩ | ⟨hg, hv, he⟩
 ·exact .inl ⟨by rw [hgi]; exact hg, c2 hy⟩
 ·exact .inr ⟨by rw [hgi]; exact hg, hv, he⟩
def Closed (ops : Array Oper) (listed : Array Bool) : Prop := ∀ j o, ops[j]? = some o → listed.getD j false = true → ∀ e ∈ edges o, listed.getD e false = true
def AncOk (ops : Array Oper) (an : List (List Nat)) : Prop := ∀ j o, ops[j]? = some o → ∀ i ∈ an.getD j [], ∃ e ∈ edges o, i = e ∨ (e < j ∧ i ∈ an.getD e [])
theorem ready_edges {ops : Array Oper} {listed : Array Bool} {j : Nat} {o : Oper} (hj : j ∈ Region.ready .any ops listed) (ho : ops[j]? = some o) : ∀ e ∈ edges o, listed.getD e false = true := by
 obtain ⟨_, o', ho', hall⟩ := mem_ready.1 hj
 rw [ho] at ho'
 obtain rfl := Option.some.inj ho'
 intro e he
 unfold edges at he
 obtain ⟨ed, hed, rfl⟩ := List.mem_map.1 he
 obtain ⟨h1, h2⟩ := List.mem_filter.1 hed
 exact hall ed (by simpa using h1) h2
theorem listed_anc {ops : Array Oper} {an : List (List Nat)} {listed : Array Bool} (ha : AncOk ops an) (hc : Closed ops listed) (hsz : listed.size = ops.size) : ∀ (j : Nat), listed.getD j false = true → ∀ i ∈ an.getD j [], listed.getD i false = true := by
 intro j
 induction j using Nat.strongRecOn with
 | _ j ih =>
  intro hj i hi
  have hlt : j < ops.size := by
   rw [← hsz]
   apply Decidable.byContradiction
   intro h
   simp [Array.getElem?_eq_none (Nat.le_of_not_lt h)] at hj
  obtain ⟨e, he, h⟩ := ha j _ (Array.getElem?_eq_getElem hlt) i hi
  have hle := hc j _ (Array.getElem?_eq_getElem hlt) hj e he
  rcases h with rfl | ⟨h1, h2⟩
  ·exact hle
  ·exact ih e h1 hle i h2
theorem ready_anc {ops : Array Oper} {an : List (List Nat)} {listed : Array Bool} (ha : AncOk ops an) (hc : Closed ops listed) (hsz : listed.size = ops.size) {j : Nat} {o : Oper} (hj : j ∈ Region.ready .any ops listed) (ho : ops[j]? = some o) :
  ∀ i ∈ an.getD j [], listed.getD i false = true := by
 intro i hi
 obtain ⟨e, he, h⟩ := ha j o ho i hi
 have hle := ready_edges hj ho e he
 rcases h with rfl | ⟨h1, h2⟩
 ·exact hle
 ·exact listed_anc ha hc hsz e hle i h2
theorem closed_set {ops : Array Oper} {listed : Array Bool} {j : Nat} (hc : Closed ops listed) (hj : j ∈ Region.ready .any ops listed) : Closed ops (listed.setIfInBounds j true) := by
 intro k o ho hk e he
 by_cases h : j = k
 ·subst h; exact getD_set_true (ready_edges hj ho e he)
 ·rw [getD_set_ne false h] at hk
  exact getD_set_true (hc k o ho hk e he)
theorem anyA_first (ht : (tm.b = true → Tame E D) ∧ tm.vc = E.vc) {ops : Array Oper} {an : List (List Nat)} (ha : AncOk ops an) {K : St → Prop} {i : Nat} {oi : Oper} {v : PV} {e : Eff} (hi : ops[i]? = some oi) : ∀ (fuel : Nat) (listed : Array Bool) (st : St), Closed ops listed → listed.size = ops.size →
  (∀ j oj, ops[j]? = some oj → j ≠ i → listed.getD j true = false → i ∉ an.getD j [] → commB tm D (riD ops.toList) oi oj = true) →
  i ∈ Region.ready .any ops listed → Did E D (riD ops.toList) oi st v e → anyA E D ops K fuel (listed.setIfInBounds i true) (app oi v e st) → anyA E D ops K (fuel + 1) listed st := by
 intro fuel
 induction fuel with
 | zero =>
  intro listed st _ _ _ hr hy H
  refine ⟨fun h => (by rw [h] at hr; cases hr), fun j hj => ?_⟩
  by_cases hji : j = i
  ·subst hji; exact hy.step hi H
  ·have := ready_mono hj hji
   rw [H.1] at this
   cases this
 | succ fuel ih =>
  intro listed st hcl hsz hfree hr hy H
  refine ⟨fun h => (by rw [h] at hr; cases hr), fun j hj => ?_⟩
  by_cases hji : j = i
  ·subst hji; exact hy.step hi H
  ·have h1 := H.2 j (ready_mono hj hji)
   obtain ⟨hjun, oj, hoj, hall⟩ := mem_ready.1 hj
   have hnot : i ∉ an.getD j [] := fun hin => by
    have h1 := ready_anc ha hcl hsz hj hoj i hin
    have h0 := (mem_ready.1 hr).1
    rcases Nat.lt_or_ge i listed.size with h' | h'
    ·simp [h'] at h0 h1; rw [h0] at h1; cases h1
    ·simp [Array.getElem?_eq_none h'] at h1
   have hcm := hfree j oj hoj hji hjun hnot
   have h2 := stepA_comm ht hoj hcm hy h1
   have hfree' : ∀ k ok, ops[k]? = some ok → k ≠ i → (listed.setIfInBounds j true).getD k true = false → i ∉ an.getD k [] → commB tm D (riD ops.toList) oi ok = true := fun k ok hk hki hun hno => by
    refine hfree k ok hk hki ?_ hno
    by_cases hjk : j = k
    ·subst hjk; exact hjun
    ·rw [getD_set_ne true hjk] at hun; exact hun
   have hmono : ∀ st', (Did E D (riD ops.toList) oi st' v e ∧ anyA E D ops K fuel ((listed.setIfInBounds i true).setIfInBounds j true) (app oi v e st')) → anyA E D ops K (fuel + 1) (listed.setIfInBounds j true) st' := fun st' h3 => by
    refine ih (listed.setIfInBounds j true) st' (closed_set hcl hj) (by simpa using hsz) hfree' (ready_mono hr (Ne.symm hji)) h3.1 ?_
    rw [Array.setIfInBounds_comm _ _ hji]
    exact h3.2
   obtain ⟨v', e', k1, k2⟩ := did_of_step ht hoj (comm_bar hcm).2 h2
   exact k1.step hoj (hmono _ k2)
mutual
theorem avoid_strip {b : Nat} : ∀ p : PV, p.strip.avoid b = p.avoid b
 | .val _ => rfl
 | .sl _ _ _ => rfl
 | .slt _ _ _ => rfl
 | .vptr _ _ => rfl
 | .junk => rfl
 | .ptr _ _ => rfl
 | .rs _ _ _ _ _ => rfl
 | .iface _ v => by simp only [PV.strip, PV.avoid]; exact avoid_strip v
 | .agg cs => by simp only [PV.strip, PV.avoid]; exact avoidL_strip cs
 | .tuple cs => by simp only [PV.strip, PV.avoid]; exact avoidL_strip cs
 | .func _ a c => by simp only [PV.strip, PV.avoid, avoidL_strip a, avoidL_strip c]
theorem avoidL_strip {b : Nat} : ∀ l : List PV, avoidL b (stripL l) = avoidL b l
 | [] => rfl
 | x :: xs => by simp only [stripL, avoidL, avoid_strip x, avoidL_strip xs]
end
def killQ (k : Option Nat) (p : PV) : PV := match k with
 | none => p
 | some b => if p.avoid b then p else .junk
theorem killT_get (k : Option Nat) (T : List PV) (t : Nat) : (killT k T)[t]? = T[t]?.map (killQ k) := by
 cases k with
 | none => show T[t]? = _; cases T[t]? <;> rfl
 | some b => simp only [killT, List.getElem?_map]; cases T[t]? <;> rfl
theorem killQ_strip (k : Option Nat) (p : PV) : killQ k p.strip = (killQ k p).strip := by
 cases k with
 | none => rfl
 | some b =>
  simp only [killQ, avoid_strip]
  split <;> rfl
theorem killT_len (k : Option Nat) (T : List PV) : (killT k T).length = T.length := by cases k <;> simp [killT]
def mvS (E : Env) (ops : RI) (d : Option Tmp) (x : Tmp) (st : St) : St := ⟨upd st.tmps (if feeds ops d then some x else none) d (if feeds ops d then st.tmps.getD x undefP else (st.tmps.getD x undefP).strip), st.blks⟩
theorem aop_mv {ops : RI} {j : Oper} {x : Tmp} (ho : j.op = .move (.tmp x)) (st : St) (K : St → Prop) : aop E D ops j st K ↔ K (mvS E ops j.dst x st) := by
 have hv : vcOn E ops j.dst j.op = false := by rw [ho]; rfl
 have hq : outf E ops st j = some (if feeds ops j.dst then st.tmps.getD x undefP else (st.tmps.getD x undefP).strip, if feeds ops j.dst then { strip := some x } else {}) := by
  unfold outf
  rw [ho]
  show (if feeds ops j.dst then some (aev E st (.tmp x), { strip := stripO (.tmp x) }) else some ((aev E st (.tmp x)).strip, ({} : Eff))) = _
  split <;> rfl
 unfold aop
 split
 ·rename_i f args ts h'; rw [ho] at h'; cases h'
 ·rw [hv]
  simp only [hq, app_eq]
  unfold mvS
  split <;> rfl
def setO (d : Option Tmp) (L : List PV) (r : PV) : List PV := match d with
 | some q => L.set q r
 | none => L
theorem setO_get (d : Option Tmp) (L : List PV) (r : PV) (t : Nat) : (setO d L r)[t]? = if d = some t then (if t < L.length then some r else none) else L[t]? := by
 cases d with
 | none => simp [setO]
 | some q =>
  simp only [setO, Option.some.injEq]
  by_cases hq : q = t
  ·subst hq
   rw [if_pos rfl, List.getElem?_set]
   simp
  ·rw [if_neg hq, List.getElem?_set_ne hq]
theorem setO_len (d : Option Tmp) (L : List PV) (r : PV) : (setO d L r).length = L.length := by cases d <;> simp [setO]
theorem mv_kill {ops : RI} {T : List PV} {x : Tmp} {d dst : Option Tmp} {k : Option Nat} {r : PV} (h1 : dst ≠ some x) (h2 : ∀ t, dst = some t → d ≠ some t) :
  setO dst (killT k (upd T (if feeds ops d then some x else none) d (if feeds ops d then T.getD x undefP else (T.getD x undefP).strip))) r =
  upd (setO dst (killT k T) r) (if feeds ops d then some x else none) d (if feeds ops d then (setO dst (killT k T) r).getD x undefP else ((setO dst (killT k T) r).getD x undefP).strip) := by
 have hx : (setO dst (killT k T) r).getD x undefP = killQ k (T.getD x undefP) := by
  have e : ∀ L : List PV, L.getD x undefP = (L[x]?).getD undefP := fun L => by rw [List.getD_eq_getElem?_getD]
  have h0 : killQ k undefP = undefP := by cases k <;> rfl
  rw [e, e, setO_get, if_neg h1, killT_get]
  cases T[x]? with
  | none => exact h0.symm
  | some p => rfl
 rw [hx]
 apply List.ext_getElem?
 intro t
 rw [upd_get, setO_get, setO_len, killT_len, killT_len, upd_length, setO_get, killT_get, killT_get, killT_len, upd_get]
 by_cases hd : dst = some t
 ·have hdt := h2 t hd
  have hxt : ¬ (if feeds ops d then some x else none) = some t := by
   split
   ·intro h; exact h1 (by rw [hd, h])
   ·simp
  simp only [hd, if_true, if_neg hdt, if_neg hxt]
 ·simp only [if_neg hd]
  by_cases hd2 : d = some t
  ·simp only [if_pos hd2]
   split
   ·simp only [Option.map_some]
    split
    ·rfl
    ·rw [killQ_strip]
   ·rfl
  ·simp only [if_neg hd2]
   by_cases hxt : (if feeds ops d then some x else none) = some t
   ·simp only [if_pos hxt, Option.map_map]
    congr 1
    funext p
    exact killQ_strip k p
   ·simp only [if_neg hxt]
theorem vop_mv {ops : RI} {i j : Oper} {x : Tmp} (hj : j.op = .move (.tmp x)) (hi : (match i.op with | .call { callee := .builtin .append, .. } => true | _ => false) = true) (d1 : disj (opW ops i) (opR ops j) = true) (d2 : disj (opW ops i) (opW ops j) = true) (d3 : disj (opW ops j) (opR ops i) = true) {st : St} {n : Nat} {g : Nat → St} (h : vop E i st = some (n, g)) :
  ∃ g', vop E i (mvS E ops j.dst x st) = some (n, g') ∧ ∀ c, g' c = mvS E ops j.dst x (g c) := by
 split at hi
 case h_2 => simp at hi
 rename_i args ts ho
 have hv : ∀ st : St, vop E i st = vopA E i st := fun st => by
  have hb : vbld E i st = none := by unfold vbld; rw [ho]
  unfold vop
  rw [ho, hb]
  rfl
 rw [hv] at h ⊢
 unfold vopA at h ⊢
 simp only [ho] at h ⊢
 have hdx : i.dst ≠ some x := fun he => by
  refine disj_spec d1 (t := x) ?_ ?_
  ·unfold opW; simp [he]
  ·unfold opR; rw [hj]; simp [Op.operands, stripO]
 have hdd : ∀ t, i.dst = some t → j.dst ≠ some t := fun t h1 h2 => disj_spec d2 (t := t) (by unfold opW; simp [h1]) (by unfold opW; simp [h2])
 have hev : ∀ y ∈ args.toList, aev E (mvS E ops j.dst x st) y = aev E st y := fun y hy => by
  have := aev_congr (E := E) (T := (mvS E ops j.dst x st).tmps) (T' := st.tmps) (M := st.blks) (M' := st.blks) (x := y) (fun t ht => by
   unfold mvS
   refine upd_getD fun hw => disj_spec d3 (t := t) ?_ ?_
   ·unfold opW stripS
    rw [hj]
    rcases hw with hw | hw
    ·split at hw
     ·rename_i hf; simp only [Option.some.injEq] at hw; subst hw; simp [hf, stripO]
     ·simp at hw
    ·simp [hw]
   ·unfold opR
    rw [ho]
    exact List.mem_append_left _ (List.mem_filterMap.2 ⟨y, by simpa [Op.operands, Call.operands] using hy, ht⟩))
  exact this
 have hb : (mvS E ops j.dst x st).blks = st.blks := rfl
 split at h
 ·rename_i a b ta tb ha hta
  have ea := hev a (by rw [ha]; simp)
  have eb := hev b (by rw [ha]; simp)
  simp only [ha, hta, ea, eb, hb] at h ⊢
  split at h
  ·rename_i e he
   skip
   split at h
   ·rename_i ys hys
    try simp only [hys]
    split at h
    ·rename_i hc
     rw [if_pos hc]
     split at h
     ·rename_i n' k f hf
      try simp only [hf]
      simp only [Option.some.injEq, Prod.mk.injEq] at h
      obtain ⟨rfl, rfl⟩ := h
      refine ⟨_, rfl, fun c => ?_⟩
      have := mv_kill (ops := ops) (T := st.tmps) (x := x) (d := j.dst) (dst := i.dst) (k := k) (r := (f c).1) hdx hdd
      have hput : ∀ (L : List PV) (bl : List Blk) (p : PV), (({ tmps := L, blks := bl } : St).put i.dst p) = ⟨setO i.dst L p, bl⟩ := fun L bl p => by
       cases i.dst <;> rfl
      simp only [hput]
      unfold mvS
      simp only
      rw [this]
     ·simp at h
    ·simp at h
   ·simp at h
  ·simp at h
 ·simp at h
theorem stepA_mv {ops : Array Oper} {j : Nat} {oj : Oper} (hj : ops[j]? = some oj) (hm : movOp oj = true) : ∃ x, oj.op = .move (.tmp x) ∧ ∀ (K : St → Prop) (st : St), stepA E D ops j K st ↔ K (mvS E (riD ops.toList) oj.dst x st) := by
 unfold movOp at hm
 simp only [Bool.and_eq_true] at hm
 obtain ⟨hg, hm⟩ := hm
 split at hm
 ·rename_i x ho
  refine ⟨x, ho, fun K st => ?_⟩
  unfold stepA gP
  rw [hj]
  cases hgd : oj.guard with
  | none => simp only [hgd]; exact aop_mv ho st K
  | some q => simp [hgd] at hg
 ·simp at hm
theorem stepA_vc {ops : Array Oper} {i : Nat} {oi : Oper} (hi : ops[i]? = some oi) (hm : (appOp tm oi || bldOp tm oi) = true) (hvc : tm.vc = E.vc) (K : St → Prop) (st : St) : stepA E D ops i K st ↔ (match vop E oi st with | some (n, f) => ∀ c, n ≤ c → K (f c) | none => False) := by
 have key : vcT tm oi = true ∧ oi.guard = none ∧ ∀ f args ts, oi.op ≠ .call { callee := .value f, args := args, argTypes := ts } := by
  rcases Bool.or_eq_true_iff.1 hm with hm | hm
  ·unfold appOp at hm
   simp only [Bool.and_eq_true] at hm
   obtain ⟨⟨hv, hg⟩, hm⟩ := hm
   split at hm
   ·rename_i args ts ho
    exact ⟨hv, by simpa using hg, fun f a t h => by rw [ho] at h; cases h⟩
   ·simp at hm
  ·unfold bldOp at hm
   simp only [Bool.and_eq_true] at hm
   obtain ⟨⟨hv, hg⟩, hm⟩ := hm
   split at hm
   ·rename_i t ps ho
    exact ⟨hv, by simpa using hg, fun f a t h => by rw [ho] at h; cases h⟩
   ·simp at hm
 obtain ⟨hv, hg, hc⟩ := key
 have hon : vcOn E (riD ops.toList) oi.dst oi.op = true := by
  unfold vcT at hv
  rw [hvc] at hv
  exact hv
 unfold stepA gP
 rw [hi]
 simp only [hg]
 unfold aop
 split
 ·rename_i h'; exact absurd h' (hc _ _ _)
 ·rw [hon]
  cases vop E oi st <;> rfl
theorem strips_set {T : List PV} {d : Tmp} {p : PV} : ∀ {ts : List Tmp}, d ∉ ts → ∀ T : List PV, strips (T.set d p) ts = (strips T ts).set d p
 | [], _, T => rfl
 | t :: ts, h, T => by
  have hdt : d ≠ t := fun e => h (by simp [e])
  have e : stripAt (T.set d p) (some t) = (stripAt T (some t)).set d p := by
   simp only [stripAt, List.getElem?_set_ne hdt]
   cases T[t]? with
   | none => rfl
   | some v => exact List.set_comm _ _ hdt
  show strips (stripAt (T.set d p) (some t)) ts = (strips (stripAt T (some t)) ts).set d p
  rw [e, strips_set (T := T) (fun h' => h (by simp [h']))]
theorem stepA_cm (hvc : tm.vc = E.vc) {ops : Array Oper} {j : Nat} {oi oj : Oper} (hoj : ops[j]? = some oj) (hcm : (commV tm (riD ops.toList) oi oj || commW tm (riD ops.toList) oi oj) = true) {st : St} {n : Nat} {g : Nat → St} (hy : vop E oi st = some (n, g)) :
  ∃ (P : Prop) (h : St → St), (∀ (K : St → Prop) (st : St), stepA E D ops j K st ↔ P ∧ K (h st)) ∧ ∃ g', vop E oi (h st) = some (n, g') ∧ ∀ c, g' c = h (g c) := by
 rcases Bool.or_eq_true_iff.1 hcm with hcm | hcm
 ·unfold commV at hcm
  simp only [Bool.and_eq_true] at hcm
  obtain ⟨⟨⟨⟨d1, d2⟩, d3⟩, hap⟩, hmv⟩ := hcm
  obtain ⟨x, hox, hst⟩ := stepA_mv (E := E) (D := D) hoj hmv
  have hia : (match oi.op with | .call { callee := .builtin .append, .. } => true | _ => false) = true := by
   unfold appOp at hap
   simp only [Bool.and_eq_true] at hap
   exact hap.2
  exact ⟨True, _, fun K st => by rw [hst, true_and], vop_mv (E := E) hox hia d1 d2 d3 hy⟩
 ·unfold commW at hcm
  simp only [Bool.and_eq_true] at hcm
  obtain ⟨⟨⟨⟨d1, d2⟩, d3⟩, hap⟩, hmv⟩ := hcm
  unfold alcOp at hmv
  simp only [Bool.and_eq_true] at hmv
  obtain ⟨⟨hnv, hg⟩, hmv⟩ := hmv
  split at hmv
  case h_2 => simp at hmv
  rename_i t hoj2
  unfold bldOp at hap
  simp only [Bool.and_eq_true] at hap
  obtain ⟨_, hap⟩ := hap
  split at hap
  case h_2 => simp at hap
  rename_i bt parts hoi
  have hgn : oj.guard = none := by simpa using hg
  have hvj : vcOn E (riD ops.toList) oj.dst oj.op = false := by
   unfold vcT at hnv
   rw [hvc] at hnv
   have h2 := Bool.not_eq_true' _ ▸ hnv
   exact h2
  refine ⟨∃ z, zeroP E.P t = some z ∧ z.solid = true, fun st => ({ tmps := st.tmps, blks := st.blks ++ [.live ((zeroP E.P t).getD .junk).cells] } : St).put oj.dst (.ptr st.blks.length 0), fun K st => ?_, ?_⟩
  ·unfold stepA gP
   rw [hoj]
   simp only [hgn]
   unfold aop
   split
   ·rename_i h'; rw [hoj2] at h'; cases h'
   ·rw [hvj]
    simp only [outf, outfE, hoj2]
    cases hz : zeroP E.P t with
    | none => simp
    | some z =>
     by_cases hs : z.solid = true
     ·simp only [hs, if_true, Option.getD_some]
      exact ⟨fun h => ⟨⟨z, rfl, hs⟩, h⟩, fun h => h.2⟩
     ·simp only [if_neg hs]
      exact ⟨fun h => h.elim, fun ⟨⟨z', h1, h2⟩, _⟩ => hs (by injection h1 with h1; rw [h1]; exact h2)⟩
  ·have hnn : ∀ st : St, vnew E.P (aev E st) st.blks oi.op = none := fun st => by rw [hoi]; rfl
   have hva : ∀ st : St, vopA E oi st = none := fun st => by unfold vopA; rw [hoi]
   unfold vop at hy ⊢
   rw [hnn] at hy ⊢
   simp only [hva] at hy ⊢
   cases hb : vbld E oi st with
   | none => rw [hb] at hy; cases hy
   | some s =>
    rw [hb] at hy
    simp only [Option.some.injEq, Prod.mk.injEq] at hy
    obtain ⟨rfl, rfl⟩ := hy
    unfold vbld at hb ⊢
    simp only [hoi] at hb ⊢
    have hdW : ∀ d, oj.dst = some d → d ∉ parts.toList.filterMap fun p => stripO p.2 := fun d hd hin => by
     refine disj_spec d3 (t := d) (by unfold opW; simp [hd]) ?_
     unfold opR
     rw [hoi]
     refine List.mem_append_left _ ?_
     obtain ⟨p, hp, hs⟩ := List.mem_filterMap.1 hin
     exact List.mem_filterMap.2 ⟨p.2, by simp [Op.operands]; exact ⟨p.1, by simpa using hp⟩, hs⟩
    have hdd : ∀ t, oi.dst = some t → oj.dst ≠ some t := fun t h1 h2 => disj_spec d2 (t := t) (by unfold opW; simp [h1]) (by unfold opW; simp [h2])
    have hev : ∀ (M : List Blk) (q : PV) (p : Nat × Operand), p ∈ parts.toList → aev E (({ tmps := st.tmps, blks := M } : St).put oj.dst q) p.2 = aev E st p.2 := fun M q p hp => by
     refine aev_congr fun t ht => ?_
     cases hd : oj.dst with
     | none => rfl
     | some d =>
      have : d ≠ t := fun e => hdW d hd (List.mem_filterMap.2 ⟨p, hp, by rw [e]; exact ht⟩)
      simp only [St.put, List.getD_eq_getElem?_getD, List.getElem?_set_ne this]
    have hpm : ∀ (M : List Blk) (q : PV), (parts.toList.map fun p => (p.1, aev E (({ tmps := st.tmps, blks := M } : St).put oj.dst q) p.2)) = parts.toList.map fun p => (p.1, aev E st p.2) := fun M q => List.map_congr_left fun p hp => by rw [hev M q p hp]
    rw [hpm]
    cases hbp : buildP E.P bt (parts.toList.map fun p => (p.1, aev E st p.2)) with
    | none => simp only [hbp] at hb; cases hb
    | some r =>
     simp only [hbp] at hb ⊢
     split at hb
     case isFalse => cases hb
     rename_i hnd
     rw [if_pos hnd]
     injection hb with hb; subst hb
     refine ⟨_, rfl, fun c => ?_⟩
     cases hd : oj.dst with
     | none => cases hd2 : oi.dst <;> simp [St.put, hd2]
     | some d =>
      have e := strips_set (T := st.tmps) (p := .ptr st.blks.length 0) (hdW d hd) st.tmps
      cases hd2 : oi.dst with
      | none => simp only [St.put, e]
      | some d2 =>
       have hne : d2 ≠ d := fun h => hdd d2 hd2 (by rw [hd, h])
       simp only [St.put, e, List.set_comm _ _ hne]
theorem anyA_firstV (hvc : tm.vc = E.vc) {ops : Array Oper} {an : List (List Nat)} (ha : AncOk ops an) {K : St → Prop} {i : Nat} {oi : Oper} (hi : ops[i]? = some oi) (hap : (appOp tm oi || bldOp tm oi) = true) : ∀ (fuel : Nat) (listed : Array Bool) (st : St) (n : Nat) (g : Nat → St), Closed ops listed → listed.size = ops.size →
  (∀ j oj, ops[j]? = some oj → j ≠ i → listed.getD j true = false → i ∉ an.getD j [] → (commV tm (riD ops.toList) oi oj || commW tm (riD ops.toList) oi oj) = true) →
  i ∈ Region.ready .any ops listed → vop E oi st = some (n, g) → (∀ c, n ≤ c → anyA E D ops K fuel (listed.setIfInBounds i true) (g c)) → anyA E D ops K (fuel + 1) listed st := by
 intro fuel
 induction fuel with
 | zero =>
  intro listed st n g _ _ _ hr hy H
  refine ⟨fun h => (by rw [h] at hr; cases hr), fun j hj => ?_⟩
  by_cases hji : j = i
  ·subst hji; rw [stepA_vc hi hap hvc, hy]; exact H
  ·have := ready_mono hj hji
   rw [(H n (Nat.le_refl _)).1] at this
   cases this
 | succ fuel ih =>
  intro listed st n g hcl hsz hfree hr hy H
  refine ⟨fun h => (by rw [h] at hr; cases hr), fun j hj => ?_⟩
  by_cases hji : j = i
  ·subst hji; rw [stepA_vc hi hap hvc, hy]; exact H
  ·have h1 := fun c hc => (H c hc).2 j (ready_mono hj hji)
   obtain ⟨hjun, oj, hoj, hall⟩ := mem_ready.1 hj
   have hnot : i ∉ an.getD j [] := fun hin => by
    have h1 := ready_anc ha hcl hsz hj hoj i hin
    have h0 := (mem_ready.1 hr).1
    rcases Nat.lt_or_ge i listed.size with h' | h'
    ·simp [h'] at h0 h1; rw [h0] at h1; cases h1
    ·simp [Array.getElem?_eq_none h'] at h1
   have hcm := hfree j oj hoj hji hjun hnot
   obtain ⟨P, h, hst, g', hg', he⟩ := stepA_cm (E := E) (D := D) hvc hoj hcm hy
   have hP := ((hst _ _).1 (h1 n (Nat.le_refl _))).1
   rw [hst]
   refine ⟨hP, ?_⟩
   have hfree' : ∀ k ok, ops[k]? = some ok → k ≠ i → (listed.setIfInBounds j true).getD k true = false → i ∉ an.getD k [] → (commV tm (riD ops.toList) oi ok || commW tm (riD ops.toList) oi ok) = true := fun k ok hk hki hun hno => by
    refine hfree k ok hk hki ?_ hno
    by_cases hjk : j = k
    ·subst hjk; exact hjun
    ·rw [getD_set_ne true hjk] at hun; exact hun
   refine ih (listed.setIfInBounds j true) _ n g' (closed_set hcl hj) (by simpa using hsz) hfree' (ready_mono hr (Ne.symm hji)) hg' fun c hc => ?_
   have h3 := ((hst _ _).1 (h1 c hc)).2
   rw [Array.setIfInBounds_comm _ _ hji, he]
   exact h3
end
section
variable {E : Env} {D : FuncId → Option Con} {B : Base} {F : Fz} {R : List Nat} {st : St} {a : Act} {w : World}
theorem Sim.skip (h : Sim E B F R st a w) (d : Option Tmp) : Sim E B F R (st.put d (.tuple [])) (a.put d undef) w :=
 h.fill (s := none) h.mem (Fz.le_refl F) (Rle.refl R) (.tuple .nil) (by simp [undef, occ, occL]) h.own
theorem guard_rep (h : Sim E B F R st a w) {ops : Array Oper} {j : Nat} {p : PV} (hp : guardP (riD ops.toList) st j = p) :
  (∀ b, p = .val (.bool b) → yielded ops a.tmps j = some b) ∧ (p = .tuple [] → yielded ops a.tmps j = none) := by
 have hds : (riD ops.toList).ds[j]? = (ops.toList[j]?).map (·.dst) := by simp [riD]
 unfold guardP at hp
 rw [hds] at hp
 unfold yielded
 cases ho : ops.toList[j]? with
 | none => simp [ho] at hp; subst hp; exact ⟨fun b hb => by simp at hb, fun hb => by simp at hb⟩
 | some o =>
  have ho' : ops[j]? = some o := by simpa using ho
  simp only [ho, ho', Option.bind_some, Option.map_some] at hp ⊢
  cases hd : o.dst with
  | none => simp [hd] at hp; subst hp; exact ⟨fun b hb => by simp at hb, fun hb => by simp at hb⟩
  | some d =>
   simp only [hd, Option.bind_some] at hp ⊢
   have he := h.eval (.tmp d)
   simp only [aev, Act.eval, undefP] at he
   rw [hp] at he
   by_cases hlt : d < a.tmps.size
   ·have e : a.tmps[d]? = some (a.tmps.getD d undef) := by simp [Array.getD_eq_getD_getElem?, Array.getElem?_eq_getElem hlt]
    rw [e]
    refine ⟨fun b hb => ?_, fun hb => ?_⟩
    ·subst hb
     obtain ⟨e2, _⟩ := he.val_inv
     rw [e2]
    ·subst hb
     generalize a.tmps.getD d undef = v at *
     cases he; rfl
   ·have e : a.tmps[d]? = none := Array.getElem?_eq_none (Nat.le_of_not_lt hlt)
    rw [e]
    refine ⟨fun b hb => ?_, fun _ => rfl⟩
    subst hb
    have e2 : a.tmps.getD d undef = undef := by simp [Array.getD_eq_getD_getElem?, e]
    rw [e2] at he
    obtain ⟨e3, _⟩ := he.val_inv
    simp [undef] at e3
theorem aop_mono {ops : RI} {o : Oper} {st : St} {K K' : St → Prop} (h : aop E D ops o st K) (hk : ∀ st, K st → K' st) : aop E D ops o st K' := by
 unfold aop at h ⊢
 split at h
 ·rename_i f args ts ho
  split at h
  ·rename_i g vs hc
   split at h
   ·obtain ⟨r, h1, h2⟩ := h
    exact ⟨r, h1, hk _ h2⟩
   ·rename_i c hne hg
    exact conY_mono E.Y c (fun r b => hk _) h
   ·exact h.elim
  ·exact yop_mono (fun r b => hk _) h
 ·split at h
  ·split at h
   ·exact fun c hc => hk _ (h c hc)
   ·exact h.elim
  ·split at h
   ·exact hk _ h
   ·exact h.elim
theorem stepA_mono {ops : Array Oper} {i : Nat} {K K' : St → Prop} {st : St} (h : stepA E D ops i K st) (hk : ∀ st, K st → K' st) : stepA E D ops i K' st := by
 unfold stepA at h ⊢
 cases ho : ops[i]? with
 | none => simp only [ho] at h; exact hk _ h
 | some o =>
  simp only [ho] at h ⊢
  split at h
  ·exact aop_mono h hk
  ·exact hk _ h
  ·exact h.elim
theorem step_of_awpOps {ops : Array Oper} {k : Nat} {o : Oper} {rest : List Oper} {K : St → Prop} {st : St} (ho : ops[k]? = some o) (h : awpOps E D (riD ops.toList) (o :: rest) st K) : stepA E D ops k (fun st' => awpOps E D (riD ops.toList) rest st' K) st := by
 unfold awpOps at h
 unfold stepA gP
 simp only [ho]
 cases hg : o.guard with
 | none => simp only [hg] at h ⊢; exact h
 | some jw =>
  obtain ⟨j, want⟩ := jw
  simp only [hg] at h ⊢
  split at h
  ·rename_i b hb
   simp only [hb]
   by_cases hbw : b = want
   ·have : (b == want) = true := by simp [hbw]
    simp only [this]; exact h.1 hbw
   ·have : (b == want) = false := by simp [hbw]
    simp only [this]; exact h.2 (by cases b <;> cases want <;> simp_all)
  ·rename_i hb
   simp only [hb]; exact h
  ·exact h.elim
theorem ancs_spec : ∀ (l : List Oper) (acc : List (List Nat)), (∀ k, k < acc.length → (ancs l acc).getD k [] = acc.getD k []) ∧
  ∀ d o, l[d]? = some o → ∀ i ∈ (ancs l acc).getD (acc.length + d) [], ∃ e ∈ edges o, i = e ∨ (e < acc.length + d ∧ i ∈ (ancs l acc).getD e [])
 | [], acc => ⟨fun _ _ => rfl, fun d o h => by simp at h⟩
 | o :: os, acc => by
  obtain ⟨h1, h2⟩ := ancs_spec os (acc ++ [((edges o).flatMap fun e => e :: acc.getD e []).eraseDups])
  simp only [ancs]
  simp only [List.length_append, List.length_cons, List.length_nil] at h1 h2
  refine ⟨fun k hk => ?_, fun d q hq i hi => ?_⟩
  ·rw [h1 k (by omega)]
   simp [List.getD, List.getElem?_append_left hk]
  ·cases d with
   | zero =>
    simp at hq; subst hq
    rw [Nat.add_zero, h1 _ (by omega)] at hi
    simp [List.getD] at hi
    have hi' : i ∈ (edges o).flatMap fun e => e :: acc.getD e [] := by simpa [List.getD] using hi
    obtain ⟨e, he, hie⟩ := List.mem_flatMap.1 hi'
    rcases List.mem_cons.1 hie with rfl | hie
    ·exact ⟨_, he, .inl rfl⟩
    ·have hlt : e < acc.length := by
      apply Decidable.byContradiction
      intro hn
      simp [List.getD, List.getElem?_eq_none (Nat.le_of_not_lt hn)] at hie
     refine ⟨e, he, .inr ⟨by omega, ?_⟩⟩
     rw [h1 e (by omega)]
     simpa [List.getD, List.getElem?_append_left hlt] using hie
   | succ d =>
    have hq' : os[d]? = some q := by simpa using hq
    obtain ⟨e, he, h⟩ := h2 d q hq' i (by rw [show acc.length + 1 + d = acc.length + (d + 1) by omega]; exact hi)
    refine ⟨e, he, h.imp id fun ⟨a, b⟩ => ⟨by omega, b⟩⟩
theorem ancOk (ops : Array Oper) : AncOk ops (ancs ops.toList []) := by
 intro j o ho i hi
 obtain ⟨_, h⟩ := ancs_spec ops.toList []
 obtain ⟨e, he, h'⟩ := h j o (by simpa using ho) i (by simpa using hi)
 exact ⟨e, he, by simpa using h'⟩
theorem anyA_lex {tm : Tm} (ht : (tm.b = true → Tame E D) ∧ tm.vc = E.vc) {ops : Array Oper} {an : List (List Nat)} (ha : AncOk ops an) {K : St → Prop} : ∀ (l : List Oper) (k : Nat) (listed : Array Bool) (st : St), (∀ j, l[j]? = ops[k + j]?) → listed.size = ops.size → (∀ j, j < ops.size → listed.getD j true = decide (j < k)) → k + l.length = ops.size →
  Closed ops listed → pairsOk tm D (riD ops.toList) an l k = true → awpOps E D (riD ops.toList) l st K → anyA E D ops K l.length listed st
 | [], k, listed, st, hl, hsz, hpre, hlen, hcl, hB, h => by
  refine ⟨?_, h⟩
  cases hr : Region.ready .any ops listed with
  | nil => rfl
  | cons x xs =>
   have hx : x ∈ Region.ready .any ops listed := by rw [hr]; simp
   obtain ⟨h1, o, h2, _⟩ := mem_ready.1 hx
   have hxl : x < ops.size := (Array.getElem?_eq_some_iff.1 h2).1
   rw [hpre x hxl] at h1
   simp at h1 hlen; omega
 | o :: l, k, listed, st, hl, hsz, hpre, hlen, hcl, hB, h => by
  have h0 : ops[k]? = some o := by simpa using (hl 0).symm
  have hk : k < ops.size := (Array.getElem?_eq_some_iff.1 h0).1
  simp only [pairsOk, Bool.and_eq_true] at hB
  obtain ⟨⟨hB1, hB2⟩, hB3⟩ := hB
  have hedge : ∀ e ∈ edges o, e < k := fun e he => by simpa using List.all_eq_true.1 hB1 e he
  have hlf : ∀ j, j < ops.size → listed.getD j false = decide (j < k) := fun j hj => by
   have := hpre j hj
   simpa [hsz, hj] using this
  have hready : k ∈ Region.ready .any ops listed := by
   refine mem_ready.2 ⟨by rw [hpre k hk]; simp, o, h0, fun ed hed hb => ?_⟩
   have : ed.on ∈ edges o := by
    unfold edges
    exact List.mem_map.2 ⟨ed, List.mem_filter.2 ⟨by simpa using hed, hb⟩, rfl⟩
   have hlt := hedge _ this
   rw [hlf _ (by omega)]; simpa using hlt
  have hrec : ∀ st', awpOps E D (riD ops.toList) l st' K → anyA E D ops K l.length (listed.setIfInBounds k true) st' := fun st' hk' =>
   anyA_lex ht ha l (k + 1) _ st' (fun j => by have := hl (j + 1); simpa [Nat.add_assoc, Nat.add_comm 1 j] using this) (by simpa using hsz)
    (fun j hj => by
     by_cases hjk : k = j
     ·subst hjk; simp [hsz, hk]
     ·rw [getD_set_ne true hjk, hpre j hj]
      have : (j < k) ↔ (j < k + 1) := by omega
      simp [this])
    (by simp at hlen; omega) (closed_set hcl hready) hB3 hk'
  have hfree0 : ∀ j oj, ops[j]? = some oj → j ≠ k → listed.getD j true = false → k ∉ an.getD j [] → (commB tm D (riD ops.toList) o oj || (commV tm (riD ops.toList) o oj || commW tm (riD ops.toList) o oj)) = true := by
   intro j oj hoj hjk hun hno
   have hj : j < ops.size := (Array.getElem?_eq_some_iff.1 hoj).1
   rw [hpre j hj] at hun
   simp at hun
   have hd : j - (k + 1) < l.length := by simp at hlen; omega
   have := List.all_eq_true.1 hB2 (j - (k + 1)) (List.mem_range.2 hd)
   have hidx : k + 1 + (j - (k + 1)) = j := by omega
   rw [hidx] at this
   have hlq : l[j - (k + 1)]? = some oj := by
    have := hl (j - (k + 1) + 1)
    rw [show k + (j - (k + 1) + 1) = j by omega, hoj] at this
    simpa using this
   rw [hlq] at this
   have hno' : (an.getD j []).contains k = false := by
    simpa using hno
   rw [hno'] at this
   simpa using this
  have hstep := step_of_awpOps h0 h
  cases hap : (appOp tm o || bldOp tm o) with
  | true =>
   have hvt : vcT tm o = true := by
    rcases Bool.or_eq_true_iff.1 hap with h | h
    ·unfold appOp at h
     simp only [Bool.and_eq_true] at h
     exact h.1.1
    ·unfold bldOp at h
     simp only [Bool.and_eq_true] at h
     exact h.1.1
   have hfreeV : ∀ j oj, ops[j]? = some oj → j ≠ k → listed.getD j true = false → k ∉ an.getD j [] → (commV tm (riD ops.toList) o oj || commW tm (riD ops.toList) o oj) = true := fun j oj h1 h2 h3 h4 => by
    rcases Bool.or_eq_true_iff.1 (hfree0 j oj h1 h2 h3 h4) with h | h
    ·exfalso
     refine (comm_bar h).1 ?_
     unfold kindO
     rw [if_pos hvt]
    ·exact h
   have hs2 := (stepA_vc h0 hap ht.2 _ _).1 hstep
   split at hs2
   ·rename_i n f hvo
    exact anyA_firstV ht.2 ha h0 hap l.length listed st n f hcl hsz hfreeV hready hvo (fun c hc => hrec _ (hs2 c hc))
   ·exact hs2.elim
  | false =>
  simp only [Bool.or_eq_false_iff] at hap
  have hfree : ∀ j oj, ops[j]? = some oj → j ≠ k → listed.getD j true = false → k ∉ an.getD j [] → commB tm D (riD ops.toList) o oj = true := fun j oj h1 h2 h3 h4 => by
   rcases Bool.or_eq_true_iff.1 (hfree0 j oj h1 h2 h3 h4) with h | h
   ·exact h
   ·exfalso
    rcases Bool.or_eq_true_iff.1 h with h | h
    ·unfold commV at h
     simp [hap.1] at h
    ·unfold commW at h
     simp [hap.2] at h
  by_cases hbar : kindO tm D o = .bar
  ·refine ⟨fun hn => (by rw [hn] at hready; cases hready), fun j hj => ?_⟩
   have hjk : j = k := by
    apply Decidable.byContradiction
    intro hne
    obtain ⟨hjun, oj, hoj, _⟩ := mem_ready.1 hj
    have hin : ¬ k ∉ an.getD j [] := fun hno => (comm_bar (hfree j oj hoj hne hjun hno)).1 hbar
    have hin' : k ∈ an.getD j [] := Classical.not_not.1 hin
    have := ready_anc ha hcl hsz hj hoj k hin'
    rw [hlf k hk] at this
    simp at this
   subst hjk
   exact stepA_mono hstep hrec
  ·obtain ⟨v, e, h1, h2⟩ := did_of_step ht h0 hbar hstep
   exact anyA_first ht ha h0 l.length listed st hcl hsz hfree hready h1 (hrec _ h2)
theorem anyA_sound (hD : AllSound E D) (hY : YOk E B) (hlo : B.R0.length ≤ E.lo) {ops : Array Oper} {K : St → Prop} {ro : Option Nat} {n : Nat} {Q : Exit → Act → World → Prop}
  (hQ : ∀ st' F' R' a' w', K st' → Sim E B F' R' st' a' w' → Q .normal a' w') : ∀ (fuel : Nat) (listed : Array Bool) (st : St) (F : Fz) (R : List Nat) (a : Act) (w : World), Sim E B F R st a w →
  anyA E D ops K fuel listed st → wpAnyIn (fen ro) n E.P .any ops Q fuel listed a w
 | 0, listed, st, F, R, a, w, h, hk => ⟨hk.1, hQ _ _ _ _ _ hk.2 h⟩
 | fuel + 1, listed, st, F, R, a, w, h, hk => by
  refine ⟨fun hr => hQ _ _ _ _ _ (hk.1 hr) h, fun i hi => ?_⟩
  have hs := hk.2 i hi
  unfold stepA at hs
  unfold wpOpIn
  cases ho : ops[i]? with
  | none => simp only [ho] at hs ⊢; exact anyA_sound hD hY hlo hQ fuel _ _ F R a w h hs
  | some o =>
   simp only [ho] at hs ⊢
   have hw : ∀ b, gP (riD ops.toList) st o = some b → Region.wanted o (yielded ops a.tmps) = b := by
    intro b hb
    unfold gP at hb
    unfold Region.wanted
    cases hg : o.guard with
    | none => simp [hg] at hb; simp [hb]
    | some jw =>
     obtain ⟨j, want⟩ := jw
     simp only [hg] at hb ⊢
     have hgr := guard_rep h (ops := ops) (j := j) rfl
     split at hb
     ·rename_i b' hb'
      rw [hgr.1 b' hb']
      simp at hb
      first | (rw [← hb]; rfl) | (rw [hb]; rfl)
     ·rename_i hb'
      rw [hgr.2 hb']
      simp at hb
      first | (rw [← hb]; rfl) | (rw [hb]; rfl)
     ·simp at hb
   split at hs
   ·rename_i hg
    rw [if_pos (hw _ hg)]
    exact aop_sound hD hY hlo h hs (fun st' F' R' a' w' hk' h' => anyA_sound hD hY hlo hQ fuel _ st' F' R' a' w' h' hk')
   ·rename_i hg
    rw [hw _ hg]
    simp only [Bool.false_eq_true, if_false]
    exact ⟨fun _ _ => trivial, anyA_sound hD hY hlo hQ fuel _ _ F R _ w (h.skip _) hs⟩
   ·exact hs.elim
theorem Sim.draw (h : Sim E B F R st a w) : Sim E B F R st a { w with drawn := w.drawn + 1 } := ⟨h.mem.draw, h.tmps, h.defers, h.own.draw⟩
theorem draw_sound (hD : AllSound E D) (hY : YOk E B) (hlo : B.R0.length ≤ E.lo) (hm : E.P.follows .mixedOrders = true) {id : Nat} {ops : Array Oper} {K : St → Prop} {ro : Option Nat} {n : Nat} {Q : Exit → Act → World → Prop}
  (hQ : ∀ st' F' R' a' w', K st' → Sim E B F' R' st' a' w' → Q .normal a' w') (h : Sim E B F R st a w) (hok : DrawOk E D ops.toList) (hk : awpOps E D (riD ops.toList) ops.toList st K) : (Code.region id ops true).wpIn (fen ro) n E.P Q a w := by
 refine wpIn_region_any hm (anyA_sound hD hY hlo hQ ops.size _ st F R a _ h.draw ?_)
 obtain ⟨tm, ht, hok⟩ := hok.tm
 have := anyA_lex ht (E := E) (D := D) (ancOk ops) (K := K) ops.toList 0 (Array.replicate ops.size false) st (by simp) (by simp) (fun j hj => by simp [hj]) (by simp) (fun j o ho hj => by
  exfalso
  have hlt : j < ops.size := (Array.getElem?_eq_some_iff.1 ho).1
  simp [hlt] at hj) hok hk
 simpa using this
end
end Go.Ve
