/- weirlaw30.HistTexts: part of the proof (a value semantics for the model's code, and the functions told by it). -/
import Derived.Test.YtdfajmeabnmhjaaGreatDoorA5
import Derived.IntWalk
set_option linter.unusedSimpArgs false
set_option linter.unusedVariables false
set_option linter.deprecated false
namespace Go.Ve
def putL (T : List PV) : Option Tmp → PV → List PV
 | none, _ => T
 | some d, v => T.set d v
def getT (T : List PV) (t : Tmp) : PV := T.getD t .junk
theorem put_eq (T : List PV) (M : List Blk) (d : Option Tmp) (v : PV) : (⟨T, M⟩ : St).put d v = ⟨putL T d v, M⟩ := by cases d <;> rfl
section
variable (x : PV)
def nilP (x : PV) : Option PV := match x with
 | .ptr b off => some (.ptr b off)
 | .vptr cs off => some (.vptr cs off)
 | .func (.func f) a c => some (.func (.func f) a c)
 | .iface t v => some (.iface t v)
 | _ => none
def binP (P : Program) (op : BinOp) (u : TypeId) (x y : Operand) (a b : PV) : Option PV :=
 match (match a, b with | .val a, .val b => binV op a b | _, _ => none) with
  | some v => some (.val v)
  | none => match P.underlying u with
   | none => none
   | some d => if askable x y a b then match op with
     | .eql => (eqD d a b).map fun r => .val (.bool r)
     | .neq => (eqD d a b).map fun r => .val (.bool (!r))
     | _ => none
    else aggEq P op u a b
def unP (op : UnOp) (a : PV) : Option PV := match op, a with
  | .neg, .val (.int k n) => some (.val (.int k (k.wrap (0 - n))))
  | .not, .val (.bool b) => some (.val (.bool (!b)))
  | _, _ => none
end
theorem stripAt_some (T : List PV) (t : Tmp) : stripAt T (some t) = putL T (some t) (getT T t).strip := by
 unfold stripAt putL getT
 simp only
 cases h : T[t]? with
 | none =>
  simp only
  rw [List.set_eq_of_length_le (List.getElem?_eq_none_iff.1 h)]
 | some v => simp [List.getD, h]
def retT (P : Program) (T : List PV) (M : List Blk) : List ResultVar → Option (List PV)
 | [] => some []
 | .tmp t :: rs => match retT P T M rs with | some vs => some (getT T t :: vs.map PV.strip) | none => none
 | .cell a t :: rs => match loadP P M t (getT T a), retT P T M rs with | some v, some vs => some (v.strip :: vs.map PV.strip) | _, _ => none
theorem retT_eq (E : Env) (T : List PV) (M : List Blk) : ∀ rs, retVals E ⟨T, M⟩ rs = retT E.P T M rs
 | [] => rfl
 | .tmp t :: rs => by
  simp only [retVals, retOne, retT, retT_eq E T M rs, undefP]
  show (match some (getT T t), retT E.P T M rs with | some v, some vs => some (v :: vs.map PV.strip) | _, _ => none) = _
  cases retT E.P T M rs <;> rfl
 | .cell a t :: rs => by
  simp only [retVals, retOne, retT, retT_eq E T M rs, undefP]
  show (match (loadP E.P M t (getT T a)).map PV.strip, retT E.P T M rs with | some v, some vs => some (v :: vs.map PV.strip) | _, _ => none) = _
  cases loadP E.P M t (getT T a) <;> cases retT E.P T M rs <;> rfl
def kr (v : Option (List PV)) (M : List Blk) (K : PV → List Blk → Prop) : Prop := match v with
 | some vs => K (retV vs) M
 | none => False
theorem K_ret (E : Env) (fn : Func) (K : PV → List Blk → Prop) (T : List PV) (M : List Blk) : retK E fn K .ret ⟨T, M⟩ = kr (retT E.P T M fn.results.toList) M K := by
 unfold retK kr
 rw [retT_eq]
 cases retT E.P T M fn.results.toList <;> simp
theorem K_retn (E : Env) (fn : Func) (K : PV → List Blk → Prop) (T : List PV) (M : List Blk) : retK E fn K .normal ⟨T, M⟩ = kr (retT E.P T M fn.results.toList) M K := by
 unfold retK kr
 rw [retT_eq]
 cases retT E.P T M fn.results.toList <;> simp
theorem seqK_mono {f : St → (Exit → St → Prop) → Prop} (hf : ∀ st K K', (∀ e st, K e st → K' e st) → f st K → f st K') {K K' : Exit → St → Prop} (h : ∀ e st, K e st → K' e st) : ∀ e st, seqK f K e st → seqK f K' e st
 | .normal, _, hk => hf _ _ _ h hk
 | .exit _, _, hk => h _ _ hk
 | .goto _, _, hk => h _ _ hk
 | .ret, _, hk => h _ _ hk
 | .panic _, _, hk => h _ _ hk
 | .outgrown, _, hk => h _ _ hk
theorem awpOps_mono (E : Env) (D : FuncId → Option Con) (R : RI) : ∀ (l : List Oper) (st : St) (K K' : St → Prop), (∀ st, K st → K' st) → awpOps E D R l st K → awpOps E D R l st K'
 | [], st, K, K', h, hk => h _ hk
 | o :: l, st, K, K', h, hk => by
  unfold awpOps at hk ⊢
  cases hg : o.guard with
  | none => simp only [hg] at hk ⊢; exact aop_mono hk (fun st' => awpOps_mono E D R l st' K K' h)
  | some jw =>
   obtain ⟨j, want⟩ := jw
   simp only [hg] at hk ⊢
   split at hk
   ·exact ⟨fun hb => aop_mono (hk.1 hb) (fun st' => awpOps_mono E D R l st' K K' h), fun hb => awpOps_mono E D R l _ K K' h (hk.2 hb)⟩
   ·exact awpOps_mono E D R l _ K K' h hk
   ·exact hk.elim
theorem awp_mono (E : Env) (D : FuncId → Option Con) : ∀ (c : Code) (st : St) (K K' : Exit → St → Prop), (∀ e st, K e st → K' e st) → awp E D c st K → awp E D c st K'
 | .skip, st, K, K', h, hk => h _ _ hk
 | .label _, st, K, K', h, hk => h _ _ hk
 | .ret, st, K, K', h, hk => h _ _ hk
 | .exit _, st, K, K', h, hk => h _ _ hk
 | .goto _, _, _, _, _, hk => hk.elim
 | .scope _, _, _, _, _, hk => hk.elim
 | .refuse _, _, _, _, _, hk => hk.elim
 | .rangeFunc g ps as bd, st, K, K', h, hk => by
  unfold awp at hk ⊢
  split at hk
  ·split at hk
   ·refine ⟨hk.1, fun l R0 => up_mono ?_ (hk.2 l R0)⟩
    intro _ M' hr
    unfold rfK at hr ⊢
    split at hr
    ·refine ⟨hr.1, ?_⟩
     have h2 := hr.2
     split at h2
     ·exact h _ _ h2
     ·exact h _ _ h2
     ·exact h _ _ h2
     ·exact h2.elim
    ·exact hr.elim
   ·exact hk.elim
  ·exact hk.elim
 | .region _ ops true, st, K, K', h, hk => ⟨hk.1, awpOps_mono E D _ _ _ _ _ (fun st => h _ st) hk.2⟩
 | .region _ ops false, st, K, K', h, hk => awpOps_mono E D _ _ _ _ _ (fun st => h _ st) hk
 | .seq x y, st, K, K', h, hk => awp_mono E D x st _ _ (seqK_mono (fun st K K' => awp_mono E D y st K K') h) hk
 | .cond c x y, st, K, K', h, hk => by
  unfold awp at hk ⊢
  split at hk
  ·exact ⟨fun hb => awp_mono E D x st K K' h (hk.1 hb), fun hb => awp_mono E D y st K K' h (hk.2 hb)⟩
  ·exact hk.elim
 | .block id c, st, K, K', h, hk => awp_mono E D c st _ _ (fun e st' hk' => by
   cases e with
   | exit id' =>
    simp only [blockK] at hk' ⊢
    split
    ·rename_i he; rw [if_pos he] at hk'; exact h _ _ hk'
    ·rename_i he; rw [if_neg he] at hk'; exact h _ _ hk'
   | _ => exact h _ _ hk') hk
 | .loop c, st, K, K', h, hk => by
  obtain ⟨I, h0, hr⟩ := hk
  exact ⟨I, h0, fun m st' hI => awp_mono E D c st' _ _ (fun e st'' hk' => by
   cases e with
   | normal => exact hk'
   | _ => exact h _ _ hk') (hr m st' hI)⟩
def bt (s : ByteArray) (i : Int) : Int := (s.data.toList.getD i.toNat 0).toNat
theorem wrap_id {x : Int} (h0 : -9223372036854775808 ≤ x) (h1 : x ≤ 9223372036854775807) : IntKind.wrap .i64 x = x := IntWalk.i64_in x ⟨h0, h1⟩
section
variable (E : Env) (D : FuncId → Option Con) (R : RI) (d : Option Tmp) (t : TypeId) (p : String) (af : Array Edge) (l : List Oper) (T : List PV) (M : List Blk) (K : St → Prop)
def indexP (P : Program) (u : TypeId) (x ix : PV) : Option PV := match ix, x, P.underlying u with
  | .val (.int _ i), .val (.string s), some .string => match idx i s.size with
   | some j => some (.val (.int .u8 (s.data.toList.getD j 0).toNat))
   | none => none
  | .val (.int _ i), .agg cs, some (.array n e) => if sz P e = 0 then none else match idx i n with
   | some j => loadP P [] e (.vptr cs (j * sz P e))
   | none => none
  | _, _, _ => none
def lenP (P : Program) (args : List PV) (ts : List TypeId) : Option PV := match args, ts with
  | [x], [t] => match P.underlying t, x with
   | some .string, .val (.string s) => some (.val (.int .i64 s.size))
   | some (.array n _), _ => some (.val (.int .i64 n))
   | some (.slice _), .sl _ xs _ => some (.val (.int .i64 xs.length))
   | some (.slice _), .slt _ xs _ => some (.val (.int .i64 xs.length))
   | some (.slice _), .rs _ _ _ n _ => some (.val (.int .i64 n))
   | _, _ => none
  | _, _ => none
end
end Go.Ve
