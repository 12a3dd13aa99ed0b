/- weirlaw30.HistTexts: part of the proof (a value semantics for the model's code, and the functions told by it). -/
import Derived.Test.YtdfajmeabnmhjaaGreatDoorA2
import Derived.RangeFuncSeq
set_option linter.unusedSimpArgs false
set_option linter.unusedVariables false
set_option linter.deprecated false
namespace Go.Ve
def conT : Con → PT
 | .pure R => fun args B K => ∃ r, R args r ∧ K r B
 | .read R => fun args B K => ∃ r, R args B r ∧ K r B
 | .gen T _ => T
 | .iter _ => fun _ _ _ => False
theorem conT_mono (c : Con) {args : List PV} {B : List Blk} {K K' : PV → List Blk → Prop} (hk : ∀ r b, K r b → K' r b) (h : conT c args B K) : conT c args B K' := by
 cases c with
 | pure R => obtain ⟨r, h1, h2⟩ := h; exact ⟨r, h1, hk _ _ h2⟩
 | read R => obtain ⟨r, h1, h2⟩ := h; exact ⟨r, h1, hk _ _ h2⟩
 | gen T hm => exact hm _ _ _ _ hk h
 | iter T => exact h.elim
def conY (Y : Option Yd) (c : Con) : PT := match c, Y with
 | .iter T, some y => up (T y)
 | c, _ => conT c
theorem conY_mono (Y : Option Yd) (c : Con) {args : List PV} {B : List Blk} {K K' : PV → List Blk → Prop} (hk : ∀ r b, K r b → K' r b) (h : conY Y c args B K) : conY Y c args B K' := by
 unfold conY at h ⊢
 split
 ·exact up_mono hk h
 ·rename_i hn
  split at h
  ·rename_i T y
   exact absurd rfl (hn _ _ rfl)
  ·exact conT_mono _ hk h
def PV.isRef : PV → Bool
 | .rs .. => true
 | .ptr .. => true
 | _ => false
mutual
def PV.scalar : PV → Bool
 | .val _ => true
 | .agg cs => scalarL cs
 | .tuple vs => scalarL vs
 | .iface _ v => v.scalar
 | _ => false
def scalarL : List PV → Bool
 | [] => true
 | x :: xs => x.scalar && scalarL xs
end
def brwS (k off len : Nat) (p : PV) (B : Option Blk) : PV := match B with
 | some (.live cs) => if 0 < k ∧ off + len * k ≤ cs.length ∧ ((cs.drop off).take (len * k)).all plainCell = true then .sl k (chunks k (stripL ((cs.drop off).take (len * k))) len) false else p
 | _ => p
def brwP (off : Nat) (p : PV) (B : Option Blk) : PV := match B with
 | some (.live cs) => if cs.all plainCell = true then .vptr (stripL cs) off else p
 | _ => p
def brw (M : List Blk) (p : PV) : PV := match p with
 | .rs k b off len _ => brwS k off len p M[b]?
 | .ptr b off => brwP off p M[b]?
 | p => p
theorem brw_of {M : List Blk} {p : PV} (h : p.isRef = false) : brw M p = p := by cases p <;> simp [PV.isRef] at h <;> rfl
theorem brwL_of {M : List Blk} : ∀ {l : List PV}, l.any PV.isRef = false → l.map (brw M) = l
 | [], _ => rfl
 | x :: xs, h => by simp at h; simp [brw_of h.1, brwL_of (M := M) (l := xs) (by simpa using h.2)]
mutual
theorem scalar_rep {F F' : Fz} {R R' : List Nat} : ∀ {p : PV} {v : Value}, p.scalar = true → Rep F R p v → Rep F' R' p v ∧ occ p v = []
 | .val _, _, _, .val h => ⟨.val h, occ_free _ _ rfl⟩
 | .agg cs, _, hs, .agg (vs := vs) h1 h => by
  obtain ⟨a, b⟩ := scalarL_rep (F' := F') (R' := R') (show scalarL cs = true from hs) h
  exact ⟨.agg h1 a, b⟩
 | .tuple cs, _, hs, .tuple (vs := vs) h => by
  obtain ⟨a, b⟩ := scalarL_rep (F' := F') (R' := R') (show scalarL cs = true from hs) h
  exact ⟨.tuple a, b⟩
 | .iface t p, _, hs, .iface h => by
  obtain ⟨a, b⟩ := scalar_rep (F' := F') (R' := R') (show p.scalar = true from hs) h
  exact ⟨.iface a, b⟩
theorem scalarL_rep {F F' : Fz} {R R' : List Nat} : ∀ {l : List PV} {vs : List Value}, scalarL l = true → RepL F R l vs → RepL F' R' l vs ∧ occL l vs = []
 | [], _, _, .nil => ⟨.nil, rfl⟩
 | x :: xs, _, hs, .cons h t => by
  simp [scalarL] at hs
  obtain ⟨a, b⟩ := scalar_rep (F' := F') (R' := R') hs.1 h
  obtain ⟨c, d⟩ := scalarL_rep (F' := F') (R' := R') hs.2 t
  exact ⟨.cons a c, by simp [occL, b, d]⟩
end
def Fz.all (w : World) : Fz := fun b o => match w.cell? ⟨b, o, none⟩ with
 | some v => if v.oneCell' then some v else none
 | none => none
structure Decl where
 D : FuncId → Option Con
def callee (E : Env) (st : St) (f : Operand) (args : Array Operand) : Option (FuncId × List PV) :=
 match aev E st f with
 | .func (.func g) first cap => some (g, first.map PV.strip ++ args.toList.map (fun x => (aev E st x).strip) ++ cap.map PV.strip)
 | _ => none
def yop (E : Env) (st : St) (f : Operand) (args : Array Operand) (K : PV → List Blk → Prop) : Prop :=
 match aev E st f, E.Y with
 | .func (.yield l) [] [], some y => l = y.l ∧ up y.T (args.toList.map fun x => (aev E st x).strip) st.blks K
 | _, _ => False
def PQ (d : Bool) (M : List Blk) (R : List PV → PV → Prop) (vs : List PV) (r : PV) : Prop := R (vs.map (brw (Ve.seen d M []))) r ∧ (vs.any PV.isRef = false ∨ (norefL (vs.map (brw (Ve.seen d M []))) = true ∧ r.scalar = true))
def aop (E : Env) (D : FuncId → Option Con) (ops : RI) (o : Oper) (st : St) (K : St → Prop) : Prop :=
 match o.op with
 | .call { callee := .value f, args, .. } => match callee E st f args with
  | some (g, vs) => match D g with
   | some (.pure R) => ∃ r, PQ ops.dr st.blks R vs r ∧ K (st.put o.dst r)
   | some c => conY E.Y c vs st.blks (fun r blks' => K (({ st with blks := blks' } : St).put o.dst r))
   | none => False
  | none => yop E st f args (fun r blks' => K (({ st with blks := blks' } : St).put o.dst r))
 | _ => match vcOn E ops o.dst o.op with
  | true => match vop E o st with
   | some (n, f) => ∀ c, n ≤ c → K (f c)
   | none => False
  | false => match outf E ops st o with
   | some (v, e) => K (app o v e st)
   | none => False
def guardP (ops : RI) (st : St) (j : Nat) : PV := match ops.ds[j]? with
 | some (some d) => st.tmps.getD d .junk
 | _ => .junk
def awpOps (E : Env) (D : FuncId → Option Con) (ops : RI) : List Oper → St → (St → Prop) → Prop
 | [], st, K => K st
 | o :: rest, st, K => match o.guard with
  | none => aop E D ops o st (fun st' => awpOps E D ops rest st' K)
  | some (j, want) => match guardP ops st j with
   | .val (.bool b) => (b = want → aop E D ops o st (fun st' => awpOps E D ops rest st' K)) ∧ (b = !want → awpOps E D ops rest (st.put o.dst (.tuple [])) K)
   | .tuple [] => awpOps E D ops rest (st.put o.dst (.tuple [])) K
   | _ => False
def SoundD (dk : Bool) (P : Program) (G : Nat → Option (List PV)) (R1 : List Nat) (g : FuncId) (T : PT) : Prop :=
 (∃ fn, P.funcs[g]? = some fn ∧ fn.name ≠ "runtime.NumGoroutine" ∧ fn.body.isSome = true) ∧
 ∀ (Pr : Nat → Prop) (F : Fz) (R : List Nat) (blks : List Blk) (w : World) (args : List PV) (vs : Array Value) (K : PV → List Blk → Prop), Rle R1 R →
  Mem ⟨P, G, none, none, 0, [], dk⟩ ⟨Pr, w, F, R, [], R⟩ F R blks w → RepL F R args vs.toList → occL args vs.toList = [] → Owned Pr F R w (occB w R blks) → T args blks K →
  Calls P g vs w (fun e w' => ∃ r u blks' F' R', e = .returned u ∧ K r blks' ∧ Rep F' R' r u ∧ Mem ⟨P, G, none, none, 0, [], dk⟩ ⟨Pr, w, F, R, [], R⟩ F' R' blks' w' ∧ Owned Pr F' R' w' (occ r u ++ occB w' R' blks'))
def SoundR (P : Program) (G : Nat → Option (List PV)) (R1 : List Nat) (g : FuncId) (T : PT) : Prop := SoundD false P G R1 g T
def fen (ro : Option Nat) : Fence := { Fence.wide with round := ro }
def YieldSound (E : Env) (y : Yd) : Prop :=
 ∀ (ro : Option Nat) (n : Nat) (Pr : Nat → Prop) (F : Fz) (R : List Nat) (blks : List Blk) (w : World) (args : List PV) (vs : Array Value) (K : PV → List Blk → Prop), Rle y.R0 R →
  Mem E ⟨Pr, w, F, R, [], R⟩ F R blks w → RepL F R args vs.toList → occL args vs.toList = [] → Owned Pr F R w (occB w R blks) → y.T args blks K →
  YieldAt (fen ro) n E.P y.l vs w (fun e w' => ∃ r u blks' F' R', e = .returned u ∧ K r blks' ∧ Rep F' R' r u ∧ Mem E ⟨Pr, w, F, R, [], R⟩ F' R' blks' w' ∧ Owned Pr F' R' w' (occ r u ++ occB w' R' blks'))
def Sound (P : Program) (G : Nat → Option (List PV)) (g : FuncId) (T : PT) : Prop := SoundR P G [] g T
theorem SoundD.up {dk : Bool} {P : Program} {G : Nat → Option (List PV)} {R1 : List Nat} {g : FuncId} {T : PT} (h : SoundD dk P G R1 g T) : SoundD dk P G R1 g (up T) :=
 ⟨h.1, fun Pr F R blks w args vs K hR hm hr ho hown ⟨K0, hk, hle⟩ => (h.2 Pr F R blks w args vs K0 hR hm hr ho hown hk).mono fun e w' ⟨r, u, blks', F', R', h1, h2, h3⟩ => ⟨r, u, blks', F', R', h1, hle _ _ h2, h3⟩⟩
def ConOk (E : Env) (g : FuncId) : Con → Prop
 | .iter T => (∃ fn, E.P.funcs[g]? = some fn ∧ fn.name ≠ "runtime.NumGoroutine" ∧ fn.body.isSome = true) ∧ ∀ y, YieldSound E y → SoundD E.dk E.P E.G y.R0 g (T y)
 | c => SoundD E.dk E.P E.G [] g (conT c)
def AllSound (E : Env) (D : FuncId → Option Con) : Prop := ∀ g c, D g = some c → ConOk E g c
def YOk (E : Env) (B : Base) : Prop := ∀ y, E.Y = some y → YieldSound E y ∧ Rle y.R0 B.R0
section
variable {E : Env} {D : FuncId → Option Con} {B : Base} {F : Fz} {R : List Nat} {st : St} {a : Act} {w : World}
theorem cnt_pos {c : Nat} {l : List Occ} {q : Occ} (h : q ∈ l) (hc : q.b = c) : 0 < cnt c l := List.countP_pos_iff.2 ⟨q, h, by simpa using hc⟩
theorem cnt_zero {c : Nat} {l : List Occ} (h : ∀ q ∈ l, q.b ≠ c) : cnt c l = 0 := List.countP_eq_zero.2 fun q hq => by simpa using h q hq
def prOf (B : Base) (l : List Occ) : Nat → Prop := fun b => B.Pr b ∨ (∃ q ∈ l, q.b = b) ∨ b ∈ B.mrk
theorem Mem.enter (h : Mem E B F R st.blks w) {l : List Occ} (ho : Owned B.Pr F R w (l ++ occB w R st.blks)) : Mem E ⟨prOf B l, w, F, R, [], R⟩ F R st.blks w := {
 os := rfl
 tape := rfl
 output := rfl
 drn := fun _ => Nat.le_refl _
 size := Nat.le_refl _
 pr := fun b hb => ⟨by
  rcases hb with hb | ⟨q, hq, rfl⟩ | hb
  ·exact Nat.lt_of_lt_of_le (h.pr b hb).1 h.size
  ·exact (ho.2 q (List.mem_append_left _ hq)).lt
  ·exact (Array.getElem?_eq_some_iff.1 (h.mks b hb).1).1, rfl⟩
 fz := h.fz
 fnew := fun _ _ _ h => .inl h
 fold := Fz.le_refl F
 rnew := fun _ h => .inl h
 rold := Rle.refl R
 bound := h.bound
 glob := h.glob.rebase (fun g hg => .inl hg) (fun g hg => (h.pr g hg).2)
 len := h.len
 nd := h.nd
 blk := fun i c b hc hb => by
  have hok := h.blk i c b hc hb
  cases b with
  | live cs =>
   obtain ⟨h1, h2⟩ := hok
   exact ⟨fun hp => by
    rcases hp with hp | ⟨q, hq, rfl⟩ | hp
    ·exact h1 hp
    ·exact (ho.2 q (List.mem_append_left _ hq)).2.1 (List.mem_of_getElem? hc)
    ·exact (h.mks c hp).2.1 (List.mem_of_getElem? hc), h2⟩
  | frz cs => exact hok
  | loop =>
   obtain ⟨h1, h2⟩ := hok
   exact ⟨fun hp => by
    rcases hp with hp | ⟨q, hq, rfl⟩ | hp
    ·exact h1 hp
    ·exact (ho.2 q (List.mem_append_left _ hq)).2.1 (List.mem_of_getElem? hc)
    ·exact (h.mks c hp).2.1 (List.mem_of_getElem? hc), h2⟩
  | bld =>
   obtain ⟨h1, h2⟩ := hok
   exact ⟨fun hp => by
    rcases hp with hp | ⟨q, hq, rfl⟩ | hp
    ·exact h1 hp
    ·exact (ho.2 q (List.mem_append_left _ hq)).2.1 (List.mem_of_getElem? hc)
    ·exact (h.mks c hp).2.1 (List.mem_of_getElem? hc), h2⟩
 mks := fun c hc => by simp at hc
 mnd := List.nodup_nil }
theorem Owned.enter {Pr : Nat → Prop} {blks : List Blk} {l m : List Occ} (hm : Mem E B F R blks w) (ho : Owned B.Pr F R w (l ++ m)) : Owned (prOf B l) F R w m := by
 refine ⟨fun c => by have := ho.1 c; simp at this; omega, fun q hq => ?_⟩
 obtain ⟨h1, h2⟩ := ho.2 q (List.mem_append_right _ hq)
 refine ⟨fun hp => ?_, h2⟩
 rcases hp with hp | ⟨q', hq', he⟩ | hp
 ·exact h1 hp
 ·have a := ho.1 q.b
  have b := cnt_pos hq rfl
  have c := cnt_pos hq' he
  simp at a; omega
 ·obtain ⟨_, _, _, vs, T, h5, _⟩ := h2
  rw [(hm.mks q.b hp).1] at h5
  simp at h5
theorem Mem.leave {l : List Occ} {F' : Fz} {R' : List Nat} {blks' : List Blk} {w' : World} (h : Mem E B F R st.blks w) (h' : Mem E ⟨prOf B l, w, F, R, [], R⟩ F' R' blks' w') : Mem E B F' R' blks' w' := {
 os := h'.os.trans h.os
 tape := h'.tape.trans h.tape
 output := h'.output.trans h.output
 drn := fun q => Nat.le_trans (h.drn q) (h'.drn q)
 size := Nat.le_trans h.size h'.size
 pr := fun b hb => ⟨(h.pr b hb).1, (h'.pr b (.inl hb)).2.trans (h.pr b hb).2⟩
 fz := h'.fz
 fnew := fun b o v hv => by
  rcases h'.fnew b o v hv with h1 | h1
  ·exact h.fnew b o v h1
  ·exact .inr fun hp => h1 (.inl hp)
 fold := Fz.le_trans h.fold h'.fold
 rnew := fun c hc => by
  rcases h'.rnew c hc with h1 | h1
  ·exact h.rnew c h1
  ·exact .inr (Nat.le_trans h.size h1)
 rold := h.rold.trans h'.rold
 bound := h'.bound
 glob := h.glob.mono h'.fold
 len := h'.len
 nd := h'.nd
 blk := fun i c b hc hb => by
  have hok := h'.blk i c b hc hb
  cases b with
  | live cs => exact ⟨fun hp => hok.1 (.inl hp), hok.2⟩
  | frz cs => exact hok
  | loop => exact ⟨fun hp => hok.1 (.inl hp), hok.2⟩
  | bld => exact ⟨fun hp => hok.1 (.inl hp), hok.2⟩
 mks := fun c hc => by
  obtain ⟨h1, h2, h3⟩ := h.mks c hc
  have hlt := (Array.getElem?_eq_some_iff.1 h1).1
  refine ⟨(h'.pr c (.inr (.inr hc))).2.trans h1, fun hin => ?_, h3⟩
  rcases h'.rnew c hin with h4 | h4
  ·exact h2 h4
  ·simp at h4; omega
 mnd := h.mnd }
theorem Owned.leave {l m : List Occ} {F' : Fz} {R' : List Nat} {blks' : List Blk} {w' : World} (h : Mem E B F R st.blks w) (h' : Mem E ⟨prOf B l, w, F, R, [], R⟩ F' R' blks' w') (ho : Owned B.Pr F R w (l ++ occB w R st.blks))
  (ho' : Owned (prOf B l) F' R' w' m) : Owned B.Pr F' R' w' (l ++ m) := by
 have hm : ∀ q ∈ m, ¬ prOf B l q.b := fun q hq => (ho'.2 q hq).1
 refine ⟨fun c => ?_, fun q hq => ?_⟩
 ·simp only [cnt_append]
  by_cases hc : ∃ q ∈ l, q.b = c
  ·have e : cnt c m = 0 := cnt_zero fun q hq e => hm q hq (.inr (.inl (by obtain ⟨q', h1, h2⟩ := hc; exact ⟨q', h1, h2.trans e.symm⟩)))
   have := ho.1 c
   simp at this; omega
  ·have e : cnt c l = 0 := cnt_zero fun q hq e => hc ⟨q, hq, e⟩
   have := ho'.1 c; omega
 ·rcases List.mem_append.1 hq with hq | hq
  ·have hok := ho.2 q (List.mem_append_left _ hq)
   have hp : prOf B l q.b := .inr (.inl ⟨q, hq, rfl⟩)
   refine hok.mono (fun hin => ?_) (fun o hn => ?_) (h'.pr q.b hp).2
   ·rcases h'.rnew q.b hin with h1 | h1
    ·exact h1
    ·have := hok.lt; simp at h1; omega
   ·cases hv : F' q.b o with
    | none => rfl
    | some v =>
     rcases h'.fnew _ _ _ hv with h1 | h1
     ·simp at h1; rw [hn] at h1; simp at h1
     ·exact absurd hp h1
  ·obtain ⟨h1, h2⟩ := ho'.2 q hq
   exact ⟨fun hp => h1 (.inl hp), h2⟩
theorem semAt_of (o : Oper) (ro : Option Nat) (ρ : Operand → Value) (h : ∀ c, o.op ≠ .defer c) : o.semAt (fen ro).round ρ = execOp ρ o := Oper.semAt_eq ro ρ o h
theorem yop_mono {f : Operand} {args : Array Operand} {K K' : PV → List Blk → Prop} (hk : ∀ r b, K r b → K' r b) (h : yop E st f args K) : yop E st f args K' := by
 unfold yop at h ⊢
 split at h
 ·exact ⟨h.1, up_mono hk h.2⟩
 ·exact h.elim
theorem Mem.env {E E' : Env} {B : Base} {F : Fz} {R : List Nat} {blks : List Blk} {w : World} (h : Mem E B F R blks w) (hG : E'.G = E.G) (hd : E'.dk = E.dk := by rfl) : Mem E' B F R blks w :=
 { os := h.os, tape := h.tape, output := h.output, drn := fun q => h.drn (hd ▸ q), size := h.size, pr := h.pr, fz := h.fz, fnew := h.fnew, fold := h.fold, rnew := h.rnew, rold := h.rold, bound := h.bound, glob := hG ▸ h.glob, len := h.len, nd := h.nd, blk := h.blk, mks := h.mks, mnd := h.mnd }
theorem Sim.behind (h : Sim E B F R st a w) {d : Option Tmp} {r : PV} {u : Value} {blks' : List Blk} {F' : Fz} {R' : List Nat} {w' : World} (hr : Rep F' R' r u) (hm' : Mem E ⟨prOf B (occL st.tmps a.tmps.toList), w, F, R, [], R⟩ F' R' blks' w')
  (ho' : Owned (prOf B (occL st.tmps a.tmps.toList)) F' R' w' (occ r u ++ occB w' R' blks')) : Sim E B F' R' (({ st with blks := blks' } : St).put d r) (a.put d u) w' := by
 have hm := Mem.leave h.mem hm'
 have hown := Owned.leave h.mem hm' h.own ho'
 have hF : F.le F' := hm'.fold
 have hR : Rle R R' := hm'.rold
 refine h.fillOwn (s := none) hm hF hR hr ?_
 refine hown.sub ?_
 simp only [stripAt]
 refine ⟨fun c => by simp; omega, fun q hq => ?_⟩
 simp only [List.mem_append] at hq ⊢
 rcases hq with (hq | hq) | hq
 ·exact .inr (.inl hq)
 ·exact .inl hq
 ·exact .inr (.inr hq)
theorem yop_sound (hY : YOk E B) (h : Sim E B F R st a w) {o : Oper} {f : Operand} {args : Array Operand} {ts : Array TypeId} (ho : o.op = .call { callee := .value f, args := args, argTypes := ts }) {K : PV → List Blk → Prop} {ro : Option Nat} {n : Nat} (ha : yop E st f args K)
  {R1 : Ending → World → Prop} (hnext : ∀ r u blks' F' R' w', K r blks' → Rep F' R' r u → Mem E ⟨prOf B (occL st.tmps a.tmps.toList), w, F, R, [], R⟩ F' R' blks' w' → Owned (prOf B (occL st.tmps a.tmps.toList)) F' R' w' (occ r u ++ occB w' R' blks') → R1 (.returned u) w') :
  ∃ l vs, (execOp a.eval o).run E.P w = (Instr.yield l vs).run E.P w ∧ YieldAt (fen ro) n E.P l vs w R1 := by
 have hf := h.eval f
 unfold yop at ha
 split at ha
 ·rename_i l y he hy
  obtain ⟨rfl, K0, ha, hle⟩ := ha
  obtain ⟨hys, hB⟩ := hY y hy
  rw [he] at hf
  generalize hv : a.eval f = v at *
  cases hf with
  | func h1 h2 =>
   rename_i A C
   have hA : A = #[] := by cases h1' : A with | mk l => (rw [h1'] at h1; cases h1; rfl)
   have hC : C = #[] := by cases h1' : C with | mk l => (rw [h1'] at h2; cases h2; rfl)
   subst hA; subst hC
   have hr : RepL F R (args.toList.map fun x => (aev E st x).strip) (args.map a.eval).toList := by
    have := (repL_map h args.toList).strip
    rw [stripL_eq, List.map_map] at this
    rw [Array.toList_map]; exact this
   refine ⟨y.l, args.map a.eval, ?_, ?_⟩
   ·unfold execOp
    simp [ho, resolve, Deferred.ofValue, hv, invoke]
   ·have hocc : occL (args.toList.map fun x => (aev E st x).strip) (args.map a.eval).toList = [] := by
     rw [show (args.toList.map fun x => (aev E st x).strip) = stripL (args.toList.map (aev E st)) by simp [stripL_eq, List.map_map]]
     exact occL_strip _ _
    have hya := hys ro n _ F R st.blks w _ _ _ (hB.trans h.mem.rold) (h.mem.enter h.own) hr hocc (Owned.enter (Pr := B.Pr) h.mem h.own) ha
    obtain ⟨fn, tm, as_, bd, y1, y2⟩ := hya
    refine ⟨fn, tm, as_, bd, y1, y2.mono ?_⟩
    rintro e w' ⟨r, u, blks', F', R', rfl, hK, hr', hm', ho'⟩
    exact hnext r u blks' F' R' w' (hle _ _ hK) hr' hm' ho'
 ·exact ha.elim
theorem callee_sound (h : Sim E B F R st a w) {o : Oper} {f : Operand} {args : Array Operand} {ts : Array TypeId} {g : FuncId} {ps : List PV} (ho : o.op = .call { callee := .value f, args := args, argTypes := ts })
  (hc : callee E st f args = some (g, ps)) (hg : ∃ fn, E.P.funcs[g]? = some fn ∧ fn.name ≠ "runtime.NumGoroutine" ∧ fn.body.isSome = true) :
  ∃ vs : Array Value, (execOp a.eval o).run E.P w = .ok (.enter g vs) w ∧ RepL F R ps vs.toList ∧ occL ps vs.toList = [] := by
 have hf := h.eval f
 unfold callee at hc
 split at hc
 ·rename_i g' first cap he
  simp only [Option.some.injEq, Prod.mk.injEq] at hc
  obtain ⟨rfl, rfl⟩ := hc
  rw [he] at hf
  generalize hv : a.eval f = v at *
  cases hf with
  | func h1 h2 =>
   rename_i A C
   obtain ⟨fn, k1, k2, k3⟩ := hg
   have hr : RepL F R (first.map PV.strip ++ args.toList.map (fun x => (aev E st x).strip) ++ cap.map PV.strip) (A ++ args.map a.eval ++ C).toList := by
    simp only [Array.toList_append]
    rw [← stripL_eq, ← stripL_eq]
    refine RepL.append h2.strip (RepL.append ?_ h1.strip)
    have := (repL_map h args.toList).strip
    rw [stripL_eq, List.map_map] at this
    rw [Array.toList_map]; exact this
   refine ⟨A ++ args.map a.eval ++ C, ?_, hr, ?_⟩
   ·unfold execOp
    simp only [ho]
    have kb : ¬ fn.body = none := by intro hb; simp [hb] at k3
    simp [resolve, Deferred.ofValue, hv, invoke, callFunc, k1, k2]
    exact fun hb => absurd hb kb
   ·rw [show first.map PV.strip ++ args.toList.map (fun x => (aev E st x).strip) ++ cap.map PV.strip = stripL (first ++ args.toList.map (aev E st) ++ cap) by simp [stripL_eq, List.map_map]]
    exact occL_strip _ _
 ·simp at hc
theorem brw_rep (hm : Mem E B F R st.blks w) {p : PV} {v : Value} (hr : Rep F R p v) (hn : (brw st.blks p).noref = true) : Rep (Fz.all w) [] (brw st.blks p) v := by
 have hle : F.le (Fz.all w) := fun b o v h => by
  obtain ⟨h1, h2⟩ := hm.fz b o v h
  simp [Fz.all, h1, h2]
 have old : brw st.blks p = p → Rep (Fz.all w) [] (brw st.blks p) v := fun e => by
  rw [e] at hn ⊢
  exact (hr.mono hle (Rle.refl R)).of_noref hn
 have cell : ∀ {b o : Nat} {u : Value}, w.cell? ⟨b, o, none⟩ = some u → u.oneCell' = true → Fz.all w b o = some u := fun h1 h2 => by simp [Fz.all, h1, h2]
 have plain : ∀ {cs : List PV}, cs.all plainCell = true → norefL (stripL cs) = true ∧ ∀ x ∈ stripL cs, x.cells = [x] := fun {cs} hpl => by
  have hpl := List.all_eq_true.1 hpl
  refine ⟨?_, fun x hx => ?_⟩
  ·rw [norefL_strip, norefL_eq]
   refine List.all_eq_true.2 fun x hx => ?_
   have h1 := hpl x hx
   simp only [plainCell, Bool.and_eq_true] at h1
   exact h1.1.1
  ·rw [stripL_eq] at hx
   obtain ⟨z, hz, rfl⟩ := List.mem_map.1 hx
   have h1 := hpl z hz
   simp only [plainCell, Bool.and_eq_true] at h1
   have h2 : z.strip.one = true := by rw [one_strip]; exact h1.1.2
   revert h2
   generalize z.strip = q
   cases q <;> simp [PV.one] <;> rfl
 cases p with
 | rs k b off len cap =>
  simp only [brw] at hn ⊢
  simp only [brw] at old
  unfold brwS at hn ⊢ old
  cases hb : st.blks[b]? with
  | none => simp only [hb] at old ⊢; exact old trivial
  | some bl =>
   cases bl with
   | live cs =>
    simp only [hb] at old ⊢
    split
    ·rename_i hc
     obtain ⟨c0, c1, c2⟩ := hc
     obtain ⟨c, vs, T, k1, rfl, k3, k4, k5, k6, k7, k8⟩ := rs_cells hm hr hb c1
     obtain ⟨p1, p2⟩ := plain c2
     have hlen : (stripL ((cs.drop off).take (len * k))).length = len * k := by rw [stripL_eq]; simp; omega
     obtain ⟨d1, d2⟩ := chunks_flat (Nat.ne_of_gt c0) len (stripL ((cs.drop off).take (len * k))) (by rw [hlen]; exact Nat.le_refl _) p2
     have e0 : (stripL ((cs.drop off).take (len * k))).take (len * k) = stripL ((cs.drop off).take (len * k)) := List.take_of_length_le (by rw [hlen]; exact Nat.le_refl _)
     rw [e0] at d1
     refine .sl ((vs.toList.drop off).take (len * k)) c0 (chunks_length len _).symm k3 d2 (fun j u hj => cell (k8 j u hj) (k7 u ?_)) ?_
     ·exact List.mem_of_mem_drop (List.mem_of_mem_take (List.mem_of_getElem? hj))
     ·rw [d1]; exact (k6.strip.mono hle (Rle.refl R)).of_noref p1
    ·rename_i hc
     rw [if_neg hc] at old
     exact old rfl
   | frz cs => simp only [hb] at old ⊢; exact old trivial
   | loop => simp only [hb] at old ⊢; exact old trivial
   | bld => simp only [hb] at old ⊢; exact old trivial
 | ptr b off =>
  simp only [brw] at hn ⊢
  simp only [brw] at old
  unfold brwP at hn ⊢ old
  cases hb : st.blks[b]? with
  | none => simp only [hb] at old ⊢; exact old trivial
  | some bl =>
   cases bl with
   | live cs =>
    simp only [hb] at old ⊢
    split
    ·rename_i hc
     obtain ⟨p1, p2⟩ := plain hc
     cases hr with
     | ptr hRb =>
      rename_i c
      obtain ⟨hnp, hF0, vs, T, hh, hrep, hone, hpl⟩ := hm.blk b c _ hRb hb
      have := Rep.vptr (F := Fz.all w) (R := []) (cs := stripL cs) (off := off) (b := c) (o := 0) (vs.toList.take cs.length) (fun j u hj => cell (by
       rw [List.getElem?_take] at hj
       split at hj
       ·simp [World.cell?, hh]; simpa using hj
       ·simp at hj) (hone u (List.mem_of_mem_take (List.mem_of_getElem? hj)))) ((hrep.strip.mono hle (Rle.refl R)).of_noref p1)
      simpa using this
    ·rename_i hc
     rw [if_neg hc] at old
     exact old rfl
   | frz cs => simp only [hb] at old ⊢; exact old trivial
   | loop => simp only [hb] at old ⊢; exact old trivial
   | bld => simp only [hb] at old ⊢; exact old trivial
 | _ => exact old rfl
theorem brwL_rep (hm : Mem E B F R st.blks w) : ∀ {l : List PV} {vs : List Value}, RepL F R l vs → norefL (l.map (brw st.blks)) = true → RepL (Fz.all w) [] (l.map (brw st.blks)) vs
 | [], _, .nil, _ => .nil
 | x :: xs, _, .cons h t, hn => by
  simp [norefL] at hn
  exact .cons (brw_rep hm h hn.1) (brwL_rep hm t hn.2)
theorem call_lent (hm : Mem E B F R st.blks w) {l : List Occ} (hown : Owned B.Pr F R w l) {g : FuncId} {Q : List PV → PV → Prop} (hs : SoundD E.dk E.P E.G [] g (conT (.pure Q))) {ps : List PV} {vs : Array Value} {r : PV} (hr : RepL F R ps vs.toList) (hn : norefL (ps.map (brw st.blks)) = true)
  (ho : occL (ps.map (brw st.blks)) vs.toList = []) (hq : Q (ps.map (brw st.blks)) r) (hsc : r.scalar = true) :
  Calls E.P g vs w (fun e w' => ∃ u, e = .returned u ∧ Rep F R r u ∧ occ r u = [] ∧ Mem E B F R st.blks w' ∧ Owned B.Pr F R w' l ∧ occB w' R st.blks = occB w R st.blks) := by
 have hlt : ∀ {b o v}, Fz.all w b o = some v → w.cell? ⟨b, o, none⟩ = some v ∧ v.oneCell' = true := fun {b o v} h => by
  unfold Fz.all at h
  split at h
  ·rename_i x hx
   split at h
   ·rename_i h1; injection h with h; subst h; exact ⟨hx, h1⟩
   ·cases h
  ·cases h
 have hle : F.le (Fz.all w) := fun b o v h => by
  obtain ⟨h1, h2⟩ := hm.fz b o v h
  simp [Fz.all, h1, h2]
 have hm2 : Mem ⟨E.P, E.G, none, none, 0, [], E.dk⟩ ⟨fun b => b < w.heap.size, w, Fz.all w, [], [], []⟩ (Fz.all w) [] [] w :=
  {
   os := rfl, tape := rfl, output := rfl, drn := fun _ => Nat.le_refl _, size := Nat.le_refl _, pr := fun b hb => ⟨hb, rfl⟩, mks := fun c hc => by simp at hc, mnd := List.nodup_nil, fz := fun b o v h => hlt h, fnew := fun _ _ _ h => .inl h, fold := Fz.le_refl _, rnew := fun c hc => by simp at hc, rold := Rle.refl _,
   bound := fun c hc => by simp at hc, glob := hm.globLt.mono hle, len := rfl, nd := List.nodup_nil, blk := fun i c b hc => by simp at hc }
 have hcall := hs.2 (fun b => b < w.heap.size) (Fz.all w) [] [] w _ vs (fun r' _ => r' = r) (Rle.refl _) hm2 (brwL_rep hm hr hn) ho ⟨fun c => by simp [occB], fun q hq => by simp [occB] at hq⟩ ⟨r, hq, rfl⟩
 refine hcall.mono ?_
 rintro e w' ⟨r', u, blks', F', R', rfl, rfl, hru, hm', ho'⟩
 obtain ⟨s1, s2⟩ := scalar_rep (F' := F) (R' := R) hsc hru
 have hsame : ∀ {b}, b < w.heap.size → w'.heap[b]? = w.heap[b]? := fun hb => (hm'.pr _ hb).2
 refine ⟨u, rfl, s1, s2, ?_, ⟨hown.1, fun q hq => (hown.2 q hq).mono (fun h => h) (fun _ h => h) (hsame (hown.2 q hq).lt)⟩, occB_congr R st.blks (fun c hc => hsame (hm.bound c hc))⟩
 exact {
     os := hm'.os.trans hm.os, tape := hm'.tape.trans hm.tape, output := hm'.output.trans hm.output, drn := fun q => Nat.le_trans (hm.drn q) (hm'.drn q), size := Nat.le_trans hm.size hm'.size
     pr := fun b hb => ⟨(hm.pr b hb).1, (hsame (Nat.lt_of_lt_of_le (hm.pr b hb).1 hm.size)).trans (hm.pr b hb).2⟩
     fz := fun b o v hv => ⟨by rw [cell_congr (hsame (hm.F_lt hv))]; exact (hm.fz b o v hv).1, (hm.fz b o v hv).2⟩
     fnew := hm.fnew, fold := hm.fold, rnew := hm.rnew, rold := hm.rold
     bound := fun c hc => Nat.lt_of_lt_of_le (hm.bound c hc) hm'.size
     glob := hm.glob, len := hm.len, nd := hm.nd
     blk := fun i c b hc hb => (hm.blk i c b hc hb).mono (Fz.le_refl F) (Rle.refl R) (fun _ h => h) (hsame (hm.bound c (List.mem_of_getElem? hc)))
     mks := fun c hc => ⟨by rw [hsame (Array.getElem?_eq_some_iff.1 (hm.mks c hc).1).1]; exact (hm.mks c hc).1, (hm.mks c hc).2⟩
     mnd := hm.mnd }
theorem occL_stripped : ∀ {l : List PV} (M : List Blk) (vs : List Value), (∀ x ∈ l, x.strip = x) → occL (l.map (brw M)) vs = []
 | [], _, _, _ => by simp [occL]
 | x :: xs, M, [], h => by simp [occL]
 | x :: xs, M, v :: vs, h => by
  have h1 := h x (by simp)
  have key : ∀ p : PV, p.strip = p → occ p v = [] := fun p hp => by rw [← hp]; exact occ_strip p v
  have h2 : occ (brw M x) v = [] := by
   unfold brw
   split
   ·unfold brwS; split
    ·split
     ·exact occ_free _ _ rfl
     ·exact key _ h1
    ·exact key _ h1
   ·unfold brwP; split
    ·split
     ·exact occ_free _ _ rfl
     ·exact key _ h1
    ·exact key _ h1
   ·exact key _ h1
  simp only [List.map_cons, occL, h2, List.nil_append]
  exact occL_stripped M vs (fun y hy => h y (List.mem_cons_of_mem _ hy))
mutual
theorem strip_strip : ∀ p : PV, p.strip.strip = p.strip
 | .sl _ _ _ => rfl
 | .iface t v => by simp [PV.strip, strip_strip v]
 | .agg cs => by simp [PV.strip, stripL_strip cs]
 | .tuple vs => by simp [PV.strip, stripL_strip vs]
 | .func _ a c => by simp [PV.strip, stripL_strip a, stripL_strip c]
 | .val _ => rfl
 | .ptr _ _ => rfl
 | .vptr _ _ => rfl
 | .rs _ _ _ _ _ => rfl
 | .slt _ _ _ => rfl
 | .junk => rfl
theorem stripL_strip : ∀ l : List PV, stripL (stripL l) = stripL l
 | [] => rfl
 | x :: xs => by simp [stripL, strip_strip x, stripL_strip xs]
end
theorem callee_strip {f : Operand} {args : Array Operand} {g : FuncId} {ps : List PV} (hc : callee E st f args = some (g, ps)) : ∀ x ∈ ps, x.strip = x := by
 unfold callee at hc
 split at hc
 ·simp only [Option.some.injEq, Prod.mk.injEq] at hc
  obtain ⟨_, rfl⟩ := hc
  intro x hx
  simp only [List.mem_append, List.mem_map] at hx
  rcases hx with (⟨y, _, rfl⟩ | ⟨y, _, rfl⟩) | ⟨y, _, rfl⟩ <;> exact strip_strip _
 ·simp at hc
theorem seen_brw {d : Bool} {M : List Blk} {l : List PV} (hn : norefL (l.map (brw (Ve.seen d M []))) = true) : l.map (brw (Ve.seen d M [])) = l.map (brw M) := by
 cases d with
 | false => rfl
 | true =>
  simp only [Ve.seen] at hn ⊢
  refine List.map_congr_left fun x hx => ?_
  rw [norefL_eq, List.all_eq_true] at hn
  have h1 := hn _ (List.mem_map_of_mem hx)
  cases x <;> first | rfl | (simp [brw, brwS, brwP, PV.noref] at h1)
theorem aop_sound (hD : AllSound E D) (hY : YOk E B) (hlo : B.R0.length ≤ E.lo) (h : Sim E B F R st a w) {ops : RI} {o : Oper} {K : St → Prop} {ro : Option Nat} {n : Nat} {next : Act → World → Prop} {Q : Exit → Act → World → Prop} (ha : aop E D ops o st K)
  (hnext : ∀ st' F' R' a' w', K st' → Sim E B F' R' st' a' w' → next a' w') : o.wpIn (fen ro) n E.P a w next Q := by
 refine ⟨fun _ _ => trivial, ?_⟩
 unfold aop at ha
 split at ha
 ·rename_i f args ts ho
  rw [semAt_of o ro a.eval (fun c hc => by rw [ho] at hc; cases hc)]
  split at ha
  ·rename_i g ps hc
   split at ha
   ·rename_i Q hDg
    obtain ⟨r, ⟨hq, hc2⟩, hK⟩ := ha
    have hs0 : SoundD E.dk E.P E.G [] g (conT (.pure Q)) := hD g _ hDg
    obtain ⟨vs, h1, h2, h3⟩ := callee_sound h ho hc hs0.1
    rw [h1]
    refine ⟨fun hd => by simp [fen, Fence.wide] at hd, ?_⟩
    rcases hc2 with hc2 | ⟨hn, hsc⟩
    ·rw [brwL_of hc2] at hq
     have hcall := hs0.2 _ F R st.blks w ps vs (fun r' b' => r' = r ∧ b' = st.blks) (Rle.nil R) ((h.mem.enter h.own).env rfl) h2 h3 (Owned.enter (Pr := B.Pr) h.mem h.own) ⟨r, hq, rfl, rfl⟩
     refine (show CallsIn (fen ro) (n - 1) E.P g vs w _ from (callsIn_wide (n := n - 1)).2 (hcall.mono ?_))
     rintro e w' ⟨r', u, blks', F', R', rfl, ⟨rfl, rfl⟩, hr, hm', ho'⟩
     refine hnext _ F' R' _ _ hK ?_
     exact h.behind hr (hm'.env rfl) ho'
    ·have he := seen_brw hn
     rw [he] at hq hn
     have hcall := call_lent h.mem h.own hs0 h2 hn (occL_stripped _ _ (callee_strip hc)) hq hsc
     refine (show CallsIn (fen ro) (n - 1) E.P g vs w _ from (callsIn_wide (n := n - 1)).2 (hcall.mono ?_))
     rintro e w' ⟨u, rfl, hr, hor, hm', hown', hocc⟩
     refine hnext _ F R _ _ hK ?_
     have hs1 : Sim E B F R st a w' := ⟨hm', h.tmps, h.defers, by rw [hocc]; exact hown'⟩
     exact hs1.fill (s := none) (blks' := st.blks) hm' (Fz.le_refl F) (Rle.refl R) hr hor (by simpa [stripAt] using hs1.own)
   ·rename_i c hne hDg
    have hs : ∃ R1, Rle R1 R ∧ SoundD E.dk E.P E.G R1 g (conY E.Y c) := by
     have h0 := hD g c hDg
     unfold conY at ha ⊢
     cases c with
     | iter T =>
      cases hy : E.Y with
      | none => rw [hy] at ha; exact ha.elim
      | some y => exact ⟨y.R0, (hY y hy).2.trans h.mem.rold, (h0.2 y (hY y hy).1).up⟩
     | _ => exact ⟨[], Rle.nil R, h0⟩
    obtain ⟨R1, hR1, hs⟩ := hs
    obtain ⟨vs, h1, h2, h3⟩ := callee_sound h ho hc hs.1
    rw [h1]
    refine ⟨fun hd => by simp [fen, Fence.wide] at hd, ?_⟩
    have hcall := hs.2 _ F R st.blks w ps vs _ hR1 ((h.mem.enter h.own).env rfl) h2 h3 (Owned.enter (Pr := B.Pr) h.mem h.own) ha
    refine (show CallsIn (fen ro) (n - 1) E.P g vs w _ from (callsIn_wide (n := n - 1)).2 (hcall.mono ?_))
    rintro e w' ⟨r, u, blks', F', R', rfl, hK, hr, hm', ho'⟩
    refine hnext _ F' R' _ _ hK ?_
    exact h.behind hr (hm'.env rfl) ho'
   ·exact ha.elim
  ·obtain ⟨l, vs, h1, h2⟩ := yop_sound (ro := ro) (n := n - 1) hY h ho ha (R1 := fun
    | .returned v, w'' => next (a.put o.dst v) w''
    | .panicked chain, w'' => Q (.panic chain) a w''
    | .outgrown, _ => LetsOut Q) (fun r u blks' F' R' w' hK hr hm' ho' => hnext _ F' R' _ _ hK (h.behind hr hm' ho'))
   obtain ⟨fn, tm, as_, bd, y1, y2⟩ := h2
   rw [h1, y1]
   exact ⟨fun hd => by simp [fen, Fence.wide] at hd, y2⟩
 ·rename_i hnc
  split at ha
  ·split at ha
   ·rename_i n' f hv
    obtain ⟨hdf, c, u, w', F', R', hc, hrun, hsim⟩ := vop_sound h hlo hv
    rw [semAt_of o ro a.eval (fun c hc => absurd hc (hdf c))]
    rcases hrun with hrun | ⟨hrun, rfl⟩
    ·rw [hrun]; exact hnext _ F' R' _ _ (ha c hc) hsim
    ·rw [hrun]; exact hnext _ F' R' _ _ (ha c hc) hsim
   ·exact ha.elim
  ·split at ha
   ·rename_i v e hv
    rw [semAt_of o ro a.eval (fun c hc => by
     unfold outf outfE at hv
     simp [hc, outfE, qvalE] at hv)]
    obtain ⟨u, w', F', R', hrun, hF, hR, hsim⟩ := outf_sound h hv
    rcases hrun with hrun | ⟨hrun, rfl⟩
    ·rw [hrun]; exact hnext _ F' R' _ _ ha hsim
    ·rw [hrun]; exact hnext _ F' R' _ _ ha hsim
   ·exact ha.elim
end
end Go.Ve
