/- weirlaw30.HistAdds: part of the proof (a value semantics for the model's code, and the functions told by it). -/
import Derived.Test.YtelhcaefmpnfkaaA13
set_option linter.unusedSimpArgs false
set_option linter.unusedVariables false
set_option linter.deprecated false
namespace Go.Ve
mutual
def PV.unslt : PV → PV
 | .slt k xs _ => .sl (if k = 0 then 1 else k) xs false
 | .agg cs => .agg (unsltL cs)
 | .tuple cs => .tuple (unsltL cs)
 | .iface t v => .iface t v.unslt
 | .val v => .val v
 | .sl k xs o => .sl k xs o
 | .ptr b o => .ptr b o
 | .vptr c o => .vptr c o
 | .rs k b o l c => .rs k b o l c
 | .func f a c => .func f a c
 | .junk => .junk
def unsltL : List PV → List PV
 | [] => []
 | p :: ps => p.unslt :: unsltL ps
end
mutual
theorem Rep.unslt {F : Fz} : ∀ {R : List Nat} {p : PV} {v : Value}, Rep F R p v → Rep F R p.unslt v
 | _, _, _, .val h => .val h
 | _, _, _, .sl us hk0 hl hc hk hF hR => .sl us hk0 hl hc hk hF hR
 | _, _, _, .slnil => .slnil
 | _, _, _, .ptr h => .ptr h
 | _, _, _, .vptr us hF hR => .vptr us hF hR
 | _, _, _, .rs h hc => .rs h hc
 | _, _, _, .slt (k := k) (xs := xs) (ys := ys) us hk0 hl hc hk hF hR => by
  simp only [PV.unslt]
  rw [if_neg (Nat.ne_of_gt hk0)]
  have hx : ∀ x ∈ xs, x.cells.length = k := fun x hx => hk x (List.mem_append_left _ hx)
  refine .sl (us.take (xs.length * k)) hk0 hl (Nat.le_trans (Nat.le_add_right _ _) hc) hx (fun j u hj => hF j u ?_) ?_
  ·rw [List.getElem?_take] at hj
   split at hj
   ·exact hj
   ·cases hj
  ·have := hR.take (xs.length * k)
   rw [List.flatMap_append, List.take_left' (flat_length _ hx)] at this
   exact this
 | _, _, _, .sltnil => by simp only [PV.unslt]; exact .slnil
 | _, _, _, .sltz hk => by
  simp only [PV.unslt]
  rw [if_pos hk]
  exact .sl [] Nat.one_pos rfl (Nat.le_refl _) (by simp) (fun j u hj => by simp at hj) .nil
 | _, _, _, .func h1 h2 => .func h1 h2
 | _, _, _, .iface h => .iface (Rep.unslt h)
 | _, _, _, .agg h1 h => .agg h1 (RepL.unslt h)
 | _, _, _, .tuple h => .tuple (RepL.unslt h)
 | _, _, _, .junk => .junk
theorem RepL.unslt {F : Fz} : ∀ {R : List Nat} {p : List PV} {v : List Value}, RepL F R p v → RepL F R (unsltL p) v
 | _, _, _, .nil => .nil
 | _, _, _, .cons h t => .cons (Rep.unslt h) (RepL.unslt t)
end
mutual
theorem occ_unslt : ∀ (p : PV) (v : Value), occ p.unslt v = occ p v
 | .slt k xs ys, v => by cases v <;> simp [PV.unslt, occ]
 | .agg cs, v => by cases v <;> simp [PV.unslt, occ, occL_unslt cs]
 | .tuple cs, v => by cases v <;> simp [PV.unslt, occ, occL_unslt cs]
 | .iface t p, v => by cases v <;> simp [PV.unslt, occ, occ_unslt p]
 | .val u, v => rfl
 | .sl _ _ _, v => rfl
 | .ptr _ _, v => rfl
 | .vptr _ _, v => rfl
 | .rs _ _ _ _ _, v => rfl
 | .func _ _ _, v => rfl
 | .junk, v => rfl
theorem occL_unslt : ∀ (ps : List PV) (vs : List Value), occL (unsltL ps) vs = occL ps vs
 | [], vs => rfl
 | p :: ps, [] => by simp [unsltL, occL]
 | p :: ps, v :: vs => by simp [unsltL, occL, occ_unslt p, occL_unslt ps]
end
theorem Sound.unslt {P : Program} {G : Nat → Option (List PV)} {g : FuncId} {F : List PV → Option (List Prop × PV)} (h : Sound P G g (conT (CB.fn F).toCon)) : Sound P G g (conT (CB.fn fun a => F (unsltL a)).toCon) :=
 ⟨h.1, fun Pr F0 R blks w args vs K hR hm hr ho hown hk => h.2 Pr F0 R blks w (unsltL args) vs K hR hm hr.unslt (by rw [occL_unslt]; exact ho) hown hk⟩
section
variable {P : Program} {G : Nat → Option (List PV)} {D : FuncId → Option CB}
theorem fn_frzV (V : List PV → List Tmp) (hD : AllB ⟨P, G, none, none, 0, []⟩ D) (hmx : P.follows .mixedOrders = true) (s : Bool) {g : FuncId} {fn : Func} {c : Code} (hf : P.funcs[g]? = some fn) (hn : fn.name ≠ "runtime.NumGoroutine") (hb : fn.body = some c)
  (F : List PV → Option (List Prop × PV)) (h : ∀ args ps r, F args = some (ps, r) → All ps → norefL args = true ∧ awpBFn ⟨P, G, none, none, 0, V args⟩ D s fn c args [] (fun r' B => frz B 4 r' = r ∧ r.noref = true)) : Sound P G g (conT (CB.fn F).toCon) := by
 have hs : Sound P G g (fun args B K => awpFn ⟨P, G, none, none, 0, V args⟩ (conD D) fn c args B K) := by
  refine ⟨⟨fn, hf, hn, by simp [hb]⟩, fun Pr F0 R blks w args vs K hR hm hr ho hown hk => ?_⟩
  have := soundR_of_awp (E := ⟨P, G, none, none, 0, V args⟩) (R1 := []) (hD.con.env rfl rfl) hmx (fun y hy => by cases hy) hf hn hb
  exact (this.2 Pr F0 R blks w args vs K hR (hm.env rfl) hr ho hown hk).mono fun e w' ⟨r, u, b', F', R', h1, h2, h3, h4, h5⟩ => ⟨r, u, b', F', R', h1, h2, h3, h4.env rfl, h5⟩
 refine hs.pureF _ ?_
 rintro args r ⟨ps, h1, h2⟩
 obtain ⟨h3, h4⟩ := h args ps r h1 h2
 exact ⟨h3, awpBFn_sound h4⟩
end
def SoundX (P : Program) (G : Nat → Option (List PV)) (g : FuncId) (T : PT) : Prop :=
 (∃ fn, P.funcs[g]? = some fn ∧ fn.name ≠ "runtime.NumGoroutine" ∧ fn.body.isSome = true) ∧
 ∀ (Pr : Nat → Prop) (F : Fz) (S : List Nat) (blks : List Blk) (w : World) (args : List PV) (vs : Array Value) (K : PV → List Blk → Prop),
  Mem ⟨P, G, none, none, 0, []⟩ ⟨Pr, w, F, [], [], S⟩ F S blks w → RepL F S args vs.toList → occL args vs.toList = [] → Owned Pr F S w (occB w S blks) → T args blks K →
  Calls P g vs w (fun e w' => ∃ r u blks' F' R', e = .returned u ∧ K r blks' ∧ Rep F' R' r u ∧ Mem ⟨P, G, none, none, 0, []⟩ ⟨Pr, w, F, [], [], S⟩ F' R' blks' w' ∧ Owned Pr F' R' w' (occ r u ++ occB w' R' blks'))
def awpFnX (E : Env) (D : FuncId → Option Con) (fn : Func) (c : Code) : PT := fun args blks K => awp { E with lo := 0, ro := none } D c ⟨args ++ List.replicate (fn.ntmps - args.length) .junk, blks⟩ (retK { E with lo := 0, ro := none } fn K)
theorem soundX_of_awp {E : Env} {D : FuncId → Option Con} (hD : AllSound E D) (hmx : E.P.follows .mixedOrders = true) (hY : E.Y = none) {g : FuncId} {fn : Func} {c : Code} (hf : E.P.funcs[g]? = some fn) (hn : fn.name ≠ "runtime.NumGoroutine") (hb : fn.body = some c) :
  SoundX E.P E.G g (awpFnX E D fn c) := by
 refine ⟨⟨fn, hf, hn, by simp [hb]⟩, ?_⟩
 intro Pr F R blks w args vs K hm hr ho hown hk
 suffices hcl : Calls E.P g vs w (fun e w' => ∃ r u blks' F' R', e = .returned u ∧ K r blks' ∧ Rep F' R' r u ∧ Mem E ⟨Pr, w, F, [], [], R⟩ F' R' blks' w' ∧ Owned Pr F' R' w' (occ r u ++ occB w' R' blks')) from
  hcl.mono fun e w' ⟨r, u, blks', F', R', h1, h2, h3, h4, h5⟩ => ⟨r, u, blks', F', R', h1, h2, h3, h4.env rfl, h5⟩
 rw [← callsIn_wide (n := 0)]
 refine callsIn_of_wp_marks hf hb trivial ?_ rfl
 have hlen : vs.size = args.length := by simpa using hr.length
 have hjunk : ∀ n, RepL F R (List.replicate n .junk) (List.replicate n undef) ∧ occL (List.replicate n .junk) (List.replicate n undef) = [] := by
  intro n
  induction n with
  | zero => exact ⟨.nil, rfl⟩
  | succ n ih => simp only [List.replicate_succ]; exact ⟨.cons .junk ih.1, by simp [occL, ih.2, occ]⟩
 have hsim : Sim E ⟨Pr, w, F, [], [], R⟩ F R ⟨args ++ List.replicate (fn.ntmps - args.length) .junk, blks⟩ { tmps := vs ++ Array.replicate (fn.ntmps - vs.size) undef, defers := [] } w := by
  refine ⟨hm.env rfl, ?_, rfl, ?_⟩
  ·simp only [Array.toList_append, Array.toList_replicate, hlen]
   exact RepL.append (hjunk _).1 hr
  ·simp only [Array.toList_append, Array.toList_replicate, hlen]
   rw [occL_append _ _ _ _ (by simpa using hlen), ho, (hjunk _).2]
   simpa using hown
 have := awp_sound c { E with lo := 0, ro := none } (hD.env rfl rfl) hmx ⟨Pr, w, F, [], [], R⟩ (fun y hy => by rw [show ({ E with lo := 0, ro := none } : Env).Y = E.Y from rfl, hY] at hy; cases hy) (Nat.le_refl 0) none rfl 0 (retK { E with lo := 0, ro := none } fn K) _ _ F R _ w (Ext.refl _) (hsim.env rfl) hk
 refine wpIn_mono (show c.wpIn Fence.wide 0 E.P _ _ w from this) ?_
 rintro e a' w' ⟨B', st', F', R', ⟨ms, rfl⟩, ⟨he, hk'⟩, h'⟩
 split at hk'
 ·rename_i us hus
  have := leaves_marks (E := E) (fn := fn) (K := K) rfl ((retVals_env (E := E) (E' := { E with lo := 0, ro := none }) rfl _ _).trans hus) hk' (ms ++ []) _ a' w' rfl (h'.env rfl)
  have hd := h'.defers
  simp only at hd
  rw [← hd] at this
  have key := this
  cases e with
  | normal => exact key
  | ret => exact key
  | _ => exact he.elim
 ·exact hk'.elim
theorem SoundX.weaken {P : Program} {G : Nat → Option (List PV)} {g : FuncId} {T T' : PT} (h : SoundX P G g T) (hT : ∀ args blks K, T' args blks K → T args blks K) : SoundX P G g T' :=
 ⟨h.1, fun Pr F S blks w args vs K hm hr ho hown hk => h.2 Pr F S blks w args vs K hm hr ho hown (hT _ _ _ hk)⟩
mutual
def PV.refs : PV → List Nat
 | .ptr b _ => [b]
 | .rs _ b _ _ _ => [b]
 | .agg cs => refsL cs
 | .tuple cs => refsL cs
 | .iface _ v => v.refs
 | .func _ a c => refsL a ++ refsL c
 | .val _ => []
 | .sl _ _ _ => []
 | .slt _ _ _ => []
 | .vptr _ _ => []
 | .junk => []
def refsL : List PV → List Nat
 | [] => []
 | p :: ps => p.refs ++ refsL ps
end
mutual
def PV.ren (S : List Nat) : PV → PV
 | .ptr b o => .ptr (S.idxOf b) o
 | .rs k b o l c => .rs k (S.idxOf b) o l c
 | .agg cs => .agg (renL S cs)
 | .tuple cs => .tuple (renL S cs)
 | .iface t v => .iface t (v.ren S)
 | .func f a c => .func f (renL S a) (renL S c)
 | .val v => .val v
 | .sl k xs o => .sl k xs o
 | .slt k xs ys => .slt k xs ys
 | .vptr c o => .vptr c o
 | .junk => .junk
def renL (S : List Nat) : List PV → List PV
 | [] => []
 | p :: ps => p.ren S :: renL S ps
end
def pick (R S : List Nat) : List Nat := S.map fun s => R.getD s 0
theorem pick_get {R S : List Nat} {b c : Nat} (hb : b ∈ S) (hc : R[b]? = some c) : (pick R S)[S.idxOf b]? = some c := by
 have hlt : S.idxOf b < S.length := List.idxOf_lt_length_iff.2 hb
 unfold pick
 rw [List.getElem?_map, List.getElem?_eq_getElem hlt]
 simp [List.getElem_idxOf, List.getD, hc]
mutual
theorem Rep.ren {F : Fz} {S : List Nat} : ∀ {R : List Nat} {p : PV} {v : Value}, (∀ b ∈ p.refs, b ∈ S) → Rep F R p v → Rep F (pick R S) (p.ren S) v
 | _, _, _, _, .val h => .val h
 | _, _, _, _, .sl us hk0 hl hc hk hF hR => .sl us hk0 hl hc hk hF hR
 | _, _, _, _, .slnil => .slnil
 | _, _, _, hs, .ptr h => .ptr (pick_get (hs _ (by simp [PV.refs])) h)
 | _, _, _, _, .vptr us hF hR => .vptr us hF hR
 | _, _, _, hs, .rs h hc => .rs (pick_get (hs _ (by simp [PV.refs])) h) hc
 | _, _, _, _, .slt us hk0 hl hc hk hF hR => .slt us hk0 hl hc hk hF hR
 | _, _, _, _, .sltnil => .sltnil
 | _, _, _, _, .sltz hk => .sltz hk
 | _, _, _, hs, .func h1 h2 => .func (RepL.ren (fun b hb => hs b (by simp [PV.refs, hb])) h1) (RepL.ren (fun b hb => hs b (by simp [PV.refs, hb])) h2)
 | _, _, _, hs, .iface h => .iface (Rep.ren (fun b hb => hs b (by simpa [PV.refs] using hb)) h)
 | _, _, _, hs, .agg h1 h => .agg h1 (RepL.ren (fun b hb => hs b (by simpa [PV.refs] using hb)) h)
 | _, _, _, hs, .tuple h => .tuple (RepL.ren (fun b hb => hs b (by simpa [PV.refs] using hb)) h)
 | _, _, _, _, .junk => .junk
theorem RepL.ren {F : Fz} {S : List Nat} : ∀ {R : List Nat} {p : List PV} {v : List Value}, (∀ b ∈ refsL p, b ∈ S) → RepL F R p v → RepL F (pick R S) (renL S p) v
 | _, _, _, _, .nil => .nil
 | _, _, _, hs, .cons h t => .cons (Rep.ren (fun b hb => hs b (by simp [refsL, hb])) h) (RepL.ren (fun b hb => hs b (by simp [refsL, hb])) t)
end
mutual
theorem occ_ren {S : List Nat} : ∀ (p : PV) (v : Value), occ (p.ren S) v = occ p v
 | .slt k xs ys, v => rfl
 | .agg cs, v => by cases v <;> simp [PV.ren, occ, occL_ren cs]
 | .tuple cs, v => by cases v <;> simp [PV.ren, occ, occL_ren cs]
 | .iface t p, v => by cases v <;> simp [PV.ren, occ, occ_ren p]
 | .val u, v => rfl
 | .sl _ _ _, v => rfl
 | .ptr _ _, v => by cases v <;> simp [PV.ren, occ]
 | .vptr _ _, v => rfl
 | .rs _ _ _ _ _, v => by cases v <;> simp [PV.ren, occ]
 | .func _ a c, v => by cases v <;> simp [PV.ren, occ, occL_ren a, occL_ren c]
 | .junk, v => rfl
theorem occL_ren {S : List Nat} : ∀ (ps : List PV) (vs : List Value), occL (renL S ps) vs = occL ps vs
 | [], vs => rfl
 | p :: ps, [] => by simp [renL, occL]
 | p :: ps, v :: vs => by simp [renL, occL, occ_ren p, occL_ren ps]
end
def valJ : PV → Bool
 | .val _ => true
 | .junk => true
 | _ => false
theorem valJ_any {F F' : Fz} {R R' : List Nat} : ∀ {l : List PV} {us : List Value}, l.all valJ = true → RepL F R l us → RepL F' R' l us
 | [], _, _, h => by cases h; exact .nil
 | p :: ps, _, h, .cons h1 t => by
  simp only [List.all_cons, Bool.and_eq_true] at h
  have a := valJ_any (F' := F') (R' := R') h.2 t
  cases p with
  | val v =>
   cases h1 with
   | val hv => exact .cons (.val hv) a
  | junk => exact .cons .junk a
  | _ => simp [valJ] at h
theorem valJ_occ : ∀ {l : List PV} {us : List Value}, l.all valJ = true → occL l us = []
 | [], us, _ => by simp [occL]
 | p :: ps, [], _ => by simp [occL]
 | p :: ps, u :: us, h => by
  simp only [List.all_cons, Bool.and_eq_true] at h
  cases p with
  | val v => simp [occL, occ, valJ_occ h.2]
  | junk => simp [occL, occ, valJ_occ h.2]
  | _ => simp [valJ] at h
def givable : Option Blk → Bool
 | some (.live cs) => cs.all valJ
 | _ => false
def eatB : List Blk → List Nat → List Blk
 | M, [] => M
 | M, s :: S => eatB (M.set s (.frz [])) S
theorem eatB_length : ∀ (S : List Nat) (M : List Blk), (eatB M S).length = M.length
 | [], M => rfl
 | s :: S, M => by simp [eatB, eatB_length S]
theorem eatB_get : ∀ (S : List Nat) (M : List Blk) (i : Nat) (b : Blk), (eatB M S)[i]? = some b → (i ∈ S ∧ b = .frz []) ∨ (i ∉ S ∧ M[i]? = some b)
 | [], M, i, b, h => .inr ⟨by simp, h⟩
 | s :: S, M, i, b, h => by
  rcases eatB_get S _ i b h with ⟨h1, h2⟩ | ⟨h1, h2⟩
  ·exact .inl ⟨by simp [h1], h2⟩
  ·by_cases e : s = i
   ·subst e
    rw [List.getElem?_set] at h2
    simp at h2
    exact .inl ⟨by simp, h2.2.symm⟩
   ·rw [List.getElem?_set_ne e] at h2
    exact .inr ⟨by simp [h1, Ne.symm e], h2⟩
def eatT (T : PT) : PT := fun args M K => (refsL args).Nodup ∧ ((refsL args).all fun s => givable M[s]?) = true ∧
 T (renL (refsL args) args) ((refsL args).map fun s => M.getD s (.frz [])) (fun r _ => r.scalar = true ∧ K r (eatB M (refsL args)))
theorem eatT_mono {T : PT} (hT : ∀ args B K K', (∀ r b, K r b → K' r b) → T args B K → T args B K') : ∀ args B K K', (∀ r b, K r b → K' r b) → eatT T args B K → eatT T args B K' := fun _ _ _ _ h ⟨h1, h2, h3⟩ => ⟨h1, h2, hT _ _ _ _ (fun r b ⟨k1, k2⟩ => ⟨k1, h _ _ k2⟩) h3⟩
theorem occB_eat {w w' : World} : ∀ (R : List Nat) (M N : List Blk), R.length = M.length → N.length = M.length → (∀ (i : Nat) c b, R[i]? = some c → N[i]? = some b → b = .frz [] ∨ (M[i]? = some b ∧ w'.heap[c]? = w.heap[c]?)) → Sub (occB w' R N) (occB w R M)
 | [], [], [], _, _, _ => Sub.refl _
 | [], _ :: _, _, h, _, _ => by simp at h
 | _ :: _, [], _, h, _, _ => by simp at h
 | [], [], _ :: _, _, h, _ => by simp at h
 | _ :: _, _ :: _, [], _, h, _ => by simp at h
 | c :: R, m :: M, n :: N, hl, hl', h => by
  have ih := occB_eat (w := w) (w' := w') R M N (by simpa using hl) (by simpa using hl') (fun i c b h1 h2 => by simpa using h (i + 1) c b (by simpa using h1) (by simpa using h2))
  have hsm : Sub (occB w R M) (occB w (c :: R) (m :: M)) := by
   cases m <;> simp only [occB]
   ·refine ⟨fun x => by simp only [cnt_append]; omega, fun q hq => List.mem_append_right _ hq⟩
   ·exact Sub.refl _
   ·exact Sub.refl _
  rcases h 0 c n rfl rfl with rfl | ⟨h1, h2⟩
  ·simp only [occB]; exact Sub.trans ih hsm
  ·simp at h1; subst h1
   cases m <;> simp only [occB]
   ·exact Sub.append (by simp only [cellsW, h2]; exact Sub.refl _) ih
   ·exact ih
   ·exact ih
theorem SoundX.eat {P : Program} {G : Nat → Option (List PV)} {g : FuncId} {T : PT} (h : SoundX P G g T) : Sound P G g (eatT T) := by
 refine ⟨h.1, ?_⟩
 intro Pr F R blks w args vs K hR1 hm hr ho hown ⟨hnd, hgv, hT⟩
 generalize hS : refsL args = S at *
 have hlive : ∀ s ∈ S, ∃ cs c, blks[s]? = some (.live cs) ∧ R[s]? = some c ∧ cs.all valJ = true := fun s hs => by
  have h1 := List.all_eq_true.1 hgv s hs
  cases hb : blks[s]? with
  | none => rw [hb] at h1; cases h1
  | some b =>
   rw [hb] at h1
   cases b with
   | live cs =>
    have hlt := (List.getElem?_eq_some_iff.1 hb).1
    exact ⟨cs, R[s]'(by rw [hm.len]; exact hlt), rfl, List.getElem?_eq_getElem _, h1⟩
   | frz cs => cases h1
   | loop => cases h1
 have hpick : ∀ c, c ∈ pick R S → ∃ s ∈ S, R[s]? = some c := fun c hc => by
  obtain ⟨s, hs, rfl⟩ := List.mem_map.1 hc
  obtain ⟨cs, c, h1, h2, h3⟩ := hlive s hs
  exact ⟨s, hs, by simp [List.getD, h2]⟩
 have hpget : ∀ (i : Nat) c, (pick R S)[i]? = some c → ∃ s cs, S[i]? = some s ∧ R[s]? = some c ∧ blks[s]? = some (.live cs) ∧ cs.all valJ = true := fun i c hc => by
  unfold pick at hc
  rw [List.getElem?_map, Option.map_eq_some_iff] at hc
  obtain ⟨s, hs, rfl⟩ := hc
  obtain ⟨cs, c, h1, h2, h3⟩ := hlive s (List.mem_of_getElem? hs)
  exact ⟨s, cs, hs, by simp [List.getD, h2], h1, h3⟩
 have hRinj : ∀ (i j : Nat) c, R[i]? = some c → R[j]? = some c → i = j := fun i j c hi hj => by
  obtain ⟨h1, h2⟩ := List.getElem?_eq_some_iff.1 hi
  obtain ⟨h3, h4⟩ := List.getElem?_eq_some_iff.1 hj
  exact (List.getElem_inj hm.nd).1 (h2.trans h4.symm)
 have hblk : ∀ (i : Nat) c b, (pick R S)[i]? = some c → (S.map fun s => blks.getD s (.frz []))[i]? = some b → ∃ cs, b = .live cs ∧ cs.all valJ = true ∧ BlkOk Pr F R w c (.live cs) := fun i c b hc hb => by
  obtain ⟨s, cs, h1, h2, h3, h4⟩ := hpget i c hc
  rw [List.getElem?_map, h1] at hb
  simp [List.getD, h3] at hb
  subst hb
  exact ⟨cs, rfl, h4, hm.blk s c _ h2 h3⟩
 have hnotPr : ∀ c ∈ pick R S, ¬ Pr c := fun c hc => by
  obtain ⟨i, hi, rfl⟩ := List.getElem_of_mem hc
  have hlt : i < S.length := by simpa [pick] using hi
  obtain ⟨cs, _, _, hok⟩ := hblk i _ (blks.getD S[i] (.frz [])) (List.getElem?_eq_getElem hi) (by rw [List.getElem?_map, List.getElem?_eq_getElem hlt]; rfl)
  exact hok.1
 have hm2 : Mem ⟨P, G, none, none, 0, []⟩ ⟨fun b => b < w.heap.size ∧ b ∉ pick R S, w, F, [], [], pick R S⟩ F (pick R S) (S.map fun s => blks.getD s (.frz [])) w :=
  {
   os := rfl, tape := rfl, output := rfl, drn := Nat.le_refl _, size := Nat.le_refl _, pr := fun b hb => ⟨hb.1, rfl⟩, mks := fun c hc => by simp at hc, mnd := List.nodup_nil, fz := hm.fz, fnew := fun _ _ _ h => .inl h, fold := Fz.le_refl F, rnew := fun c hc => .inl hc, rold := Rle.nil _
   bound := fun c hc => by
    obtain ⟨s, _, h1⟩ := hpick c hc
    exact hm.bound c (List.mem_of_getElem? h1)
   glob := hm.glob, len := by simp [pick]
   nd := by
    unfold pick
    refine List.pairwise_map.2 (hnd.imp_of_mem fun {a b} ha hb hne e => hne ?_)
    obtain ⟨_, c, _, h2, _⟩ := hlive a ha
    obtain ⟨_, d, _, h4, _⟩ := hlive b hb
    simp [List.getD, h2, h4] at e
    exact hRinj a b c h2 (e ▸ h4)
   blk := fun i c b hc hb => by
    obtain ⟨cs, rfl, hv, k1, k2, ws, T0, k3, k4, k5⟩ := hblk i c b hc hb
    exact ⟨fun hp => hp.2 (List.mem_of_getElem? hc), k2, ws, T0, k3, valJ_any hv k4, k5⟩ }
 have hocc : occB w (pick R S) (S.map fun s => blks.getD s (.frz [])) = [] := by
  have key : ∀ (S : List Nat) (bl : List Blk), (∀ (i : Nat) c b, S[i]? = some c → bl[i]? = some b → ∃ cs, b = .live cs ∧ occL cs (cellsW w c) = []) → occB w S bl = [] := by
   intro S
   induction S with
   | nil => intro bl _; simp [occB]
   | cons c S ih =>
    intro bl hb
    cases bl with
    | nil => simp [occB]
    | cons b bl =>
     obtain ⟨cs, rfl, h2⟩ := hb 0 c b rfl rfl
     simp [occB, h2, ih bl (fun i c b h1 h2 => hb (i + 1) c b (by simpa using h1) (by simpa using h2))]
  refine key _ _ fun i c b hc hb => ?_
  obtain ⟨cs, rfl, hv, _⟩ := hblk i c b hc hb
  exact ⟨cs, rfl, valJ_occ hv⟩
 have hcall := h.2 _ F (pick R S) _ w (renL S args) vs _ hm2 (hr.ren (fun b hb => by rw [← hS]; exact hb)) (by rw [occL_ren]; exact ho) ⟨fun c => by rw [hocc]; exact Nat.zero_le _, fun q hq => by rw [hocc] at hq; simp at hq⟩ hT
 refine hcall.mono ?_
 rintro e w' ⟨r, u, blks', F0, R', rfl, ⟨hsc, hK⟩, hru, hm0, ho'⟩
 obtain ⟨s1, s2⟩ := scalar_rep (F' := F0) (R' := R) hsc hru
 have hsame : ∀ {b}, b < w.heap.size → b ∉ pick R S → w'.heap[b]? = w.heap[b]? := fun hb hn => (hm0.pr _ ⟨hb, hn⟩).2
 have hnone : ∀ {b}, b < w.heap.size → b ∉ pick R S → ∀ o, F b o = none → F0 b o = none := fun {b} hb hp o hn => by
  cases hv : F0 b o with
  | none => rfl
  | some v =>
   rcases hm0.fnew _ _ _ hv with h1 | h1
   ·simp only at h1; rw [hn] at h1; cases h1
   ·exact absurd ⟨hb, hp⟩ h1
 have hout : ∀ (i : Nat) c, R[i]? = some c → i ∉ S → c ∉ pick R S := fun i c hi hS' hin => by
  obtain ⟨s, hs, h2⟩ := hpick c hin
  exact hS' (by rw [hRinj i s c hi h2]; exact hs)
 have hmem : Mem ⟨P, G, none, none, 0, []⟩ ⟨Pr, w, F, R, [], R⟩ F0 R (eatB blks S) w' :=
  {
   os := hm0.os, tape := hm0.tape, output := hm0.output, drn := hm0.drn, size := hm0.size
   pr := fun b hb => ⟨(hm.pr b hb).1, hsame (hm.pr b hb).1 (fun hin => hnotPr b hin hb)⟩
   fz := hm0.fz
   fnew := fun b o v hv => by
    rcases hm0.fnew b o v hv with h1 | h1
    ·exact .inl h1
    ·refine .inr fun hp => h1 ⟨(hm.pr b hp).1, fun hin => hnotPr b hin hp⟩
   fold := hm0.fold
   rnew := fun c hc => .inl hc
   rold := Rle.refl R
   bound := fun c hc => Nat.lt_of_lt_of_le (hm.bound c hc) hm0.size
   glob := hm0.glob
   len := by rw [eatB_length]; exact hm.len
   nd := hm.nd
   mks := fun c hc => by simp at hc
   mnd := List.nodup_nil
   blk := fun i c b hc hb => by
    rcases eatB_get S blks i b hb with ⟨_, rfl⟩ | ⟨hi, hb⟩
    ·exact ⟨[], .nil, fun j u hj => by simp at hj⟩
    ·have hlt := hm.bound c (List.mem_of_getElem? hc)
     have hn := hout i c hc hi
     exact (hm.blk i c b hc hb).mono hm0.fold (Rle.refl R) (hnone hlt hn) (hsame hlt hn) }
 refine ⟨r, u, _, F0, R, rfl, hK, s1, hmem, ?_⟩
 rw [s2, List.nil_append]
 have hsub : Sub (occB w' R (eatB blks S)) (occB w R blks) := occB_eat R blks _ hm.len (eatB_length _ _) fun i c b hc hb => by
  rcases eatB_get S blks i b hb with ⟨_, rfl⟩ | ⟨hi, hb⟩
  ·exact .inl rfl
  ·exact .inr ⟨hb, hsame (hm.bound c (List.mem_of_getElem? hc)) (hout i c hc hi)⟩
 refine ⟨fun c => Nat.le_trans (hsub.1 c) (hown.1 c), fun q hq => ?_⟩
 have hok := hown.2 q (hsub.2 q hq)
 have hn : q.b ∉ pick R S := fun hin => by
  obtain ⟨s, _, h2⟩ := hpick _ hin
  exact hok.2.1 (List.mem_of_getElem? h2)
 exact hok.mono (fun h => h) (hnone hok.lt hn) (hsame hok.lt hn)
theorem repL_vals {F : Fz} {R : List Nat} : ∀ {us vs : List Value}, RepL F R (us.map PV.val) vs → vs = us
 | [], _, h => by cases h; rfl
 | u :: us, _, h => by
  cases h with
  | cons h t =>
   cases h
   rw [repL_vals t]
theorem Sound.vals {P : Program} {G : Nat → Option (List PV)} {g : FuncId} (hfn : ∃ fn, P.funcs[g]? = some fn ∧ fn.name ≠ "runtime.NumGoroutine" ∧ fn.body.isSome = true) (F : List PV → Option (List Prop × PV))
  (h : ∀ args ps r, F args = some (ps, r) → All ps → ∃ (us : List Value) (u : Value), args = us.map PV.val ∧ r = .val u ∧ u.oneCell' = true ∧ ∀ w, Calls P g us.toArray w (fun e w' => e = .returned u ∧ w' = w)) : Sound P G g (conT (CB.fn F).toCon) := by
 refine ⟨hfn, ?_⟩
 intro Pr F0 R blks w args vs K hR1 hm hr ho hown ⟨r, ⟨ps, hq, hp⟩, hk⟩
 obtain ⟨us, u, rfl, rfl, h1, hc⟩ := h args ps r hq hp
 have hvs : vs = us.toArray := by
  have := repL_vals hr
  rw [← this]
 subst hvs
 refine (hc w).mono ?_
 rintro e w' ⟨rfl, rfl⟩
 exact ⟨.val u, u, blks, F0, R, rfl, hk, .val h1, hm, by rw [occ_free _ _ rfl]; exact hown⟩
end Go.Ve
