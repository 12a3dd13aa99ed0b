/- weirlaw30.HistTexts: part of the proof (a value semantics for the model's code, and the functions told by it). -/
import Derived.Test.YtdfajmeabnmhjaaGreatDoorA13
set_option linter.unusedSimpArgs false
set_option linter.unusedVariables false
set_option linter.deprecated false
namespace Go.Ve
mutual
def PV.unslt : PV → PV
 | .slt k xs _ => .sl (if k = 0 then 1 else k) xs false
 | .agg cs => .agg (unsltL cs)
 | .tuple cs => .tuple (unsltL cs)
 | .iface t v => .iface t v.unslt
 | .val v => .val v
 | .sl k xs o => .sl k xs o
 | .ptr b o => .ptr b o
 | .vptr c o => .vptr c o
 | .rs k b o l c => .rs k b o l c
 | .func f a c => .func f a c
 | .junk => .junk
def unsltL : List PV → List PV
 | [] => []
 | p :: ps => p.unslt :: unsltL ps
end
mutual
theorem Rep.unslt {F : Fz} : ∀ {R : List Nat} {p : PV} {v : Value}, Rep F R p v → Rep F R p.unslt v
 | _, _, _, .val h => .val h
 | _, _, _, .sl us hk0 hl hc hk hF hR => .sl us hk0 hl hc hk hF hR
 | _, _, _, .slnil => .slnil
 | _, _, _, .ptr h => .ptr h
 | _, _, _, .vptr us hF hR => .vptr us hF hR
 | _, _, _, .rs h hc => .rs h hc
 | _, _, _, .slt (k := k) (xs := xs) (ys := ys) us hk0 hl hc hk hF hR => by
  simp only [PV.unslt]
  rw [if_neg (Nat.ne_of_gt hk0)]
  have hx : ∀ x ∈ xs, x.cells.length = k := fun x hx => hk x (List.mem_append_left _ hx)
  refine .sl (us.take (xs.length * k)) hk0 hl (Nat.le_trans (Nat.le_add_right _ _) hc) hx (fun j u hj => hF j u ?_) ?_
  ·rw [List.getElem?_take] at hj
   split at hj
   ·exact hj
   ·cases hj
  ·have := hR.take (xs.length * k)
   rw [List.flatMap_append, List.take_left' (flat_length _ hx)] at this
   exact this
 | _, _, _, .sltnil => by simp only [PV.unslt]; exact .slnil
 | _, _, _, .sltz hk => by
  simp only [PV.unslt]
  rw [if_pos hk]
  exact .sl [] Nat.one_pos rfl (Nat.le_refl _) (by simp) (fun j u hj => by simp at hj) .nil
 | _, _, _, .func h1 h2 => .func h1 h2
 | _, _, _, .iface h => .iface (Rep.unslt h)
 | _, _, _, .agg h1 h => .agg h1 (RepL.unslt h)
 | _, _, _, .tuple h => .tuple (RepL.unslt h)
 | _, _, _, .junk => .junk
theorem RepL.unslt {F : Fz} : ∀ {R : List Nat} {p : List PV} {v : List Value}, RepL F R p v → RepL F R (unsltL p) v
 | _, _, _, .nil => .nil
 | _, _, _, .cons h t => .cons (Rep.unslt h) (RepL.unslt t)
end
mutual
theorem occ_unslt : ∀ (p : PV) (v : Value), occ p.unslt v = occ p v
 | .slt k xs ys, v => by cases v <;> simp [PV.unslt, occ]
 | .agg cs, v => by cases v <;> simp [PV.unslt, occ, occL_unslt cs]
 | .tuple cs, v => by cases v <;> simp [PV.unslt, occ, occL_unslt cs]
 | .iface t p, v => by cases v <;> simp [PV.unslt, occ, occ_unslt p]
 | .val u, v => rfl
 | .sl _ _ _, v => rfl
 | .ptr _ _, v => rfl
 | .vptr _ _, v => rfl
 | .rs _ _ _ _ _, v => rfl
 | .func _ _ _, v => rfl
 | .junk, v => rfl
theorem occL_unslt : ∀ (ps : List PV) (vs : List Value), occL (unsltL ps) vs = occL ps vs
 | [], vs => rfl
 | p :: ps, [] => by simp [unsltL, occL]
 | p :: ps, v :: vs => by simp [unsltL, occL, occ_unslt p, occL_unslt ps]
end
theorem Sound.unslt {P : Program} {G : Nat → Option (List PV)} {g : FuncId} {F : List PV → Option (List Prop × PV)} (h : Sound P G g (conT (CB.fn F).toCon)) : Sound P G g (conT (CB.fn fun a => F (unsltL a)).toCon) :=
 ⟨h.1, fun Pr F0 R blks w args vs K hR hm hr ho hown hk => h.2 Pr F0 R blks w (unsltL args) vs K hR hm hr.unslt (by rw [occL_unslt]; exact ho) hown hk⟩
section
variable {P : Program} {G : Nat → Option (List PV)} {D : FuncId → Option CB}
theorem fn_frzV (V : List PV → List Tmp) (hD : AllB ⟨P, G, none, none, 0, [], false⟩ D) (hmx : P.follows .mixedOrders = true) (s : Bool) {g : FuncId} {fn : Func} {c : Code} (hf : P.funcs[g]? = some fn) (hn : fn.name ≠ "runtime.NumGoroutine") (hb : fn.body = some c)
  (F : List PV → Option (List Prop × PV)) (h : ∀ args ps r, F args = some (ps, r) → All ps → norefL args = true ∧ awpBFn ⟨P, G, none, none, 0, V args, false⟩ D s fn c args [] (fun r' B => frz B 4 r' = r ∧ r.noref = true)) : Sound P G g (conT (CB.fn F).toCon) := by
 have hs : Sound P G g (fun args B K => awpFn ⟨P, G, none, none, 0, V args, false⟩ (conD D) fn c args B K) := by
  refine ⟨⟨fn, hf, hn, by simp [hb]⟩, fun Pr F0 R blks w args vs K hR hm hr ho hown hk => ?_⟩
  have := soundR_of_awp (E := ⟨P, G, none, none, 0, V args, false⟩) (R1 := []) (hD.con.env rfl rfl) hmx (fun y hy => by cases hy) hf hn hb
  exact (this.2 Pr F0 R blks w args vs K hR (hm.env rfl) hr ho hown hk).mono fun e w' ⟨r, u, b', F', R', h1, h2, h3, h4, h5⟩ => ⟨r, u, b', F', R', h1, h2, h3, h4.env rfl, h5⟩
 refine Sound.pureF (dk := false) hs _ ?_
 rintro args r ⟨ps, h1, h2⟩
 obtain ⟨h3, h4⟩ := h args ps r h1 h2
 exact ⟨h3, awpBFn_sound h4⟩
end
def SoundX (P : Program) (G : Nat → Option (List PV)) (g : FuncId) (T : PT) : Prop :=
 (∃ fn, P.funcs[g]? = some fn ∧ fn.name ≠ "runtime.NumGoroutine" ∧ fn.body.isSome = true) ∧
 ∀ (Pr : Nat → Prop) (F : Fz) (S : List Nat) (blks : List Blk) (w : World) (args : List PV) (vs : Array Value) (K : PV → List Blk → Prop),
  Mem ⟨P, G, none, none, 0, [], false⟩ ⟨Pr, w, F, [], [], S⟩ F S blks w → RepL F S args vs.toList → occL args vs.toList = [] → Owned Pr F S w (occB w S blks) → T args blks K →
  Calls P g vs w (fun e w' => ∃ r u blks' F' R', e = .returned u ∧ K r blks' ∧ Rep F' R' r u ∧ Mem ⟨P, G, none, none, 0, [], false⟩ ⟨Pr, w, F, [], [], S⟩ F' R' blks' w' ∧ Owned Pr F' R' w' (occ r u ++ occB w' R' blks'))
theorem SoundX.weaken {P : Program} {G : Nat → Option (List PV)} {g : FuncId} {T T' : PT} (h : SoundX P G g T) (hT : ∀ args blks K, T' args blks K → T args blks K) : SoundX P G g T' :=
 ⟨h.1, fun Pr F S blks w args vs K hm hr ho hown hk => h.2 Pr F S blks w args vs K hm hr ho hown (hT _ _ _ hk)⟩
mutual
def PV.refs : PV → List Nat
 | .ptr b _ => [b]
 | .rs _ b _ _ _ => [b]
 | .agg cs => refsL cs
 | .tuple cs => refsL cs
 | .iface _ v => v.refs
 | .func _ a c => refsL a ++ refsL c
 | .val _ => []
 | .sl _ _ _ => []
 | .slt _ _ _ => []
 | .vptr _ _ => []
 | .junk => []
def refsL : List PV → List Nat
 | [] => []
 | p :: ps => p.refs ++ refsL ps
end
def pick (R S : List Nat) : List Nat := S.map fun s => R.getD s 0
theorem repL_vals {F : Fz} {R : List Nat} : ∀ {us vs : List Value}, RepL F R (us.map PV.val) vs → vs = us
 | [], _, h => by cases h; rfl
 | u :: us, _, h => by
  cases h with
  | cons h t =>
   cases h
   rw [repL_vals t]
theorem Sound.vals {dk : Bool} {P : Program} {G : Nat → Option (List PV)} {g : FuncId} (hfn : ∃ fn, P.funcs[g]? = some fn ∧ fn.name ≠ "runtime.NumGoroutine" ∧ fn.body.isSome = true) (F : List PV → Option (List Prop × PV))
  (h : ∀ args ps r, F args = some (ps, r) → All ps → ∃ (us : List Value) (u : Value), args = us.map PV.val ∧ r = .val u ∧ u.oneCell' = true ∧ ∀ w, Calls P g us.toArray w (fun e w' => e = .returned u ∧ w' = w)) : SoundD dk P G [] g (conT (CB.fn F).toCon) := by
 refine ⟨hfn, ?_⟩
 intro Pr F0 R blks w args vs K hR1 hm hr ho hown ⟨r, ⟨ps, hq, hp⟩, hk⟩
 obtain ⟨us, u, rfl, rfl, h1, hc⟩ := h args ps r hq hp
 have hvs : vs = us.toArray := by
  have := repL_vals hr
  rw [← this]
 subst hvs
 refine (hc w).mono ?_
 rintro e w' ⟨rfl, rfl⟩
 exact ⟨.val u, u, blks, F0, R, rfl, hk, .val h1, hm, by rw [occ_free _ _ rfl]; exact hown⟩
end Go.Ve
