/- weirlaw30.HistAdds: part of the proof (a value semantics for the model's code, and the functions told by it). -/
import Derived.Test.YtelhcaefmpnfkaaA16
set_option linter.unusedSimpArgs false
set_option linter.unusedVariables false
set_option linter.deprecated false
set_option linter.unusedSectionVars false
set_option linter.defProp false
namespace Go.Ve
section
variable {E : Env} {D : FuncId → Option Con} {B : Base} {F : Fz} {R : List Nat} {st : St} {a : Act} {w : World}
def movB (M : List Blk) (b off n : Nat) (cs : List PV) : List Blk := M.set b (.live (splice cs off (stripL ((cs.drop off).take n))))
theorem occL_junk (ps : List PV) (vs : List Value) (v : Value) (h : vs.length = ps.length) : occL (ps ++ [.junk]) (vs ++ [v]) = occL ps vs := by
 rw [occL_append _ _ _ _ h]
 simp [occL, occ]
theorem Sim.more (h : Sim E B F R st a w) : Sim E B F R ⟨st.tmps ++ [.junk], st.blks⟩ { a with tmps := a.tmps.push undef } w := by
 have hl := h.tmps.length
 refine ⟨h.mem, ?_, h.defers, ?_⟩
 ·simp only [Array.toList_push]
  exact RepL.append (.cons .junk .nil) h.tmps
 ·simp only [Array.toList_push]
  rw [occL_junk _ _ _ hl]
  exact h.own
theorem leaves_marksO {fn : Func} {x : Tmp} {t : TypeId} {q : Tmp} (hfr : fn.results.toList = [.cell x t, .tmp q]) {K : PV → List Blk → Prop} {b off : Nat} {cs : List PV} (hx : st.tmps.getD x undefP = .ptr b off) (hb : st.blks[b]? = some (.live cs)) (hag : aggT E.P t = some true) (hle : off + sz E.P t ≤ cs.length)
    (hk' : K (.tuple [.agg ((cs.drop off).take (sz E.P t)), (st.tmps.getD q undefP).strip]) (movB st.blks b off (sz E.P t) cs)) : ∀ (ms : List Nat) (B : Base) (a : Act) (w' : World), B.mrk = ms → Sim E B F R st a w' →
    LeavesInM Fence.wide 0 E.P fn a.tmps (fun e w' => ∃ r u blks' F' R', e = .returned u ∧ K r blks' ∧ Rep F' R' r u ∧ Mem E { B with mrk := [] } F' R' blks' w' ∧ Owned B.Pr F' R' w' (occ r u ++ occB w' R' blks')) (ms.map markOf) .returning w'
  | [], B, a, w', hB, h' => by
    have hBe : ({ B with mrk := [] } : Base) = B := by cases B; simp at hB; subst hB; rfl
    rw [hBe]
    have hxl : x < st.tmps.length := by
      rcases Nat.lt_or_ge x st.tmps.length with h | h
      · exact h
      · rw [List.getD, List.getElem?_eq_none h] at hx; cases hx
    have hal : a.tmps.size = st.tmps.length := by simpa using h'.tmps.length
    have hax : ({ a with tmps := a.tmps.push undef } : Act).eval (.tmp x) = a.tmps.getD x undef := by
      simp only [Act.eval]
      have hp : (a.tmps.push undef)[x]? = a.tmps[x]? := by rw [Array.getElem?_push, if_neg (by rw [hal]; exact Nat.ne_of_lt hxl)]
      rw [Array.getD_eq_getD_getElem?, Array.getD_eq_getD_getElem?, hp]
    have hq := h'.eval (.tmp q)
    have hpx := h'.eval (.tmp x)
    simp only [aev, Act.eval] at hq hpx
    rw [hx] at hpx
    obtain ⟨u, w1, F1, R1, hrun, hF, hR, hsim⟩ := does_loadm h'.more (o := { dst := some st.tmps.length, op := .load t (.tmp x), type := t, pos := "", after := #[], guard := none }) rfl (by
      simp only [aev]
      rw [List.getD_eq_getElem?_getD, List.getElem?_append_left hxl, ← List.getD_eq_getElem?_getD]; exact hx) hb hle (.inl ⟨hag, rfl, rfl⟩)
    have hload : (Instr.loadAt t (a.tmps.getD x undef)).run E.P w' = .ok u w1 := by
      rcases hrun with hrun | ⟨hrun, _⟩
      · unfold execOp at hrun
        simp only [hax, Sem.run_bind] at hrun
        cases hl : (Instr.loadAt t (a.tmps.getD x undef)).run E.P w' with
        | ok v w2 =>
          rw [hl] at hrun
          simp only [Result.andThen_ok, Sem.run_pure, Result.ok.injEq, Next.value.injEq] at hrun
          rw [hrun.1, hrun.2]
        | halt h w2 => rw [hl] at hrun; cases hrun
      · unfold execOp at hrun
        simp only [hax, Sem.run_bind] at hrun
        cases hl : (Instr.loadAt t (a.tmps.getD x undef)).run E.P w' with
        | ok v w2 =>
          rw [hl] at hrun
          simp only [Result.andThen_ok, Sem.run_pure, Result.ok.injEq, reduceCtorEq, false_and] at hrun
        | halt h w2 => rw [hl] at hrun; cases hrun
    obtain ⟨u0, hu0, _⟩ := load_sound (E := E) h'.mem hpx (t := t) (r := .agg ((cs.drop off).take (sz E.P t))) (by
      rw [ld_live hb, hag, lq_t, if_pos hle])
    have hww : w1 = w' := by
      have := hload.symm.trans hu0
      simp only [Result.ok.injEq] at this
      exact this.2
    rw [hww] at hload
    obtain ⟨c, hcv⟩ : ∃ c, a.tmps.getD x undef = .pointer (some ⟨c, off, none⟩) := by
      generalize a.tmps.getD x undef = v at hpx
      cases hpx
      exact ⟨_, rfl⟩
    have hcell : (resSem a.tmps (.cell x t)).run E.P w' = .ok u w' := by
      show ((do loadVar t (← asAddr (a.tmps.getD x undef))) : Sem Value).run E.P w' = _
      rw [hcv] at hload ⊢
      simpa [Instr.loadAt, Instr.sureAddr, asAddr] using hload
    have htm : RepL F1 R1 (st.tmps ++ [.agg ((cs.drop off).take (sz E.P t))]) (a.tmps.toList ++ [u]) ∧ Owned B.Pr F1 R1 w1 (occL (st.tmps ++ [.agg ((cs.drop off).take (sz E.P t))]) (a.tmps.toList ++ [u]) ++ occB w1 R1 (movB st.blks b off (sz E.P t) cs)) ∧ Mem E B F1 R1 (movB st.blks b off (sz E.P t) cs) w1 := by
      have e1 : (st.tmps ++ [PV.junk]).set st.tmps.length (.agg ((cs.drop off).take (sz E.P t))) = st.tmps ++ [.agg ((cs.drop off).take (sz E.P t))] := by
        rw [List.set_append_right _ _ (Nat.le_refl _), Nat.sub_self]; rfl
      have e2 : ((a.tmps.push undef).setIfInBounds st.tmps.length u).toList = a.tmps.toList ++ [u] := by
        rw [Array.toList_setIfInBounds, Array.toList_push, List.set_append_right _ _ (by simp [hal]), Array.length_toList, hal, Nat.sub_self]; rfl
      have h1 := hsim.tmps
      have h2 := hsim.own
      have h3 := hsim.mem
      simp only [app, stripAt, mApply, hb, St.put, Act.put, e1, e2] at h1 h2 h3
      exact ⟨h1, h2, h3⟩
    obtain ⟨m1, m2, m3⟩ := htm
    rw [hww] at m2 m3
    have hru : Rep F1 R1 (.agg ((cs.drop off).take (sz E.P t))) u := by
      obtain ⟨v, hv, hr⟩ := m1.get st.tmps.length (.agg ((cs.drop off).take (sz E.P t))) (by simp)
      rw [List.getElem?_append_right (by simp [hal])] at hv
      simp [hal] at hv
      rw [hv]; exact hr
    have hqr : Rep F1 R1 (st.tmps.getD q undefP).strip (a.tmps.getD q undef) := (hq.mono hF hR).strip
    have hres : (results fn a.tmps).run E.P w' = .ok (.tuple #[u, a.tmps.getD q undef]) w' := by
      have h1' : (List.mapM (resSem a.tmps) [.cell x t, .tmp q]).run E.P w' = .ok [u, a.tmps.getD q undef] w' := by
        simp only [List.mapM_cons, List.mapM_nil, Sem.run_bind, hcell, Result.andThen_ok, Sem.run_pure]
        rfl
      rw [results_eq, Array.mapM_eq_mapM_toList, hfr, Sem.run_bind, Sem.run_map, h1']
      rfl
    refine ⟨_, hres, _, _, _, F1, R1, rfl, hk', .tuple (.cons hru (.cons hqr .nil)), m3, m2.sub (Sub.append ?_ (Sub.refl _))⟩
    simp only [occ, occL, occ_strip, List.append_nil]
    rw [occL_append _ _ _ _ (by simpa using hal)]
    simp only [occL, List.append_nil]
    exact ⟨fun c => by rw [cnt_append]; omega, fun y hy => List.mem_append_right _ hy⟩
  | c :: ms, B, a, w', hB, h' => by
    obtain ⟨hc, hR, hp⟩ := h'.mem.mks c (by rw [hB]; simp)
    have hn := h'.mem.mnd
    rw [hB] at hn
    have hn' := List.nodup_cons.1 hn
    refine ⟨by simp, .inl ⟨c, _, rfl, run_takeDeferred hc, ?_⟩⟩
    have hm := h'.mem
    have h1 : Sim E { B with mrk := ms } F R st { a with defers := ms.map markOf } w' :=
      ⟨{ os := hm.os, tape := hm.tape, output := hm.output, drn := hm.drn, size := hm.size, pr := hm.pr, fz := hm.fz, fnew := hm.fnew, fold := hm.fold, rnew := hm.rnew, rold := hm.rold, bound := hm.bound, glob := hm.glob, len := hm.len, nd := hm.nd, blk := hm.blk,
         mks := fun x hx => hm.mks x (by rw [hB]; exact List.mem_cons_of_mem _ hx), mnd := hn'.2 }, h'.tmps, rfl, h'.own⟩
    have h2 := h1.putObj (o' := .deferred none) hc (by simp) hp hR hn'.1
    exact leaves_marksO hfr hx hb hag hle hk' ms { B with mrk := ms } { a with defers := ms.map markOf } _ rfl h2
end
def retKO (E : Env) (x : Tmp) (t : TypeId) (q : Tmp) (K : PV → List Blk → Prop) : Exit → St → Prop := fun e st =>
 (match e with | .normal => True | .ret => True | _ => False) ∧ ∃ b off cs, st.tmps.getD x undefP = .ptr b off ∧ st.blks[b]? = some (.live cs) ∧ aggT E.P t = some true ∧ off + sz E.P t ≤ cs.length ∧ K (.tuple [.agg ((cs.drop off).take (sz E.P t)), (st.tmps.getD q undefP).strip]) (movB st.blks b off (sz E.P t) cs)
def awpFnO (E : Env) (D : FuncId → Option Con) (fn : Func) (c : Code) (x : Tmp) (t : TypeId) (q : Tmp) : PT := fun args blks K => awp { E with lo := blks.length, ro := none } D c ⟨args ++ List.replicate (fn.ntmps - args.length) .junk, blks⟩ (retKO { E with lo := blks.length, ro := none } x t q K)
theorem sound_of_awpO {E : Env} {D : FuncId → Option Con} (hD : AllSound E D) (hmx : E.P.follows .mixedOrders = true) (hY : E.Y = none) {g : FuncId} {fn : Func} {c : Code} (hf : E.P.funcs[g]? = some fn) (hn : fn.name ≠ "runtime.NumGoroutine") (hb : fn.body = some c) {x : Tmp} {t : TypeId} {q : Tmp} (hfr : fn.results.toList = [.cell x t, .tmp q]) :
  Sound E.P E.G g (awpFnO E D fn c x t q) := by
 refine ⟨⟨fn, hf, hn, by simp [hb]⟩, ?_⟩
 intro Pr F R blks w args vs K hRle hm hr ho hown hk
 suffices hcl : Calls E.P g vs w (fun e w' => ∃ r u blks' F' R', e = .returned u ∧ K r blks' ∧ Rep F' R' r u ∧ Mem E ⟨Pr, w, F, R, [], R⟩ F' R' blks' w' ∧ Owned Pr F' R' w' (occ r u ++ occB w' R' blks')) from
  hcl.mono fun e w' ⟨r, u, blks', F', R', h1, h2, h3, h4, h5⟩ => ⟨r, u, blks', F', R', h1, h2, h3, h4.env rfl, h5⟩
 rw [← callsIn_wide (n := 0)]
 refine callsIn_of_wp_marks hf hb trivial ?_ rfl
 have hlen : vs.size = args.length := by simpa using hr.length
 have hjunk : ∀ n, RepL F R (List.replicate n .junk) (List.replicate n undef) ∧ occL (List.replicate n .junk) (List.replicate n undef) = [] := by
  intro n
  induction n with
  | zero => exact ⟨.nil, rfl⟩
  | succ n ih => simp only [List.replicate_succ]; exact ⟨.cons .junk ih.1, by simp [occL, ih.2, occ]⟩
 have hsim : Sim E ⟨Pr, w, F, R, [], R⟩ F R ⟨args ++ List.replicate (fn.ntmps - args.length) .junk, blks⟩ { tmps := vs ++ Array.replicate (fn.ntmps - vs.size) undef, defers := [] } w := by
  refine ⟨hm.env rfl, ?_, rfl, ?_⟩
  ·simp only [Array.toList_append, Array.toList_replicate, hlen]
   exact RepL.append (hjunk _).1 hr
  ·simp only [Array.toList_append, Array.toList_replicate, hlen]
   rw [occL_append _ _ _ _ (by simpa using hlen), ho, (hjunk _).2]
   simpa using hown
 have hRl : R.length = blks.length := hm.len
 have := awp_sound c { E with lo := blks.length, ro := none } (hD.env rfl rfl) hmx ⟨Pr, w, F, R, [], R⟩ (fun y hy => by rw [show ({ E with lo := blks.length, ro := none } : Env).Y = E.Y from rfl, hY] at hy; cases hy) (Nat.le_of_eq hRl) none rfl 0 (retKO { E with lo := blks.length, ro := none } x t q K) _ _ F R _ w (Ext.refl _) (hsim.env rfl) hk
 refine wpIn_mono (show c.wpIn Fence.wide 0 E.P _ _ w from this) ?_
 rintro e a' w' ⟨B', st', F', R', ⟨ms, rfl⟩, ⟨he, b, off, cs, k1, k2, k3, k4, k5⟩, h'⟩
 have := leaves_marksO (E := E) (fn := fn) (K := K) hfr k1 k2 k3 k4 k5 (ms ++ []) _ a' w' rfl (h'.env rfl)
 have hd := h'.defers
 simp only at hd
 rw [← hd] at this
 have key := this
 cases e with
 | normal => exact key
 | ret => exact key
 | _ => exact he.elim
def kO2 (P : Program) (t : TypeId) (b off : Nat) (v : PV) (M : List Blk) (K : PV → List Blk → Prop) (o : Option Blk) : Prop := match o with
 | some (.live cs) => aggT P t = some true ∧ off + sz P t ≤ cs.length ∧ K (.tuple [.agg ((cs.drop off).take (sz P t)), v.strip]) (movB M b off (sz P t) cs)
 | _ => False
def kO (P : Program) (t : TypeId) (p v : PV) (M : List Blk) (K : PV → List Blk → Prop) : Prop := match p with
 | .ptr b off => kO2 P t b off v M K M[b]?
 | _ => False
def rkO (P : Program) (x : Tmp) (t : TypeId) (q : Tmp) (K : PV → List Blk → Prop) (T : List BV) (M : List Blk) : Prop := conj ((getB T x).ob ++ (getB T q).ob) (kO P t (getB T x).v (getB T q).v M K)
def retBKO (P : Program) (x : Tmp) (t : TypeId) (q : Tmp) (K : PV → List Blk → Prop) : KB
 | .normal, T, M => rkO P x t q K T M
 | .ret, T, M => rkO P x t q K T M
 | _, _, _ => False
theorem kO_r (P : Program) (x : Tmp) (t : TypeId) (q : Tmp) (K : PV → List Blk → Prop) (T : List BV) (M : List Blk) : retBKO P x t q K .ret T M = conj ((getB T x).ob ++ (getB T q).ob) (kO P t (getB T x).v (getB T q).v M K) := rfl
theorem kO_p (P : Program) (t : TypeId) (b off : Nat) (v : PV) (M : List Blk) (K : PV → List Blk → Prop) : kO P t (.ptr b off) v M K = kO2 P t b off v M K M[b]? := rfl
theorem kO_l (P : Program) (t : TypeId) (b off : Nat) (v : PV) (M : List Blk) (K : PV → List Blk → Prop) (cs : List PV) : kO2 P t b off v M K (some (.live cs)) = (aggT P t = some true ∧ off + sz P t ≤ cs.length ∧ K (.tuple [.agg ((cs.drop off).take (sz P t)), v.strip]) (movB M b off (sz P t) cs)) := rfl
def awpBFnO (E : Env) (D : FuncId → Option CB) (s : Bool) (fn : Func) (c : Code) (x : Tmp) (t : TypeId) (q : Tmp) : PT := fun args blks K => awpB { E with lo := blks.length, ro := none } D s c (args.map .pv ++ List.replicate (fn.ntmps - args.length) (.pv .junk)) blks (retBKO E.P x t q K)
theorem awpBFnO_sound {E : Env} {D : FuncId → Option CB} {s : Bool} {fn : Func} {c : Code} {x : Tmp} {t : TypeId} {q : Tmp} {args : List PV} {blks : List Blk} {K : PV → List Blk → Prop} (h : awpBFnO E D s fn c x t q args blks K) : awpFnO E (conD D) fn c x t q args blks K := by
 unfold awpBFnO at h
 have := awpB_sound _ _ _ _ h
 have e : (args.map BV.pv ++ List.replicate (fn.ntmps - args.length) (BV.pv .junk)).map BV.den = args ++ List.replicate (fn.ntmps - args.length) .junk := by
  rw [List.map_append, List.map_replicate]
  congr 1
  exact vals_den args
 rw [e] at this
 refine awp_mono _ (conD D) c _ _ _ ?_ this
 rintro ex ⟨tm, bl⟩ ⟨T', h1, h2⟩
 simp only at h1 h2; subst h1
 have key : rkO E.P x t q K T' bl → ∃ b off cs, (T'.map BV.den).getD x undefP = .ptr b off ∧ bl[b]? = some (.live cs) ∧ aggT E.P t = some true ∧ off + sz E.P t ≤ cs.length ∧ K (.tuple [.agg ((cs.drop off).take (sz E.P t)), ((T'.map BV.den).getD q undefP).strip]) (movB bl b off (sz E.P t) cs) := by
  intro hk
  obtain ⟨ho, hk⟩ := conj_iff.1 hk
  obtain ⟨o1, o2⟩ := All.app.1 ho
  have g1 : (T'.map BV.den).getD x undefP = (getB T' x).v := by
   show getT (T'.map BV.den) x = _
   rw [← BV.den_ob o1, getB_den]; rfl
  have g2 : (T'.map BV.den).getD q undefP = (getB T' q).v := by
   show getT (T'.map BV.den) q = _
   rw [← BV.den_ob o2, getB_den]; rfl
  unfold kO at hk
  split at hk
  ·rename_i b off hp
   unfold kO2 at hk
   split at hk
   ·rename_i cs hb
    exact ⟨b, off, cs, by rw [g1, hp], hb, hk.1, hk.2.1, by rw [g2]; exact hk.2.2⟩
   ·exact hk.elim
  ·exact hk.elim
 cases ex with
 | normal => exact ⟨trivial, key h2⟩
 | ret => exact ⟨trivial, key h2⟩
 | _ => exact h2.elim
theorem fn_frzO {P : Program} {G : Nat → Option (List PV)} {D : FuncId → Option CB} (V : List PV → List Tmp) (hD : AllB ⟨P, G, none, none, 0, []⟩ D) (hmx : P.follows .mixedOrders = true) (s : Bool) {g : FuncId} {fn : Func} {c : Code} (hf : P.funcs[g]? = some fn) (hn : fn.name ≠ "runtime.NumGoroutine") (hb : fn.body = some c)
  {x : Tmp} {t : TypeId} {q : Tmp} (hfr : fn.results.toList = [.cell x t, .tmp q]) (F : List PV → Option (List Prop × PV)) (h : ∀ args ps r, F args = some (ps, r) → All ps → norefL args = true ∧ awpBFnO ⟨P, G, none, none, 0, V args⟩ D s fn c x t q args [] (fun r' B => frz B 4 r' = r ∧ r.noref = true)) : Sound P G g (conT (CB.fn F).toCon) := by
 have hs : Sound P G g (fun args B K => awpFnO ⟨P, G, none, none, 0, V args⟩ (conD D) fn c x t q args B K) := by
  refine ⟨⟨fn, hf, hn, by simp [hb]⟩, fun Pr F0 R blks w args vs K hR hm hr ho hown hk => ?_⟩
  have := sound_of_awpO (E := ⟨P, G, none, none, 0, V args⟩) (hD.con.env rfl rfl) hmx rfl hf hn hb hfr
  exact (this.2 Pr F0 R blks w args vs K hR (hm.env rfl) hr ho hown hk).mono fun e w' ⟨r, u, b', F', R', h1, h2, h3, h4, h5⟩ => ⟨r, u, b', F', R', h1, h2, h3, h4.env rfl, h5⟩
 refine hs.pureF _ ?_
 rintro args r ⟨ps, h1, h2⟩
 obtain ⟨h3, h4⟩ := h args ps r h1 h2
 exact ⟨h3, awpBFnO_sound h4⟩
end Go.Ve
