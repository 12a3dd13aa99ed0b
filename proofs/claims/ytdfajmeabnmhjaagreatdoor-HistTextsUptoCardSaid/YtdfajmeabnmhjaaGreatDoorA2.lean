/- weirlaw30.HistTexts: part of the proof (a value semantics for the model's code, and the functions told by it). -/
import Derived.Test.YtdfajmeabnmhjaaGreatDoorA1
import Derived.Deep.Upon
import Derived.ArgAppend
import Derived.Laws.MakeOwn
set_option linter.unusedSimpArgs false
set_option linter.unusedVariables false
set_option linter.deprecated false
namespace Go.Ve
section
variable {E : Env} {B : Base} {F : Fz} {R : List Nat} {st : St} {a : Act} {w : World}
def Does (E : Env) (B : Base) (F : Fz) (R : List Nat) (a : Act) (w : World) (o : Oper) (st' : St) : Prop :=
 ∃ u w' F' R', ((execOp a.eval o).run E.P w = .ok (.value u) w' ∨ ((execOp a.eval o).run E.P w = .ok .skip w' ∧ u = undef)) ∧ F.le F' ∧ Rle R R' ∧ Sim E B F' R' st' (a.put o.dst u) w'
theorem does_quiet (h : Sim E B F R st a w) {o : Oper} {r : PV} {u : Value} (hrun : (execOp a.eval o).run E.P w = .ok (.value u) w) (hr : Rep F R r u) : Does E B F R a w o (app o r.strip {} st) :=
 ⟨u, w, F, R, .inl hrun, Fz.le_refl F, Rle.refl R, h.fill (s := none) h.mem (Fz.le_refl F) (Rle.refl R) hr.strip (occ_strip _ _) h.own⟩
theorem does_move (h : Sim E B F R st a w) {o : Oper} {x : Operand} (hrun : (execOp a.eval o).run E.P w = .ok (.value (a.eval x)) w) : Does E B F R a w o (app o (aev E st x) { strip := stripO x } st) := by
 refine ⟨a.eval x, w, F, R, .inl hrun, Fz.le_refl F, Rle.refl R, h.fillOwn (s := stripO x) h.mem (Fz.le_refl F) (Rle.refl R) (h.eval x) ?_⟩
 refine h.own.sub (Sub.append ?_ (Sub.refl _))
 have := stripAt_moved h x
 exact ⟨fun c => by have h1 := this.1 c; simp at h1 ⊢; omega, fun q hq => this.2 q (by simp at hq ⊢; exact hq.symm)⟩
theorem newVar_run {P : Program} (t : TypeId) (v : Value) (w : World) : (newVar t v).run P w = .ok ⟨w.heap.size, 0, none⟩ (World.new w v.cells.toList t) := by
 simp [newVar, newRow, World.new]
theorem does_new (h : Sim E B F R st a w) {o : Oper} {p : PV} {v : Value} {s : Option Tmp} (T : TypeId) (hrun : (execOp a.eval o).run E.P w = .ok (.value (.pointer (some ⟨w.heap.size, 0, none⟩))) (World.new w v.cells.toList T))
  (hr : Rep F R p v) (hs : p.solid = true) (hown : Sub (occL (stripAt st.tmps s) a.tmps.toList ++ occ p v) (occL st.tmps a.tmps.toList)) :
  Does E B F R a w o (app o (.ptr st.blks.length 0) { strip := s, mem := .new p.cells } st) := by
 have hcell : occL p.cells v.cells.toList = occ p v := by
  cases hr <;> simp [PV.cells, Value.cells, occL, PV.solid, occ] at hs ⊢
  rename_i h1
  cases v <;> simp [Value.oneCell'] at h1 <;> simp [Value.cells, occL, occ]
 have hR : R.length = st.blks.length := h.mem.len
 refine ⟨_, _, F, R ++ [w.heap.size], .inl hrun, Fz.le_refl F, Rle.append _ _, h.fill (s := s) (h.mem.alloc T (hr.cells hs) (hr.ones hs)) (Fz.le_refl F) (Rle.append _ _) (.ptr ?_) (occ_free' _ _) ?_⟩
 ·rw [← hR]; simp
 ·refine Owned.alloc h.mem ?_
  refine h.own.sub (Sub.append ?_ (Sub.refl _))
  rw [hcell]; exact hown
where
 occ_free' (b off : Nat) : occ (.ptr b off) (.pointer (some ⟨w.heap.size, 0, none⟩)) = [] := by simp [occ]
theorem splice_length {l vs : List PV} {off : Nat} (h : off + vs.length ≤ l.length) : (splice l off vs).length = l.length := by simp [splice]; omega
theorem splice_rep {cs ns : List PV} {vs us : List Value} {off : Nat} (h : RepL F R cs (vs.take cs.length)) (k : RepL F R ns us) (hle : off + ns.length ≤ cs.length) (hL : cs.length ≤ vs.length) : RepL F R (splice cs off ns) ((vs.take off ++ us ++ vs.drop (off + us.length)).take (splice cs off ns).length) := by
 have hul := k.length
 rw [splice_length hle, pre_splice (by omega) hL]
 unfold splice
 rw [hul]
 exact RepL.append (h.drop _) (RepL.append k (h.take _))
theorem does_store (h : Sim E B F R st a w) {o : Oper} {t : TypeId} {x y : Operand} {b off : Nat} {cs : List PV} (ho : o.op = .store t x y) (hx : aev E st x = .ptr b off) (hb : st.blks[b]? = some (.live cs))
  (hs : (aev E st y).solid = true) (hsz : (aev E st y).cells.length = sz E.P t) (hle : off + (aev E st y).cells.length ≤ cs.length) (hz : ∃ i, E.P.info? t = some i) :
  Does E B F R a w o (app o .junk { strip := stripO y, mem := .store b off (aev E st y).cells } st) := by
 have hpx := h.eval x
 have hpy := h.eval y
 rw [hx] at hpx
 obtain ⟨ti, hti⟩ := hz
 generalize hpv : aev E st y = p at *
 generalize hyv : a.eval y = v at *
 generalize hxv : a.eval x = ax at *
 cases hpx with
 | ptr hc =>
  rename_i c
  have hok := h.mem.blk b c _ hc hb
  obtain ⟨hnp, hF0, vs, T, hh, hrep, hone, hpl⟩ := hok
  have hl : vs.toList.length ≥ cs.length := by simpa using hpl
  have hcl : v.cells.toList.length = p.cells.length := (hpy.cells hs).length
  have hones := hpy.ones hs
  have hst := run_storeCells_at (P := E.P) c off T v.cells.toList 0 vs w hh (by simp at hl hcl ⊢; omega) hones
  simp only [Nat.add_zero] at hst
  have hvsz : v.cells.size = ti.size := by
   have : sz E.P t = ti.size := by simp [sz, hti]
   have h2 : v.cells.size = p.cells.length := by simpa using hcl
   omega
  have hrun : (execOp a.eval o).run E.P w = .ok .skip (w.setRow c (vs.toList.take off ++ v.cells.toList ++ vs.toList.drop (off + v.cells.toList.length)).toArray) := by
   unfold execOp
   simp only [ho, hxv, hyv]
   have hvar : (storeVar t ⟨c, off, none⟩ v).run E.P w = .ok () (w.setRow c (vs.toList.take off ++ v.cells.toList ++ vs.toList.drop (off + v.cells.toList.length)).toArray) := by
    simp only [storeVar, Sem.run_bind, sizeOf, typeInfo, run_program, Result.andThen_ok, hti, Sem.run_pure, hvsz, ne_eq, not_true_eq_false, if_false]
    exact hst
   simp only [Instr.storeAt, Instr.sureAddr, Sem.run_bind, Sem.run_pure, Result.andThen_ok, hvar]
  have hnew := splice_rep (off := off) hrep (hpy.cells hs) hle (by simpa using hpl)
  have hlen2 : (splice cs off p.cells).length ≤ (vs.toList.take off ++ v.cells.toList ++ vs.toList.drop (off + v.cells.toList.length)).length := by
   rw [splice_length hle]; simp only [List.length_append, List.length_take, List.length_drop]; omega
  have hnone : ∀ u ∈ vs.toList.take off ++ v.cells.toList ++ vs.toList.drop (off + v.cells.toList.length), u.oneCell' = true := by
   intro u hu
   rcases List.mem_append.1 hu with hu | hu
   ·rcases List.mem_append.1 hu with hu | hu
    ·exact hone u (List.mem_of_mem_take hu)
    ·exact hones u hu
   ·exact hone u (List.mem_of_mem_drop hu)
  have hbl : b < st.blks.length := (List.getElem?_eq_some_iff.1 hb).1
  refine ⟨undef, _, F, R, .inr ⟨hrun, rfl⟩, Fz.le_refl F, Rle.refl R, ?_⟩
  have happ : mApply (.store b off p.cells) st.blks = st.blks.set b (.live (splice cs off p.cells)) := by simp [mApply, hb]
  have hsim := h.fill (s := stripO y) (d := o.dst) (r := .junk) (v := undef) (blks' := st.blks.set b (.live (splice cs off p.cells))) (h.mem.store (c := c) (cs := cs) (vs := vs.toList) hc hb hnew hnone hlen2) (Fz.le_refl F) (Rle.refl R) .junk (occ_free _ _ rfl) (by
   have hcell : occL p.cells v.cells.toList = occ p v := by
    clear hpv
    cases hpy <;> simp [PV.cells, Value.cells, occL, PV.solid, occ] at hs ⊢
    rename_i h1
    cases v <;> simp [Value.oneCell'] at h1 <;> simp [Value.cells, occL, occ]
   refine Owned.store h.mem (cs := cs) (l := occL st.tmps a.tmps.toList) hc hb h.own ?_
   have hm := stripAt_moved h y
   rw [hpv, hyv] at hm
   have hcw : cellsW w c = vs.toList := by simp [cellsW, hh]
   rw [hcw]
   have hsub : Sub (occL (splice cs off p.cells) (vs.toList.take off ++ v.cells.toList ++ vs.toList.drop (off + v.cells.toList.length))) (occ p v ++ occL cs vs.toList) := by
    unfold splice
    have hlt : (vs.toList.take off).length = (cs.take off).length := by simp at hl ⊢; omega
    rw [occL_append _ _ _ _ (by simp at hlt hcl ⊢; omega), occL_append _ _ _ _ hlt, hcell]
    have e : occL cs vs.toList = occL (cs.take off) (vs.toList.take off) ++ (occL ((cs.drop off).take p.cells.length) ((vs.toList.drop off).take p.cells.length) ++ occL (cs.drop (off + p.cells.length)) (vs.toList.drop (off + p.cells.length))) := by
     rw [← occL_append _ _ _ _ (by simp at hl ⊢; omega), ← occL_append _ _ _ _ hlt]
     congr 1
     ·rw [← List.drop_drop, List.take_append_drop, List.take_append_drop]
     ·rw [← List.drop_drop, List.take_append_drop, List.take_append_drop]
    rw [e, hcl]
    refine ⟨fun x => ?_, fun q hq => ?_⟩
    ·simp only [cnt_append]; omega
    ·simp only [List.mem_append] at hq ⊢
     rcases hq with (hq | hq) | hq
     ·exact .inr (.inl hq)
     ·exact .inl hq
     ·exact .inr (.inr (.inr hq))
   refine Sub.trans (Sub.append (Sub.refl _) hsub) ?_
   rw [← List.append_assoc]
   exact Sub.append hm (Sub.refl _))
  rw [show app o .junk { strip := stripO y, mem := .store b off p.cells } st = ({ tmps := stripAt st.tmps (stripO y), blks := st.blks.set b (.live (splice cs off p.cells)) : St }.put o.dst .junk) by rw [← happ]; rfl]
  exact hsim
theorem foldl_set : ∀ (l : List Value) (cs : Array Value) (off i : Nat), off + i + l.length ≤ cs.size →
  ((l.zipIdx i).foldl (fun cs (c, j) => cs.setIfInBounds (off + j) c) cs).toList = cs.toList.take (off + i) ++ l ++ cs.toList.drop (off + i + l.length)
 | [], cs, off, i, _ => by simp
 | v :: l, cs, off, i, h => by
  simp only [List.zipIdx_cons, List.foldl_cons]
  rw [foldl_set l _ off (i + 1) (by simp at h ⊢; omega)]
  have hlt : off + i < cs.toList.length := by simp at h ⊢; omega
  simp only [Array.toList_setIfInBounds, List.length_cons]
  rw [show off + (i + 1) = off + i + 1 by omega, show off + i + 1 + l.length = off + i + (l.length + 1) by omega]
  rw [List.drop_set_of_lt (by omega), List.take_succ_eq_append_getElem (by simpa using hlt)]
  simp [List.take_set_of_le]
theorem fill_sound {place : Nat → Option (Nat × Nat)} : ∀ (ps : List (Nat × PV)) (vs : List (Nat × Value)) (cells : List PV) (cs : Array Value) (out : List PV),
  fillP place cells ps = some out → RepL F R cells cs.toList → (∀ v ∈ cs.toList, v.oneCell' = true) → List.length vs = List.length ps →
  (∀ (i : Nat) p v, ps[i]? = some p → vs[i]? = some v → v.1 = p.1 ∧ Rep F R p.2 v.2) →
  ∃ cs', Instr.fill place cs vs = some cs' ∧ RepL F R out cs'.toList ∧ ∀ v ∈ cs'.toList, v.oneCell' = true
 | [], [], cells, cs, out, h, hr, h1, _, _ => by simp [fillP] at h; subst h; exact ⟨cs, rfl, hr, h1⟩
 | [], _ :: _, _, _, _, _, _, _, hl, _ => by simp at hl
 | _ :: _, [], _, _, _, _, _, _, hl, _ => by simp at hl
 | (i, p) :: ps, (i', v) :: vs, cells, cs, out, h, hr, h1, hl, hp => by
  obtain ⟨rfl, hrep⟩ := hp 0 _ _ rfl rfl
  simp only at hrep
  unfold fillP at h
  cases hpl : place i' with
  | none => simp [hpl] at h
  | some os =>
   obtain ⟨off, size⟩ := os
   simp only [hpl] at h
   split at h
   ·simp at h
   ·rename_i hc
    simp only [not_or, Bool.not_eq_true', Bool.not_eq_false, Nat.not_lt, gt_iff_lt, ne_eq, Decidable.not_not] at hc
    obtain ⟨hs, hsz, hle⟩ := hc
    have hvl := (hrep.cells hs).length
    have hcl := hr.length
    have hsz' : v.cells.size = size := by rw [← hsz]; simpa using hvl
    have hle' : off + v.cells.size ≤ cs.size := by simp at hcl hvl; omega
    have e := foldl_set v.cells.toList cs off 0 (by simpa using hle')
    have e' : (v.cells.zipIdx.foldl (fun cs (c, j) => cs.setIfInBounds (off + j) c) cs).toList = cs.toList.take off ++ v.cells.toList ++ cs.toList.drop (off + v.cells.toList.length) := by
     rw [← Array.foldl_toList]; simpa using e
    obtain ⟨cs', k1, k2, k3⟩ := fill_sound ps vs (splice cells off p.cells) (v.cells.zipIdx.foldl (fun cs (c, j) => cs.setIfInBounds (off + j) c) cs) out h
     (by rw [e']; unfold splice; rw [hvl]; exact RepL.append (hr.drop _) (RepL.append (hrep.cells hs) (hr.take _)))
     (by
      rw [e']; intro u hu
      rcases List.mem_append.1 hu with hu | hu
      ·rcases List.mem_append.1 hu with hu | hu
       ·exact h1 u (List.mem_of_mem_take hu)
       ·exact hrep.ones hs u hu
      ·exact h1 u (List.mem_of_mem_drop hu))
     (by simpa using hl) (fun j p v h h' => hp (j + 1) p v (by simpa using h) (by simpa using h'))
    refine ⟨cs', ?_, k2, k3⟩
    unfold Instr.fill
    simp only [hpl]
    rw [if_neg (by simp [hsz']; omega)]
    exact k1
theorem places_spec {P : Program} {t : TypeId} {pl : List (Nat × Nat)} (h : places P t = some pl) : ∃ fs, P.underlying t = some (.struct fs) ∧ fs.toList.mapM (fun f => (P.info? f.type).map fun i => (f.offset, i.size)) = some pl := by
 obtain ⟨fs, h1, h2⟩ := Option.bind_eq_some_iff.1 h
 unfold fieldsOf at h1
 split at h1
 ·rename_i fs' hu; simp at h1; subst h1; exact ⟨_, hu, h2⟩
 ·simp at h1
theorem parts_spec (h : Sim E B F R st a w) (parts : Array (Nat × Operand)) (i : Nat) (p : Nat × PV) (v : Nat × Value)
  (h1 : (parts.toList.map fun (i, x) => (i, (aev E st x).strip))[i]? = some p) (h2 : (parts.map fun (i, x) => (i, a.eval x)).toList[i]? = some v) : v.1 = p.1 ∧ Rep F R p.2 v.2 := by
 simp only [Array.toList_map, List.getElem?_map, Option.map_eq_some_iff] at h1 h2
 obtain ⟨x, hx, rfl⟩ := h1
 obtain ⟨y, hy, rfl⟩ := h2
 rw [hx] at hy
 obtain rfl := Option.some.inj hy
 exact ⟨rfl, (h.eval _).strip⟩
theorem does_build (h : Sim E B F R st a w) {o : Oper} {t : TypeId} {parts : Array (Nat × Operand)} {r : PV} (ho : o.op = .build t parts) (hb : buildP E.P t (parts.toList.map fun (i, x) => (i, (aev E st x).strip)) = some r) :
  ∃ u, (execOp a.eval o).run E.P w = .ok (.value u) w ∧ Rep F R r u := by
 have hps := parts_spec h parts
 unfold buildP at hb
 have main : ∀ {z : PV} {zv : Value} {place : Nat → Option (Nat × Nat)}, zeroV E.P t = some zv → zeroP E.P t = some z → z.solid = true →
   (fillP place z.cells (parts.toList.map fun (i, x) => (i, (aev E st x).strip))).map PV.agg = some r →
   ∃ cells, Instr.fill place zv.cells (parts.map fun (i, x) => (i, a.eval x)).toList = some cells ∧ Rep F R r (.agg cells) := by
  intro z zv place hzv hz hs hf
  obtain ⟨out, hout, rfl⟩ := Option.map_eq_some_iff.1 hf
  have hzr : Rep F R z zv := by
   unfold zeroP at hz; rw [hzv] at hz; simp at hz; subst hz; exact (rep_ofC zv).1
  obtain ⟨cs', k1, k2, k3⟩ := fill_sound _ _ z.cells zv.cells out hout (hzr.cells hs) (hzr.ones hs) (by simp) hps
  exact ⟨cs', k1, .agg k3 k2⟩
 have hrun : ∀ cells, E.P.built t (parts.map fun (i, x) => (i, a.eval x)).toList = some cells → (execOp a.eval o).run E.P w = .ok (.value (.agg cells)) w := by
  intro cells hc
  unfold execOp
  simp only [ho]
  have := run_build (P := E.P) w t (parts.map fun (i, x) => (i, a.eval x)) cells hc
  simp only [Sem.run_bind, this, Result.andThen_ok, Sem.run_pure]
 have hzi : ∀ z, zeroP E.P t = some z → ∃ it zv, E.P.info? t = some it ∧ it.zero = some zv ∧ zeroV E.P t = some zv := by
  intro z hz
  unfold zeroP zeroV at hz
  cases hi : E.P.info? t with
  | none => simp [hi] at hz
  | some it =>
   cases hzz : it.zero with
   | none => simp [hi, hzz] at hz
   | some zv => exact ⟨it, zv, rfl, hzz, by simp [zeroV, hi, hzz]⟩
 split at hb
 ·rename_i z fs hz hu
  split at hb
  ·rename_i hs
   obtain ⟨pl, hpl, hf⟩ := Option.bind_eq_some_iff.1 hb
   obtain ⟨it, zv, hi, hzz, hzv⟩ := hzi z hz
   obtain ⟨fs', hu', hm⟩ := places_spec hpl
   rw [hu] at hu'
   obtain rfl : fs = fs' := by simpa using hu'
   obtain ⟨cells, k1, k2⟩ := main hzv hz hs hf
   refine ⟨.agg cells, hrun cells ?_, k2⟩
   unfold Program.built
   simp only [hi, hu, hzz, hm]
   simpa using k1
  ·simp at hb
 ·rename_i z n e hz hu
  split at hb
  ·rename_i hs
   obtain ⟨it, zv, hi, hzz, hzv⟩ := hzi z hz
   obtain ⟨ie, hie⟩ := info_of_sz hs.2
   obtain ⟨cells, k1, k2⟩ := main hzv hz hs.1 hb
   refine ⟨.agg cells, hrun cells ?_, k2⟩
   unfold Program.built
   have hsz : sz E.P e = ie.size := by simp [sz, hie]
   simp only [hi, hu, hzz, hie]
   rw [hsz] at k1
   exact k1
  ·simp at hb
 ·simp at hb
theorem fill_row {k : Nat} : ∀ (vs : List Value) (n : Nat) (cs : Array Value), (∀ v ∈ vs, v.cells.size = k) → (n + vs.length) * k = cs.size →
  Instr.fill (fun i => some (i * k, k)) cs ((List.range' n vs.length).zip vs) = some (cs.toList.take (n * k) ++ vs.flatMap fun v => v.cells.toList).toArray
 | [], n, cs, _, h => by
  simp at h
  simp only [Instr.fill, List.range'_zero, List.length_nil, List.zip_nil_left, List.flatMap_nil, List.append_nil, h]
  rw [List.take_of_length_le (by simp)]
 | v :: vs, n, cs, hk, h => by
  have h0 := hk v (by simp)
  have hm : (n + (vs.length + 1)) * k = n * k + (k + vs.length * k) := by rw [Nat.add_mul, Nat.succ_mul]; omega
  simp only [List.length_cons] at h
  simp only [List.length_cons, List.range'_succ, List.zip_cons_cons, Instr.fill]
  rw [if_neg (by simp [h0]; omega)]
  have e := foldl_set v.cells.toList cs (n * k) 0 (by simp [h0]; omega)
  have e' : (v.cells.zipIdx.foldl (fun cs (c, j) => cs.setIfInBounds (n * k + j) c) cs).toList = cs.toList.take (n * k) ++ v.cells.toList ++ cs.toList.drop (n * k + v.cells.toList.length) := by
   rw [← Array.foldl_toList]; simpa using e
  rw [fill_row vs (n + 1) _ (fun x hx => hk x (by simp [hx])) (by
   have : (v.cells.zipIdx.foldl (fun cs (c, j) => cs.setIfInBounds (n * k + j) c) cs).size = cs.size := by
    rw [← Array.length_toList, e']; simp [h0]; omega
   rw [this, ← h]; congr 1; omega)]
  rw [e']
  simp only [List.flatMap_cons]
  congr 2
  rw [Nat.succ_mul, List.append_assoc, List.take_append, List.take_of_length_le (by simp; omega)]
  simp only [List.append_assoc]
  congr 1
  rw [List.take_append]
  have e2 : (cs.toList.take (n * k)).length = n * k := by simp; omega
  rw [e2, Nat.add_sub_cancel_left, List.take_of_length_le (by simp [h0]), show k - v.cells.toList.length = 0 by simp [h0]]
  simp
theorem flatMap_rep : ∀ (xs : List PV) (vs : List Value), RepL F R xs vs → (∀ x ∈ xs, x.solid = true) → RepL F R (xs.flatMap PV.cells) (vs.flatMap fun v => v.cells.toList) ∧ ∀ u ∈ vs.flatMap (fun v => v.cells.toList), u.oneCell' = true
 | _, _, .nil, _ => ⟨.nil, by simp⟩
 | _, _, .cons (p := p) h t, hs => by
  obtain ⟨k1, k2⟩ := flatMap_rep _ _ t (fun x hx => hs x (by simp [hx]))
  have h0 := hs p (by simp)
  refine ⟨by simpa using RepL.append k1 (h.cells h0), fun u hu => ?_⟩
  simp only [List.flatMap_cons, List.mem_append] at hu
  rcases hu with hu | hu
  ·exact h.ones h0 u hu
  ·exact k2 u hu
theorem does_row (h : Sim E B F R st a w) {o : Oper} {k : Nat} {xs : List PV} {us vs : List Value} {n cap : Nat} (T : TypeId) (s : Option Tmp) {w1 : World} (hw1 : w1 = w ∨ w1 = { w with drawn := w.drawn + 1 })
  (hrun : (execOp a.eval o).run E.P w = .ok (.value (.slice (some ⟨w.heap.size, 0, none⟩) n cap)) (World.new w1 vs T)) (hk0 : 0 < k) (hn : n = xs.length) (hcap : n ≤ cap) (hk : ∀ x ∈ xs, x.cells.length = k)
  (hr : RepL F [] (xs.flatMap PV.cells) us) (h1 : ∀ u ∈ us, u.oneCell' = true) (hp : ∀ (j : Nat) u, us[j]? = some u → vs[j]? = some u) (hl : us.length = n * k) (hv : cap * k ≤ vs.length) (hv1 : ∀ u ∈ vs, u.oneCell' = true) :
  Does E B F R a w o (app o (.sl k xs true) { strip := s } st) := by
 have hm1 : Mem E B F R st.blks w1 := by
  rcases hw1 with e | e
  ·rw [e]; exact h.mem
  ·rw [e]; exact h.mem.draw
 have hsz : w1.heap.size = w.heap.size := by rcases hw1 with e | e <;> rw [e]
 have ho1 : Owned B.Pr F R w1 (occL st.tmps a.tmps.toList ++ occB w1 R st.blks) := by
  rcases hw1 with e | e
  ·rw [e]; exact h.own
  ·rw [e]; exact h.own.draw
 have hle : F.le (F.row w.heap.size us) := h.mem.row_le us
 have hrow := hm1.row (us := us) (vs := vs) T h1 hp
 rw [hsz] at hrow
 have hrep : Rep (F.row w.heap.size us) R (.sl k xs true) (.slice (some ⟨w.heap.size, 0, none⟩) n cap) :=
  .sl us hk0 hn hcap hk (fun j u hj => by simpa [Fz.row] using hj) (hr.mono hle (Rle.refl _))
 refine ⟨_, _, _, R, .inl hrun, hle, Rle.refl R, h.fillOwn (s := s) hrow hle (Rle.refl R) hrep ?_⟩
 have hs := stripAt_sub h s
 have ho2 := ho1.sub (Sub.append hs (Sub.refl _))
 have := Owned.row (us := us) (vs := vs) (T := T) (m := occ (.sl k xs true) (.slice (some ⟨w.heap.size, 0, none⟩) n cap)) hm1 ho2 (by
  simp only [occ]
  exact .inr ⟨k, n, cap, by rw [hsz], hk0, hl, hv, hv1⟩)
 rw [hsz] at this
 exact this
theorem zsz_spec {P : Program} {e : TypeId} {n : Nat} (h : zsz P e = some n) : ∃ i z, P.info? e = some i ∧ i.zero = some z ∧ z.cells.size = n ∧ zeroV P e = some z := by
 unfold zsz at h
 obtain ⟨z, hz, h2⟩ := Option.bind_eq_some_iff.1 h
 split at h2
 ·rename_i hall
  have hz' := hz
  unfold zeroV at hz
  obtain ⟨i, hi, hz⟩ := Option.bind_eq_some_iff.1 hz
  exact ⟨i, z, hi, hz, Option.some.inj h2, hz'⟩
 ·cases h2
theorem zsz_one {P : Program} {e : TypeId} {n : Nat} {z : Value} (h : zsz P e = some n) (hz : zeroV P e = some z) : ∀ u ∈ z.cells.toList, u.oneCell' = true := by
 unfold zsz at h
 rw [hz] at h
 simp only [Option.bind_some] at h
 split at h
 ·rename_i hall; exact fun u hu => List.all_eq_true.1 hall u hu
 ·cases h
theorem made_one {cs : Array Value} {q : Nat} (h : ∀ u ∈ cs.toList, u.oneCell' = true) (hpos : 0 < cs.size) : ∀ u ∈ (madeCells cs q).toList, u.oneCell' = true := by
 intro u hu
 unfold madeCells at hu
 simp only [Array.toList_map, List.mem_map] at hu
 obtain ⟨j, hj, rfl⟩ := hu
 have hlt : j % cs.size < cs.size := Nat.mod_lt _ hpos
 rw [getElem!_pos cs _ hlt]
 exact h _ (by simp)
theorem zeroCells_one {cs : Array Value} {q : Nat} (h : ∀ u ∈ cs.toList, u.oneCell' = true) (hpos : 0 < cs.size) : ∀ u ∈ (Builtin.zeroCells cs q).toList, u.oneCell' = true := by
 intro u hu
 unfold Builtin.zeroCells at hu
 simp only [Array.toList_map, List.mem_map] at hu
 obtain ⟨j, hj, rfl⟩ := hu
 have hlt : j % cs.size < cs.size := Nat.mod_lt _ hpos
 rw [getElem!_pos cs _ hlt]
 exact h _ (by simp)
theorem does_buildSlice (h : Sim E B F R st a w) {o : Oper} {t e : TypeId} {n : Nat} {parts : Array (Nat × Operand)} (ho : o.op = .buildSlice t n parts) (hu : E.P.underlying t = some (.slice e))
  (hn : n = parts.size) (hb : n * sz E.P e ≤ 16777216) (hz : ¬ sz E.P e = 0) (hzs : zsz E.P e = some (sz E.P e)) (hidx : parts.toList.map (·.1) = List.range n)
  (hall : ((parts.toList.map fun p => (aev E st p.2).strip).all fun x => x.free && x.solid && decide (x.cells.length = sz E.P e)) = true) :
  Does E B F R a w o (app o (.sl (sz E.P e) (parts.toList.map fun p => (aev E st p.2).strip) true) {} st) := by
 obtain ⟨i, z, hi, hzz, hzc, _⟩ := zsz_spec hzs
 have hsz : sz E.P e = i.size := by simp [sz, hi]
 have hrepl : RepL F R (parts.toList.map fun p => (aev E st p.2).strip) (parts.toList.map fun p => a.eval p.2) := by
  refine RepL.of_get (by simp) (fun j q u hq hu' => ?_)
  simp only [List.getElem?_map, Option.map_eq_some_iff] at hq hu'
  obtain ⟨x, hx, rfl⟩ := hq
  obtain ⟨y, hy, rfl⟩ := hu'
  rw [hx] at hy
  obtain rfl := Option.some.inj hy
  exact (h.eval _).strip
 have hall' : ∀ x ∈ (parts.toList.map fun p => (aev E st p.2).strip), x.free = true ∧ x.solid = true ∧ x.cells.length = sz E.P e := by
  intro x hx
  have := List.all_eq_true.1 hall x hx
  simpa [and_assoc] using this
 have hfree : freeL (parts.toList.map fun p => (aev E st p.2).strip) = true := by rw [freeL_eq]; exact List.all_eq_true.2 fun x hx => (hall' x hx).1
 obtain ⟨k1, k2⟩ := flatMap_rep _ _ (hrepl.of_free (R' := []) hfree) (fun x hx => (hall' x hx).2.1)
 have hvsz : ∀ v ∈ parts.toList.map (fun p => a.eval p.2), v.cells.size = sz E.P e := by
  intro v hv
  obtain ⟨j, hj, rfl⟩ := List.getElem_of_mem hv
  obtain ⟨q, hq, hr⟩ := hrepl.get' j _ (List.getElem?_eq_getElem hj)
  have hqm := hall' q (List.mem_of_getElem? hq)
  rw [hr.size hqm.2.1, hqm.2.2]
 have hlen : (parts.toList.map fun p => a.eval p.2).length = n := by simp [hn]
 have hflat : ((parts.toList.map fun p => a.eval p.2).flatMap fun v => v.cells.toList).length = n * sz E.P e := by
  rw [List.length_flatMap, ← hlen]
  have : ∀ l : List Value, (∀ v ∈ l, v.cells.size = sz E.P e) → (l.map fun v => v.cells.toList.length).sum = l.length * sz E.P e := by
   intro l
   induction l with
   | nil => simp
   | cons v l ih =>
    intro hl
    have := ih (fun x hx => hl x (by simp [hx]))
    have h0 := hl v (by simp)
    simp only [List.map_cons, List.sum_cons, List.length_cons, Nat.succ_mul, Array.length_toList] at this ⊢
    omega
  exact this _ hvsz
 have hzero : ∀ (m : Nat), ((if m = 0 then pure #[] else do pure (← zeroValue e).cells : Sem (Array Value)).run E.P w) = .ok (if m = 0 then #[] else z.cells) w := by
  intro m
  split <;> simp [zeroValue, typeInfo, hi, hzz]
 have hpl : ((parts.map fun (i, x) => (i, a.eval x)).toList) = (List.range' 0 (parts.toList.map fun p => a.eval p.2).length).zip (parts.toList.map fun p => a.eval p.2) := by
  rw [hlen]
  have e1 : List.range' 0 n = parts.toList.map (·.1) := by rw [hidx, List.range_eq_range']
  rw [e1, List.zip_map', Array.toList_map]
 have hfill : ∀ cs : Array Value, cs.size = n * sz E.P e → Instr.fill (fun i => some (i * sz E.P e, sz E.P e)) cs (parts.map fun (i, x) => (i, a.eval x)).toList = some ((parts.toList.map fun p => a.eval p.2).flatMap fun v => v.cells.toList).toArray := by
  intro cs hcs
  rw [hpl, fill_row _ 0 cs hvsz (by rw [Nat.zero_add, hlen, hcs])]
  simp
 refine does_row h (us := (parts.toList.map fun p => a.eval p.2).flatMap fun v => v.cells.toList) (vs := (parts.toList.map fun p => a.eval p.2).flatMap fun v => v.cells.toList) (n := n) (cap := n) e none (.inl rfl) ?_ (Nat.pos_of_ne_zero hz) (by simp [hn]) (Nat.le_refl _) (fun x hx => (hall' x hx).2.2) k1 k2 (fun _ _ h => h) hflat (by rw [hflat]; exact Nat.le_refl _) k2
 unfold execOp
 simp only [ho]
 have hrun : (Instr.buildSlice t n (parts.map fun (i, x) => (i, a.eval x))).run E.P w = .ok (.slice (some ⟨w.heap.size, 0, none⟩) n n) (World.new w ((parts.toList.map fun p => a.eval p.2).flatMap fun v => v.cells.toList) e) := by
  unfold Instr.buildSlice
  rw [Sem.run_bind, run_underlying hu, Result.andThen_ok]
  simp only
  rw [Sem.run_bind, sz_run hi, Result.andThen_ok]
  simp only [show ¬ n * sz E.P e > 2 ^ 24 by simpa using hb, if_false]
  have hfill' : ∀ cs : Array Value, cs.size = n * sz E.P e → Instr.fill (fun i => some (i * sz E.P e, sz E.P e)) cs (parts.map fun x => (x.1, a.eval x.2)).toList = some ((parts.toList.map fun p => a.eval p.2).flatMap fun v => v.cells.toList).toArray := hfill
  split
  ·simp only [Sem.run_bind, Sem.run_pure, Result.andThen_ok, hfill' _ (show ((Array.range (n * sz E.P e)).map fun x => (#[] : Array Value)[x % (#[] : Array Value).size]!).size = _ by simp)]
   simp [newRow, World.new]
  ·simp only [Sem.run_bind, Sem.run_pure, Result.andThen_ok, zeroValue, typeInfo, run_program, hi, hzz, hfill' _ (show ((Array.range (n * sz E.P e)).map fun x => z.cells[x % z.cells.size]!).size = _ by simp)]
   simp [newRow, World.new]
 simp only [Sem.run_bind, hrun, Result.andThen_ok, Sem.run_pure]
theorem does_block (h : Sim E B F R st a w) {o : Oper} {cs : List PV} {vs : List Value} {r : PV} {u : Value} (T : TypeId) (hrun : (execOp a.eval o).run E.P w = .ok (.value u) (World.new w vs T))
  (hr : RepL F R cs vs) (h1 : ∀ v ∈ vs, v.oneCell' = true) (ho : occL cs vs = []) (hru : Rep F (R ++ [w.heap.size]) r u) (hor : occ r u = []) :
  Does E B F R a w o (app o r { mem := .new cs } st) := by
 refine ⟨_, _, F, R ++ [w.heap.size], .inl hrun, Fz.le_refl F, Rle.append _ _, h.fill (s := none) (h.mem.alloc T hr h1) (Fz.le_refl F) (Rle.append _ _) hru hor ?_⟩
 refine Owned.alloc h.mem ?_
 rw [ho, List.append_nil]
 exact h.own
theorem does_makeSlice (h : Sim E B F R st a w) {o : Oper} {t e : TypeId} {x y : Operand} {n m : Int} (ho : o.op = .makeSlice t x y) (hu : E.P.underlying t = some (.slice e)) (hx : aev E st x = .val (.int .i64 n)) (hy : aev E st y = .val (.int .i64 m))
  (h0 : 0 ≤ n) (hnm : n ≤ m) (hz : ¬ sz E.P e = 0) (hzs : zsz E.P e = some (sz E.P e)) (hroom : roomy m.toNat (byt E.P e) = true) :
  (n = 0 → Does E B F R a w o (app o (.sl (sz E.P e) [] true) {} st)) ∧
  (∀ z, zeroP E.P e = some z → z.solid = true → Does E B F R a w o (app o (.rs (sz E.P e) st.blks.length 0 n.toNat m.toNat) { mem := .new ((List.range (m.toNat * sz E.P e)).map fun j => z.cells.getD (j % sz E.P e) .junk) } st)) := by
 obtain ⟨i, zv, hi, hzz, hzc, hzv⟩ := zsz_spec hzs
 have hsz : sz E.P e = i.size := by simp [sz, hi]
 have hby : byt E.P e = i.bytes := by simp [byt, hi]
 have hpx := h.eval x
 have hpy := h.eval y
 rw [hx] at hpx; rw [hy] at hpy
 obtain ⟨e1, _⟩ := hpx.val_inv
 obtain ⟨e2, _⟩ := hpy.val_inv
 have hroom' : m.toNat * (i.bytes + 1) ≤ 274877906944 := by
  unfold roomy at hroom; rw [hby] at hroom; exact of_decide_eq_true hroom
 have hmb : m.toNat * i.bytes ≤ 274877906944 := Nat.le_trans (Nat.mul_le_mul_left _ (Nat.le_succ _)) hroom'
 have hm1 : m.toNat ≤ 274877906944 := Nat.le_trans (Nat.le_mul_of_pos_right _ (Nat.succ_pos _)) hroom'
 have hr := run_makeSlice_gen w t e i zv hu hi hzz n m h0 hnm (by
  have : ((i.bytes * m.toNat : Nat) : Int) ≤ 274877906944 := by rw [Nat.mul_comm]; omega
  rw [Int.natCast_mul] at this
  rw [show ((m.toNat : Nat) : Int) = m by omega] at this
  omega) (by omega)
 have hrun : (execOp a.eval o).run E.P w = .ok (.value (.slice (some ⟨w.heap.size, 0, none⟩) n.toNat m.toNat)) (World.new w (madeCells zv.cells (m.toNat * i.size)).toList e) := by
  unfold execOp
  simp only [ho, e1, e2, Sem.run_bind, hr, Result.andThen_ok, Sem.run_pure]
  simp [World.new]
 refine ⟨fun hn0 => ?_, fun z hzp hs => ?_⟩
 ·subst hn0
  exact does_row h (us := []) (n := 0) (cap := m.toNat) e none (.inl rfl) hrun (Nat.pos_of_ne_zero hz) rfl (Nat.zero_le _) (by simp) (by simpa using .nil) (by simp) (by simp) (by simp) (by simp [size_madeCells, hsz]) (made_one (zsz_one hzs hzv) (by rw [hzc]; exact Nat.pos_of_ne_zero hz))
 ·have hzr : Rep F R z zv := by
   unfold zeroP at hzp; rw [hzv] at hzp; simp at hzp; subst hzp; exact (rep_ofC zv).1
  have hzo : occ z zv = [] := by
   unfold zeroP at hzp; rw [hzv] at hzp; simp at hzp; subst hzp; exact (rep_ofC (F := F) (R := R) zv).2
  have hzcell : occL z.cells zv.cells.toList = [] := by
   have : occL z.cells zv.cells.toList = occ z zv := by
    clear hzp
    cases hzr <;> simp [PV.cells, Value.cells, occL, PV.solid, occ] at hs ⊢
    rename_i h1
    cases zv <;> simp [Value.oneCell'] at h1 <;> simp [Value.cells, occL, occ]
   rw [this, hzo]
  have hcr := hzr.cells hs
  have hlen := hcr.length
  have hpos : 0 < sz E.P e := Nat.pos_of_ne_zero hz
  have hget : ∀ j, ∃ p v, z.cells[j % sz E.P e]? = some p ∧ zv.cells[j % sz E.P e]? = some v ∧ Rep F R p v ∧ v.oneCell' = true ∧ occ p v = [] := by
   intro j
   have hj : j % sz E.P e < z.cells.length := by
    have := Nat.mod_lt j hpos
    simp at hlen; omega
   obtain ⟨v, hv, hrv⟩ := hcr.get _ _ (List.getElem?_eq_getElem hj)
   refine ⟨_, v, List.getElem?_eq_getElem hj, by simpa using hv, hrv, hzr.ones hs v (List.mem_of_getElem? hv), ?_⟩
   have hmem : ∀ (l : List PV) (m : List Value) (i : Nat) p v, l[i]? = some p → m[i]? = some v → occL l m = [] → occ p v = [] := by
    intro l
    induction l with
    | nil => intro m i p v h; simp at h
    | cons x l ih =>
     intro m i p v h h' hl
     cases m with
     | nil => simp at h'
     | cons y m =>
      simp [occL] at hl
      cases i with
      | zero => simp at h h'; subst h; subst h'; exact hl.1
      | succ i => exact ih m i p v (by simpa using h) (by simpa using h') hl.2
   exact hmem _ _ _ _ _ (List.getElem?_eq_getElem hj) hv hzcell
  have hrow : ∀ l : List Nat, RepL F R (l.map fun j => z.cells.getD (j % sz E.P e) .junk) (l.map fun j => zv.cells[j % sz E.P e]!) ∧ (∀ v ∈ l.map fun j => zv.cells[j % sz E.P e]!, v.oneCell' = true) ∧ occL (l.map fun j => z.cells.getD (j % sz E.P e) .junk) (l.map fun j => zv.cells[j % sz E.P e]!) = [] := by
   intro l
   induction l with
   | nil => exact ⟨.nil, by simp, rfl⟩
   | cons j l ih =>
    obtain ⟨p, v, hp, hv, hrv, h1, h2⟩ := hget j
    have ep : z.cells.getD (j % sz E.P e) .junk = p := by simp [List.getD, hp]
    have ev : zv.cells[j % sz E.P e]! = v := by rw [getElem!_def, hv]
    simp only [List.map_cons, ep, ev]
    refine ⟨.cons hrv ih.1, fun u hu => ?_, by simp only [occL, h2, ih.2.2, List.nil_append]⟩
    rcases List.mem_cons.1 hu with rfl | hu
    ·exact h1
    ·exact ih.2.1 u hu
  obtain ⟨r1, r2, r3⟩ := hrow (List.range (m.toNat * sz E.P e))
  have emade : (madeCells zv.cells (m.toNat * i.size)).toList = (List.range (m.toNat * sz E.P e)).map fun j => zv.cells[j % sz E.P e]! := by
   simp only [madeCells, Array.toList_map, Array.toList_range, ← hsz, hzc]
  rw [emade] at hrun
  refine does_block h e hrun r1 r2 r3 (.rs (c := w.heap.size) ?_ (by omega)) (by simp [occ])
  rw [← h.mem.len]; simp
where
 run_makeSlice_gen {P : Program} (w : World) (t e : TypeId) (i : TypeInfo) (z : Value) (ht : P.underlying t = some (.slice e)) (hi : P.info? e = some i) (hz : i.zero = some z) (n m : Int) (h0 : 0 ≤ n) (hnm : n ≤ m)
   (hbytes : (i.bytes : Int) * m ≤ 281474976710656) (h63 : m ≤ 9223372036854775807) :
   (Instr.makeSlice t (.int .i64 n) (.int .i64 m)).run P w = .ok (.slice (some ⟨w.heap.size, 0, none⟩) n.toNat m.toNat) (w.alloc (.cells (madeCells z.cells (m.toNat * i.size)) e)) :=
  run_make w t e i z ht hi hz .i64 .i64 n m h0 hnm hbytes h63
end
end Go.Ve
namespace Go.Ve
section
variable {E : Env} {B : Base} {F : Fz} {R : List Nat} {st : St} {a : Act} {w : World}
theorem Sub.of_perm {l l' : List Occ} (h : l'.Perm l) : Sub l' l := ⟨fun c => Nat.le_of_eq (h.countP_eq _), fun q hq => h.mem_iff.1 hq⟩
theorem app_room {P : Program} (w : World) (t tx ty e : TypeId) (i : TypeInfo) (ht : P.underlying t = some (.slice e)) (hi : P.info? e = some i) (b off sLen sCap : Nat) (x : Value) (n : Nat) (news : List Value) (hs : Src P i.size tx x n news w)
  (hroom : sLen + n ≤ sCap) {vs : Array Value} {T : TypeId} (hh : w.heap[b]? = some (.cells vs T (0, 0))) (hle : off + sLen * i.size + news.length ≤ vs.size) (h1 : ∀ u ∈ news, u.oneCell' = true) :
  (Builtin.append_ #[t, tx] ty #[.slice (some ⟨b, off, none⟩) sLen sCap, x]).run P w = .ok (.slice (some ⟨b, off, none⟩) (sLen + n) sCap) (w.setRow b (vs.toList.take (off + sLen * i.size) ++ news ++ vs.toList.drop (off + sLen * i.size + news.length)).toArray) := by
 have hst := run_storeCells_at (P := P) b (off + sLen * i.size) T news 0 vs w hh (by simpa using hle) h1
 simp only [Nat.add_zero] at hst
 rcases hs.kind with ⟨e', hk⟩ | hk <;> simp [Builtin.append_, run_underlying ht, run_underlying hk, sizeOf, typeInfo, hi, hs.len, hroom, hs.cells, Addr.add_mid, hst]
theorem flat_length {k : Nat} : ∀ (xs : List PV), (∀ x ∈ xs, x.cells.length = k) → (xs.flatMap PV.cells).length = xs.length * k
 | [], _ => by simp
 | x :: xs, h => by
  have h0 := h x (by simp)
  have := flat_length xs (fun y hy => h y (by simp [hy]))
  simp [this, h0, Nat.succ_mul]; omega
theorem one_strip (p : PV) : p.strip.one = p.one := by cases p <;> simp [PV.strip, PV.one]
mutual
theorem noref_strip : ∀ p : PV, p.strip.noref = p.noref
 | .sl _ _ _ => rfl
 | .iface _ v => noref_strip v
 | .agg cs => norefL_strip cs
 | .tuple vs => norefL_strip vs
 | .func _ a c => by simp [PV.strip, PV.noref, norefL_strip a, norefL_strip c]
 | .val _ => rfl
 | .ptr _ _ => rfl
 | .vptr _ _ => rfl
 | .rs _ _ _ _ _ => rfl
 | .slt _ _ _ => rfl
 | .junk => rfl
theorem norefL_strip : ∀ l : List PV, norefL (stripL l) = norefL l
 | [] => rfl
 | x :: xs => by simp [stripL, norefL, noref_strip x, norefL_strip xs]
end
theorem norefL_eq : ∀ l : List PV, norefL l = l.all PV.noref
 | [] => rfl
 | x :: xs => by simp [norefL, norefL_eq xs]
theorem rs_cells (hm : Mem E B F R st.blks w) {kk b off len cap n : Nat} {v : Value} {cs : List PV} (hr : Rep F R (.rs kk b off len cap) v) (hb : st.blks[b]? = some (.live cs)) (hle : off + n ≤ cs.length) :
  ∃ c vs T, R[b]? = some c ∧ v = .slice (some ⟨c, off, none⟩) len cap ∧ len ≤ cap ∧ w.heap[c]? = some (.cells vs T (0, 0)) ∧ cs.length ≤ vs.size ∧ RepL F R ((cs.drop off).take n) ((vs.toList.drop off).take n) ∧ (∀ u ∈ vs.toList, u.oneCell' = true) ∧
   ∀ (j : Nat) u, ((vs.toList.drop off).take n)[j]? = some u → w.cell? ⟨c, off + j, none⟩ = some u := by
 cases hr with
 | rs hc hcap =>
  rename_i c
  obtain ⟨hnp, hF0, vs, T, hh, hrep, hone, hpl⟩ := hm.blk b c _ hc hb
  refine ⟨c, vs, T, hc, rfl, hcap, hh, hpl, by have := (hrep.drop off).take n; rwa [pre_take hle] at this, hone, fun j u hj => ?_⟩
  rw [List.getElem?_take] at hj
  split at hj
  ·rw [List.getElem?_drop] at hj
   simp [World.cell?, hh]
   simpa using hj
  ·simp at hj
theorem row_sound (h : Sim E B F R st a w) {y : Operand} {t' e : TypeId} {i : TypeInfo} {ys : List PV} (hi : E.P.info? e = some i) (hz : ¬ sz E.P e = 0) (hy : rowOf E.P e (E.P.underlying t') st.blks (aev E st y) = some ys) :
  ∃ news, Src E.P i.size t' (a.eval y) ys.length news w ∧ RepL F [] (ys.flatMap PV.cells) news ∧ ∀ x ∈ ys, x.cells.length = sz E.P e := by
 have hsz : sz E.P e = i.size := by simp [sz, hi]
 have hpy := h.eval y
 generalize a.eval y = vy at *
 have fro : ∀ {b o n : Nat} {us : List Value}, (∀ (j : Nat) u, us[j]? = some u → F b (o + j) = some u) → n ≤ us.length → (∀ (j : Nat) u, (us.take n)[j]? = some u → w.cell? ((⟨b, o, none⟩ : Addr).add j) = some u) ∧ ∀ u ∈ us.take n, u.oneCell' = true := by
  intro b o n us hF hn
  refine ⟨fun j u hj => ?_, fun u hu => ?_⟩
  ·rw [List.getElem?_take] at hj
   split at hj
   ·rw [Addr.add_mid]; exact (h.mem.fz _ _ _ (hF j u hj)).1
   ·simp at hj
  ·obtain ⟨j, hj, rfl⟩ := List.getElem_of_mem (List.mem_of_mem_take hu)
   exact (h.mem.fz _ _ _ (hF j _ (List.getElem?_eq_getElem hj))).2
 unfold rowOf at hy
 split at hy
 ·rename_i e' k ys' own hu he
  rw [he] at hpy
  split at hy
  ·rename_i hk
   simp at hy; subst hy
   cases hpy with
   | slnil => exact ⟨[], Src.ofNil w hu 0, by simpa using .nil, by simp⟩
   | sl us hk0 hl hc hk' hF hR =>
    have hx : ∀ x ∈ ys', x.cells.length = sz E.P e := by
     rcases hk with rfl | rfl
     ·exact hk'
     ·simp
    have hul : us.length = ys'.length * sz E.P e := by rw [hR.length]; exact flat_length _ hx
    obtain ⟨f1, f2⟩ := fro hF (Nat.le_refl us.length)
    rw [List.take_length] at f1 f2
    exact ⟨us, by rw [hl]; exact Src.ofSlice w hu _ _ _ us (by rw [hul, hsz]) f1 f2, hR, hx⟩
  ·simp at hy
 ·rename_i e' k ys' zs hu he
  rw [he] at hpy
  split at hy
  ·rename_i hk
   simp at hy; subst hy
   cases hpy with
   | sltz hk0 => exact absurd (hk.symm.trans hk0) hz
   | sltnil => exact ⟨[], Src.ofNil w hu 0, by simpa using .nil, by simp⟩
   | slt us hk0 hl hc hk' hF hR =>
    subst hk
    have hx : ∀ x ∈ ys', x.cells.length = sz E.P e := fun x hx => hk' x (List.mem_append_left _ hx)
    have hul : us.length = (ys'.length + zs.length) * sz E.P e := by rw [hR.length, flat_length _ hk', List.length_append]
    have hyl : ys'.length * sz E.P e ≤ us.length := by rw [hul]; exact Nat.mul_le_mul_right _ (Nat.le_add_right _ _)
    obtain ⟨f1, f2⟩ := fro hF hyl
    refine ⟨us.take (ys'.length * sz E.P e), by rw [hl]; exact Src.ofSlice w hu _ _ _ _ (by simp [hsz] at hyl ⊢; omega) f1 f2, ?_, hx⟩
    have := hR.take (ys'.length * sz E.P e)
    rw [List.flatMap_append, List.take_append_of_le_length (by rw [flat_length _ hx]; exact Nat.le_refl _), List.take_of_length_le (by rw [flat_length _ hx]; exact Nat.le_refl _)] at this
    exact this
  ·simp at hy
 ·rename_i e' kk' b off len cap hu he
  rw [he] at hpy
  split at hy
  ·rename_i cs hb
   split at hy
   ·rename_i hc
    obtain ⟨c1, c2⟩ := hc
    simp at hy; subst hy
    obtain ⟨c, vs, T, k1, rfl, k3, k4, k5, k6, k7, k8⟩ := rs_cells h.mem hpy hb c1
    have hpl := List.all_eq_true.1 c2
    have hone' : ∀ x ∈ stripL ((cs.drop off).take (len * sz E.P e)), x.cells = [x] := by
     intro x hx
     rw [stripL_eq] at hx
     obtain ⟨z, hz, rfl⟩ := List.mem_map.1 hx
     have h1 := hpl z hz
     simp only [plainCell, Bool.and_eq_true] at h1
     have h2 : z.strip.one = true := by rw [one_strip]; exact h1.1.2
     revert h2
     generalize z.strip = q
     cases q <;> simp [PV.one] <;> rfl
    have hlen : (stripL ((cs.drop off).take (len * sz E.P e))).length = len * sz E.P e := by rw [stripL_eq]; simp; omega
    obtain ⟨d1, d2⟩ := chunks_flat hz len (stripL ((cs.drop off).take (len * sz E.P e))) (by rw [hlen]; exact Nat.le_refl _) hone'
    have e0 : (stripL ((cs.drop off).take (len * sz E.P e))).take (len * sz E.P e) = stripL ((cs.drop off).take (len * sz E.P e)) := List.take_of_length_le (by rw [hlen]; exact Nat.le_refl _)
    rw [e0] at d1
    refine ⟨(vs.toList.drop off).take (len * sz E.P e), ?_, ?_, d2⟩
    ·rw [chunks_length]
     refine Src.ofSlice w hu _ _ _ _ (by simp [hsz] at c1 ⊢; omega) (fun j u hj => by rw [Addr.add_mid]; exact k8 j u hj) (fun u hu => k7 u (List.mem_of_mem_drop (List.mem_of_mem_take hu)))
    ·rw [d1]
     refine RepL.of_noref ?_ k6.strip
     rw [norefL_strip, norefL_eq]
     refine List.all_eq_true.2 fun x hx => ?_
     have h1 := hpl x hx
     simp only [plainCell, Bool.and_eq_true] at h1
     exact h1.1.1
   ·simp at hy
  ·simp at hy
 ·rename_i s hu he
  rw [he] at hpy
  obtain ⟨rfl, _⟩ := hpy.val_inv
  split at hy
  ·rename_i hk
   simp at hy; subst hy
   rw [hk] at hsz
   rw [← hsz]
   refine ⟨byteCells s, ?_, ?_, fun x hx => ?_⟩
   ·have : (s.data.toList.map byteP).length = s.size := by rw [List.length_map, Array.length_toList]; rfl
    rw [this]; exact Src.ofString w hu s
   ·unfold byteCells
    generalize s.data.toList = l
    induction l with
    | nil => exact .nil
    | cons c l ih => simpa [byteP, PV.cells] using .cons (.val rfl) ih
   ·obtain ⟨c, _, rfl⟩ := List.mem_map.1 hx
    rw [hk]; rfl
  ·simp at hy
 ·simp at hy
theorem occL_splice {cs ns : List PV} {vs us : List Value} {off : Nat} (hl : cs.length ≤ vs.length) (hn : us.length = ns.length) (hle : off + ns.length ≤ cs.length) :
  Sub (occL (splice cs off ns) (vs.take off ++ us ++ vs.drop (off + us.length))) (occL ns us ++ occL cs vs) := by
 unfold splice
 have hlt : (vs.take off).length = (cs.take off).length := by simp; omega
 rw [occL_append _ _ _ _ (by simp at hlt ⊢; omega), occL_append _ _ _ _ hlt]
 have e : occL cs vs = occL (cs.take off) (vs.take off) ++ (occL ((cs.drop off).take ns.length) ((vs.drop off).take ns.length) ++ occL (cs.drop (off + ns.length)) (vs.drop (off + ns.length))) := by
  rw [← occL_append _ _ _ _ (by simp; omega), ← occL_append _ _ _ _ hlt]
  congr 1
  ·rw [← List.drop_drop, List.take_append_drop, List.take_append_drop]
  ·rw [← List.drop_drop, List.take_append_drop, List.take_append_drop]
 rw [e, hn]
 refine ⟨fun x => ?_, fun q hq => ?_⟩
 ·simp only [cnt_append]; omega
 ·simp only [List.mem_append] at hq ⊢
  rcases hq with (hq | hq) | hq
  ·exact .inr (.inl hq)
  ·exact .inl hq
  ·exact .inr (.inr (.inr hq))
theorem does_put (h : Sim E B F R st a w) {o : Oper} {b off c : Nat} {cs ns : List PV} {vs : Array Value} {T : TypeId} {us : List Value} {r : PV} {u : Value} (k1 : R[b]? = some c) (hb : st.blks[b]? = some (.live cs)) (hh : w.heap[c]? = some (.cells vs T (0, 0)))
  (hrun : (execOp a.eval o).run E.P w = .ok (.value u) (w.setRow c (vs.toList.take off ++ us ++ vs.toList.drop (off + us.length)).toArray)) (hR : RepL F R ns us) (ho : occL ns us = []) (h1 : ∀ x ∈ us, x.oneCell' = true) (hle : off + ns.length ≤ cs.length)
  (hr : Rep F R r u) (hor : occ r u = []) : Does E B F R a w o (app o r { mem := .store b off ns } st) := by
 obtain ⟨hnp, hF0, vs', T', hh', hrep, hone, hpl⟩ := h.mem.blk b c _ k1 hb
 obtain ⟨rfl, rfl⟩ : vs = vs' ∧ T = T' := by rw [hh] at hh'; simpa using hh'
 have hul := hR.length
 have hrep' := splice_rep (off := off) hrep hR hle (by simpa using hpl)
 have hone' : ∀ x ∈ vs.toList.take off ++ us ++ vs.toList.drop (off + us.length), x.oneCell' = true := fun x hx => by
  simp only [List.mem_append] at hx
  rcases hx with (hx | hx) | hx
  ·exact hone x (List.mem_of_mem_take hx)
  ·exact h1 x hx
  ·exact hone x (List.mem_of_mem_drop hx)
 have hmem := h.mem.store (vs := vs.toList) k1 hb hrep' hone' (by rw [splice_length hle]; simp only [List.length_append, List.length_take, List.length_drop, Array.length_toList]; omega)
 have hma : mApply (.store b off ns) st.blks = st.blks.set b (.live (splice cs off ns)) := by simp [mApply, hb]
 refine ⟨_, _, F, R, .inl hrun, Fz.le_refl F, Rle.refl R, ?_⟩
 unfold app
 rw [hma]
 refine h.fill (s := none) hmem (Fz.le_refl F) (Rle.refl R) hr hor ?_
 refine Owned.store h.mem k1 hb (l := occL st.tmps a.tmps.toList) h.own ?_
 have hcw : cellsW w c = vs.toList := by simp [cellsW, hh]
 rw [hcw]
 have := occL_splice (off := off) (show cs.length ≤ vs.toList.length by simpa using hpl) hul hle
 rw [ho, List.nil_append] at this
 exact Sub.append (Sub.refl _) this
theorem rowOf_nil {P : Program} {e : TypeId} {u : Option TypeDesc} {M : List Blk} {y : PV} {ys : List PV} (d : Bool) (h : rowOf P e u (seen d M []) y = some ys) : rowOf P e u M y = some ys := by
 cases d with
 | false => exact h
 | true =>
  revert h
  simp only [seen]
  unfold rowOf
  split <;> simp
theorem appP_nil {P : Program} {e : TypeId} {M : List Blk} {s : Option Tmp} {x : PV} {ys : List PV} {r : PV × Eff} (d : Bool) (h : appP P e (seen d M []) s x ys = some r) : appP P e M s x ys = some r := by
 cases d with
 | false => exact h
 | true =>
  revert h
  simp only [seen]
  unfold appP
  split <;> simp
theorem does_append (h : Sim E B F R st a w) {o : Oper} {x y : Operand} {t t' e : TypeId} {ys : List PV} {v : PV} {ef : Eff}
  (ho : o.op = .call { callee := .builtin .append, args := #[x, y], argTypes := #[t, t'] }) (hu : E.P.underlying t = some (.slice e))
  (hy : rowOf E.P e (E.P.underlying t') st.blks (aev E st y) = some ys) (hz : ¬ sz E.P e = 0) (hzs : zsz E.P e = some (sz E.P e))
  (hap : appP E.P e st.blks (stripO x) (aev E st x) ys = some (v, ef)) : Does E B F R a w o (app o v ef st) := by
 obtain ⟨i, zv, hi, hzz, hzc, hzv⟩ := zsz_spec hzs
 have hsz : sz E.P e = i.size := by simp [sz, hi]
 have hby : byt E.P e = i.bytes := by simp [byt, hi]
 have hpos : 0 < sz E.P e := Nat.pos_of_ne_zero hz
 have hpx := h.eval x
 have hexec : ∀ {v w'}, (Builtin.append_ #[t, t'] o.type #[a.eval x, a.eval y]).run E.P w = .ok v w' → (execOp a.eval o).run E.P w = .ok (.value v) w' := by
  intro v w' hr
  unfold execOp
  simp only [ho]
  simp [resolve, invoke, builtin, hr]
 have hmoved := stripAt_moved h x
 obtain ⟨news, hsrc, hnR, hnk⟩ := row_sound h hi hz hy
 have hn1 := hsrc.one
 have hnl := hsrc.newsLen
 have rooms : ∀ n : Nat, roomy (n + ys.length) (byt E.P e) = true → (n + ys.length) * i.bytes ≤ 274877906944 ∧ n + ys.length ≤ 274877906944 := fun n hroom => by
  have hroom' : (n + ys.length) * (i.bytes + 1) ≤ 274877906944 := by
   unfold roomy at hroom; rw [hby] at hroom; exact of_decide_eq_true hroom
  exact ⟨Nat.le_trans (Nat.mul_le_mul_left _ (Nat.le_succ _)) hroom', Nat.le_trans (Nat.le_mul_of_pos_right _ (Nat.succ_pos _)) hroom'⟩
 have grows : ∀ (base : Option Addr) (len cap : Nat) (xs : List PV) (us : List Value) (s : Option Tmp), a.eval x = .slice base len cap → us.length = len * i.size → len = xs.length → (∀ x ∈ xs, x.cells.length = sz E.P e) → RepL F [] (xs.flatMap PV.cells) us → (∀ u ∈ us, u.oneCell' = true) →
   (Builtin.firstCells i.size len (.slice base len cap)).run E.P w.drew = .ok us.toArray w.drew → cap < len + ys.length → len ≤ cap → roomy (len + ys.length) (byt E.P e) = true → Does E B F R a w o (app o (.sl (sz E.P e) (xs ++ ys) true) { strip := s } st) := by
  intro base len cap xs us s ex hul hl hk hR hu1 hold hgt hlc hroom
  obtain ⟨hmb, hm1⟩ := rooms _ hroom
  have hfitb : Builtin.nextslicecap (len + ys.length) cap * i.bytes ≤ 281474976710656 := growslice_fits (by omega) (by omega)
  have hr := run_append_grow_src (P := E.P) w t t' o.type e i zv hu hi hzz base len cap us hold (a.eval y) ys.length news hsrc hgt (by omega) hfitb
  rw [← ex] at hr
  have hge := grownCap_ge w (len + ys.length) cap e
  have hw : w.drew.alloc (.cells ((us ++ news).toArray ++ Builtin.zeroCells zv.cells (grownCap w (len + ys.length) cap e - (len + ys.length))) e) = World.new { w with drawn := w.drawn + 1 } (us ++ news ++ (Builtin.zeroCells zv.cells (grownCap w (len + ys.length) cap e - (len + ys.length))).toList) e := by
   unfold World.new World.drew; congr 2; apply Array.ext'; simp
  rw [hw] at hr
  have hboth : (us ++ news).length = (len + ys.length) * sz E.P e := by rw [List.length_append, hul, hnl, Nat.add_mul, hsz]
  refine does_row h (us := us ++ news) (n := len + ys.length) (cap := grownCap w (len + ys.length) cap e) e s (.inr rfl) (hexec hr) hpos (by simp [hl]) hge (fun z hz => ?_) (by simpa using RepL.append hnR hR) (fun u hu => ?_) (fun j u hj => ?_) hboth ?_ ?_
  ·rcases List.mem_append.1 hz with hz | hz
   ·exact hk z hz
   ·exact hnk z hz
  ·rcases List.mem_append.1 hu with hu | hu
   ·exact hu1 u hu
   ·exact hn1 u hu
  ·rw [List.getElem?_append_left (List.getElem?_eq_some_iff.1 hj).1]; exact hj
  ·simp only [List.length_append (as := us ++ news), hboth, Array.length_toList, size_zeroCells, hzc]
   rw [← Nat.add_mul]
   exact Nat.mul_le_mul_right _ (by omega)
  ·intro u hu
   rcases List.mem_append.1 hu with hu | hu
   ·rcases List.mem_append.1 hu with hu | hu
    ·exact hu1 u hu
    ·exact hn1 u hu
   ·exact zeroCells_one (zsz_one hzs hzv) (by rw [hzc]; exact hpos) u hu
 unfold appP at hap
 split at hap
 ·rename_i k xs own hx
  split at hap
  ·rename_i hc
   obtain ⟨c1, hroom⟩ := hc
   simp only [Option.some.injEq, Prod.mk.injEq] at hap
   obtain ⟨rfl, rfl⟩ := hap
   rw [hx] at hpx
   by_cases hys : ys = []
   ·subst hys
    have hn0 : news = [] := by simpa using hnl
    subst hn0
    have hr : (Builtin.append_ #[t, t'] o.type #[a.eval x, a.eval y]).run E.P w = .ok (a.eval x) w := by
     generalize a.eval x = vx at *
     cases hpx with
     | slnil => exact run_append_nothing w t t' o.type e i hu hi none 0 0 (Nat.le_refl _) _ hsrc
     | sl us hk0 hl hc hk hF hR => exact run_append_nothing w t t' o.type e i hu hi _ _ _ hc _ hsrc
    have hnew : Rep F R (.sl (sz E.P e) (xs ++ []) true) (a.eval x) ∧ occ (.sl (sz E.P e) (xs ++ []) true) (a.eval x) = occ (aev E st x) (a.eval x) := by
     rw [hx, List.append_nil]
     generalize a.eval x = vx at *
     cases hpx with
     | slnil => exact ⟨.slnil, by simp [occ]⟩
     | sl us hk0 hl hc hk hF hR =>
      rcases c1 with ⟨rfl, rfl⟩ | rfl
      ·exact ⟨.sl us hk0 hl hc hk hF hR, rfl⟩
      ·exact absurd hk0 (Nat.lt_irrefl 0)
    refine ⟨a.eval x, w, F, R, .inl (hexec hr), Fz.le_refl F, Rle.refl R, h.fillOwn (s := stripO x) h.mem (Fz.le_refl F) (Rle.refl R) hnew.1 ?_⟩
    rw [hnew.2]
    refine h.own.sub (Sub.append ?_ (Sub.refl _))
    exact Sub.trans (Sub.of_perm List.perm_append_comm) hmoved
   ·have hyl : 0 < ys.length := List.length_pos_iff.2 hys
    generalize hvx : a.eval x = vx at *
    cases hpx with
    | slnil =>
     exact grows none 0 0 [] [] _ rfl (by simp) rfl (by simp) .nil (by simp) (run_firstCells_none w.drew i.size 0 0 0) (by omega) (Nat.le_refl _) hroom
    | sl us hk0 hl hc hk hF hR =>
     rename_i b oo len cap
     obtain ⟨rfl, rfl⟩ : k = sz E.P e ∧ own = true := c1.resolve_right (Nat.ne_of_gt hk0)
     have hul : us.length = len * sz E.P e := by rw [hR.length, hl]; exact flat_length _ hk
     have hucell : ∀ j u, us[j]? = some u → w.cell? ((⟨b, oo, none⟩ : Addr).add j) = some u := fun j u hj => by rw [Addr.add_mid]; exact (h.mem.fz _ _ _ (hF j u hj)).1
     have hu1 : ∀ u ∈ us, u.oneCell' = true := fun u hu => by
      obtain ⟨j, hj, rfl⟩ := List.getElem_of_mem hu
      exact (h.mem.fz _ _ _ (hF j _ (List.getElem?_eq_getElem hj))).2
     by_cases hfit : len + ys.length ≤ cap
     ·have hocc : occ (aev E st x) (.slice (some ⟨b, oo, none⟩) len cap) = [⟨sz E.P e, b, oo, len, cap, none⟩] := by rw [hx]; simp [occ]
      rw [hocc] at hmoved
      have hOwn : Owned B.Pr F R w ((⟨sz E.P e, b, oo, len, cap, none⟩ : Occ) :: (occL (stripAt st.tmps (stripO x)) a.tmps.toList ++ occB w R st.blks)) := by
       refine h.own.sub ?_
       have := Sub.append (Sub.trans (Sub.of_perm (List.perm_append_comm (l₁ := [(⟨sz E.P e, b, oo, len, cap, none⟩ : Occ)]))) hmoved) (Sub.refl (occB w R st.blks))
       simpa using this
      have hq := hOwn.2 ⟨sz E.P e, b, oo, len, cap, none⟩ (by simp)
      obtain ⟨_, _, _, _, vs, T, hh, hsize⟩ := id hq
      simp only at hh hsize
      have hnl' : news.length = ys.length * sz E.P e := by rw [hnl, hsz]
      have hmul : len * sz E.P e + ys.length * sz E.P e ≤ cap * sz E.P e := by rw [← Nat.add_mul]; exact Nat.mul_le_mul_right _ hfit
      have hle : oo + len * sz E.P e + news.length ≤ vs.size := by omega
      have hMem := h.mem.put (q := ⟨sz E.P e, b, oo, len, cap, none⟩) hq hh hn1 hle
      have hr := app_room (P := E.P) w t t' o.type e i hu hi b oo len cap (a.eval y) ys.length news hsrc hfit hh (by rw [← hsz]; exact hle) hn1
      rw [← hsz] at hr
      have hple := put_le hq news
      have hrep : Rep (F.put b (oo + len * sz E.P e) news) R (.sl (sz E.P e) (xs ++ ys) true) (.slice (some ⟨b, oo, none⟩) (len + ys.length) cap) := by
       refine .sl (us ++ news) hpos (by simp [hl]) hfit (fun z hz => ?_) (fun j u hj => ?_) ?_
       ·rcases List.mem_append.1 hz with hz | hz
        ·exact hk z hz
        ·exact hnk z hz
       ·by_cases hj' : j < us.length
        ·rw [List.getElem?_append_left hj'] at hj
         exact hple _ _ _ (hF j u hj)
        ·rw [List.getElem?_append_right (by omega)] at hj
         have hj2 := (List.getElem?_eq_some_iff.1 hj).1
         unfold Fz.put
         rw [if_pos ⟨rfl, by omega, by omega⟩, ← hj]
         congr 1
         omega
       ·simpa using RepL.append (hnR.mono hple (Rle.refl _)) (hR.mono hple (Rle.refl _))
      refine ⟨_, _, _, R, .inl (hexec hr), hple, Rle.refl R, h.fillOwn (s := stripO x) hMem hple (Rle.refl R) hrep ?_⟩
      have hput := Owned.put (us := news) (n := ys.length) h.mem hh hOwn (by simpa using hnl') (by simpa using hfit) hn1
      simpa [occ, mApply] using hput
     ·exact grows (some ⟨b, oo, none⟩) len cap xs us _ rfl (by rw [← hsz]; exact hul) hl hk hR hu1 (run_firstCells_some (P := E.P) w.drew i.size len ⟨b, oo, none⟩ len cap us (by rw [← hsz]; exact hul) (by simpa using hucell)) (by omega) hc (by rw [hl]; exact hroom)
  ·simp at hap
 ·rename_i k hx
  split at hap
  ·rename_i hc
   obtain ⟨hk, hys, hroom⟩ := hc
   simp only [Option.some.injEq, Prod.mk.injEq] at hap
   obtain ⟨rfl, rfl⟩ := hap
   rw [hx] at hpx
   have hyl : 0 < ys.length := List.length_pos_iff.2 hys
   have go : ∀ base, a.eval x = .slice base 0 0 → Does E B F R a w o (app o (.sl (sz E.P e) ys true) {} st) := by
    intro base hb
    have hfc : (Builtin.firstCells i.size 0 (.slice base 0 0)).run E.P w.drew = .ok (#[] : Array Value) w.drew := by
     cases base with
     | none => exact run_firstCells_none w.drew i.size 0 0 0
     | some ad => exact run_firstCells_some (P := E.P) w.drew i.size 0 ad 0 0 [] (by simp) (by simp)
    have := grows base 0 0 [] [] none hb (by simp) rfl (by simp) .nil (by simp) hfc (by omega) (Nat.le_refl _) (by simpa using hroom)
    simpa using this
   generalize hvx : a.eval x = vx at *
   cases hpx with
   | sltnil => exact go none rfl
   | sltz _ => exact go _ rfl
   | slt us hk0 => exact absurd hk0 (by omega)
  ·cases hap
 ·rename_i kk' b off len cap hx
  rw [hx] at hpx
  split at hap
  ·rename_i cs hb
   split at hap
   ·rename_i hroom
    split at hap
    ·rename_i hc
     obtain ⟨hfit, hle⟩ := hc
     simp only [Option.some.injEq, Prod.mk.injEq] at hap
     obtain ⟨rfl, rfl⟩ := hap
     obtain ⟨c, vs, T, k1, k2, k3, k4, k5, k6, k7, k8⟩ := rs_cells h.mem hpx hb (n := 0) (by have := Nat.le_add_right off ((len + ys.length) * sz E.P e); omega)
     have hnl' : news.length = ys.length * sz E.P e := by rw [hnl, hsz]
     have hle' : off + len * sz E.P e + news.length ≤ vs.size := by rw [hnl']; rw [Nat.add_mul] at hle; omega
     have hr := app_room (P := E.P) w t t' o.type e i hu hi c off len cap (a.eval y) ys.length news hsrc hfit k4 (by rw [← hsz]; exact hle') hn1
     rw [← hsz, ← k2] at hr
     have hcl : (ys.flatMap PV.cells).length = news.length := hnR.length.symm
     refine does_put h k1 hb k4 (hexec hr) ((hnR.mono (Fz.le_refl F) (Rle.nil R)).strip) (occL_strip _ _) hn1 ?_ (.rs k1 hfit) (by simp [occ])
     rw [stripL_eq, List.length_map, hcl, hnl']
     rw [Nat.add_mul] at hle; omega
    ·simp at hap
   ·simp at hap
  ·simp at hap
 ·simp at hap
theorem zrows {e : TypeId} {z : PV} {zv : Value} (hz : ¬ sz E.P e = 0) (hzc : zv.cells.size = sz E.P e) (hzv : zeroV E.P e = some zv) (hzp : zeroP E.P e = some z) (hs : z.solid = true) : ∀ l : List Nat, RepL F R (l.map fun j => z.cells.getD (j % sz E.P e) .junk) (l.map fun j => zv.cells[j % sz E.P e]!) ∧ (∀ v ∈ l.map fun j => zv.cells[j % sz E.P e]!, v.oneCell' = true) ∧ occL (l.map fun j => z.cells.getD (j % sz E.P e) .junk) (l.map fun j => zv.cells[j % sz E.P e]!) = [] := by
  have hzr : Rep F R z zv := by
   unfold zeroP at hzp; rw [hzv] at hzp; simp at hzp; subst hzp; exact (rep_ofC zv).1
  have hzo : occ z zv = [] := by
   unfold zeroP at hzp; rw [hzv] at hzp; simp at hzp; subst hzp; exact (rep_ofC (F := F) (R := R) zv).2
  have hzcell : occL z.cells zv.cells.toList = [] := by
   have : occL z.cells zv.cells.toList = occ z zv := by
    clear hzp
    cases hzr <;> simp [PV.cells, Value.cells, occL, PV.solid, occ] at hs ⊢
    rename_i h1
    cases zv <;> simp [Value.oneCell'] at h1 <;> simp [Value.cells, occL, occ]
   rw [this, hzo]
  have hcr := hzr.cells hs
  have hlen := hcr.length
  have hpos : 0 < sz E.P e := Nat.pos_of_ne_zero hz
  have hget : ∀ j, ∃ p v, z.cells[j % sz E.P e]? = some p ∧ zv.cells[j % sz E.P e]? = some v ∧ Rep F R p v ∧ v.oneCell' = true ∧ occ p v = [] := by
   intro j
   have hj : j % sz E.P e < z.cells.length := by
    have := Nat.mod_lt j hpos
    simp at hlen; omega
   obtain ⟨v, hv, hrv⟩ := hcr.get _ _ (List.getElem?_eq_getElem hj)
   refine ⟨_, v, List.getElem?_eq_getElem hj, by simpa using hv, hrv, hzr.ones hs v (List.mem_of_getElem? hv), ?_⟩
   have hmem : ∀ (l : List PV) (m : List Value) (i : Nat) p v, l[i]? = some p → m[i]? = some v → occL l m = [] → occ p v = [] := by
    intro l
    induction l with
    | nil => intro m i p v h; simp at h
    | cons x l ih =>
     intro m i p v h h' hl
     cases m with
     | nil => simp at h'
     | cons y m =>
      simp [occL] at hl
      cases i with
      | zero => simp at h h'; subst h; subst h'; exact hl.1
      | succ i => exact ih m i p v (by simpa using h) (by simpa using h') hl.2
   exact hmem _ _ _ _ _ (List.getElem?_eq_getElem hj) hv hzcell
  intro l
  induction l with
  | nil => exact ⟨.nil, by simp, rfl⟩
  | cons j l ih =>
   obtain ⟨p, v, hp, hv, hrv, h1, h2⟩ := hget j
   have ep : z.cells.getD (j % sz E.P e) .junk = p := by simp [List.getD, hp]
   have ev : zv.cells[j % sz E.P e]! = v := by rw [getElem!_def, hv]
   simp only [List.map_cons, ep, ev]
   refine ⟨.cons hrv ih.1, fun u hu => ?_, by simp only [occL, h2, ih.2.2, List.nil_append]⟩
   rcases List.mem_cons.1 hu with rfl | hu
   ·exact h1
   ·exact ih.2.1 u hu
theorem does_clear (h : Sim E B F R st a w) {o : Oper} {x : Operand} {t e : TypeId} {b off len cap : Nat} {cs : List PV} {z : PV} (ho : o.op = .call { callee := .builtin .clear, args := #[x], argTypes := #[t] }) (hu : E.P.underlying t = some (.slice e)) (hx : aev E st x = .rs (sz E.P e) b off len cap)
  (hb : st.blks[b]? = some (.live cs)) (hzp : zeroP E.P e = some z) (hs : z.solid = true) (hz : ¬ sz E.P e = 0) (hzs : zsz E.P e = some (sz E.P e)) (hle : off + len * sz E.P e ≤ cs.length) :
  Does E B F R a w o (app o (.tuple []) { mem := .store b off ((List.range (len * sz E.P e)).map fun j => z.cells.getD (j % sz E.P e) .junk) } st) := by
 obtain ⟨i, zv, hi, hzz, hzc, hzv⟩ := zsz_spec hzs
 obtain ⟨r1, r2, r3⟩ := zrows (F := F) (R := R) hz hzc hzv hzp hs (List.range (len * sz E.P e))
 have hpx := h.eval x
 rw [hx] at hpx
 obtain ⟨c, vs, T, k1, hv, _, hh, hpl, _, _, _⟩ := rs_cells h.mem hpx hb hle
 have hzV : ∀ w, (zeroValue e).run E.P w = .ok zv w := fun w => by simp [zeroValue, typeInfo, hi, hzz]
 have hst := run_storeCells_at (P := E.P) c off T ((List.range (len * sz E.P e)).map fun j => zv.cells[j % sz E.P e]!) 0 vs w hh (by simp; omega) r2
 simp only [Nat.add_zero] at hst
 have hzl : (Builtin.zeroCells zv.cells len).toList = (List.range (len * sz E.P e)).map fun j => zv.cells[j % sz E.P e]! := by
  simp only [Builtin.zeroCells, Array.toList_map, Array.toList_range, hzc]
 have hrun : (execOp a.eval o).run E.P w = .ok (.value (.tuple #[])) (w.setRow c (vs.toList.take off ++ ((List.range (len * sz E.P e)).map fun j => zv.cells[j % sz E.P e]!) ++ vs.toList.drop (off + ((List.range (len * sz E.P e)).map fun j => zv.cells[j % sz E.P e]!).length)).toArray) := by
  have hb : (Builtin.clear_ #[t] o.type #[a.eval x]).run E.P w = .ok (.tuple #[]) (w.setRow c (vs.toList.take off ++ ((List.range (len * sz E.P e)).map fun j => zv.cells[j % sz E.P e]!) ++ vs.toList.drop (off + ((List.range (len * sz E.P e)).map fun j => zv.cells[j % sz E.P e]!).length)).toArray) := by
   rw [hv]
   cases len with
   | zero =>
    simp only [Nat.zero_mul, List.range_zero, List.map_nil, List.append_nil, List.length_nil, Nat.add_zero, List.take_append_drop, Array.toArray_toList]
    rw [setRow_self w c vs T (0, 0) hh]
    simp [Builtin.clear_, run_underlying hu]
   | succ m => simp [Builtin.clear_, run_underlying hu, hzV, hzl, hst]
  unfold execOp
  simp only [ho]
  simp [resolve, invoke, builtin, hb]
 exact does_put h k1 hb hh hrun r1 r3 r2 (by simpa using hle) (.tuple .nil) rfl
theorem outf_sound (h : Sim E B F R st a w) {ops : RI} {o : Oper} {v : PV} {e : Eff} (hq : outf E ops st o = some (v, e)) : Does E B F R a w o (app o v e st) := by
 have quiet : ∀ {v e}, (qval E st o).map (fun r => (r.strip, ({} : Eff))) = some (v, e) → Does E B F R a w o (app o v e st) := by
  intro v e hq
  obtain ⟨r, hr, he⟩ := Option.map_eq_some_iff.1 hq
  obtain ⟨rfl, rfl⟩ := Prod.mk.inj he
  obtain ⟨u, h1, h2⟩ := qval_sound h hr
  exact does_quiet h h1 h2
 unfold outf outfE at hq
 split at hq
 ·rename_i x ho
  split at hq
  ·simp at hq; obtain ⟨rfl, rfl⟩ := hq
   exact does_move h (by unfold execOp; simp only [ho]; rfl)
  ·simp at hq; obtain ⟨rfl, rfl⟩ := hq
   exact does_quiet h (u := a.eval x) (by unfold execOp; simp only [ho]; rfl) (h.eval x)
 ·rename_i x ho
  simp at hq; obtain ⟨rfl, rfl⟩ := hq
  exact does_move h (by unfold execOp; simp only [ho]; rfl)
 ·rename_i t ho
  split at hq
  ·rename_i z hz
   split at hq
   ·rename_i hs
    simp at hq; obtain ⟨rfl, rfl⟩ := hq
    obtain ⟨zv, h1, h2, h3⟩ := zeroP_run (F := F) (R := R) hz w
    refine does_new h (v := zv) t ?_ h2 hs (by rw [h3, List.append_nil]; exact Sub.refl _)
    unfold execOp
    simp only [ho, Instr.alloc, Sem.run_bind, h1, Result.andThen_ok, newVar_run, Sem.run_pure]
   ·simp at hq
  ·simp at hq
 ·rename_i t x ho
  split at hq
  ·rename_i hs
   simp at hq; obtain ⟨rfl, rfl⟩ := hq
   refine does_new h (v := a.eval x) t ?_ (h.eval x) hs (stripAt_moved h x)
   unfold execOp
   simp only [ho, Instr.box, Sem.run_bind, Result.andThen_ok, newVar_run, Sem.run_pure]
  ·simp at hq
 ·rename_i t parts ho
  obtain ⟨r, hr, he⟩ := Option.map_eq_some_iff.1 hq
  obtain ⟨rfl, rfl⟩ := Prod.mk.inj he
  obtain ⟨u, h1, h2⟩ := does_build h ho hr
  exact does_quiet h h1 h2
 ·rename_i t n parts ho
  split at hq
  ·rename_i e' hu
   split at hq
   ·rename_i hc
    obtain ⟨c1, c2, c3, c4, c5, c6⟩ := hc
    simp only [Option.some.injEq, Prod.mk.injEq] at hq; obtain ⟨rfl, rfl⟩ := hq
    exact does_buildSlice h ho hu c1 c2 c3 c4 c5 c6
   ·simp at hq
  ·simp at hq
 ·rename_i t x y ho
  split at hq
  ·rename_i b off hx
   split at hq
   ·rename_i cs hb
    split at hq
    ·rename_i hc
     obtain ⟨c1, c2, c3, c4⟩ := hc
     simp only [Option.some.injEq, Prod.mk.injEq] at hq; obtain ⟨rfl, rfl⟩ := hq
     exact does_store h ho hx hb c2 c3 c4 (info_of_sz c1)
    ·simp at hq
   ·simp at hq
  ·simp at hq
 ·rename_i t x y ho
  split at hq
  ·rename_i e' n m hu hx hy
   split at hq
   ·rename_i hc
    obtain ⟨c1, c2, c3, c4, c5⟩ := hc
    obtain ⟨d1, d2⟩ := does_makeSlice h ho hu hx hy c1 c2 c3 c4 c5
    split at hq
    ·rename_i hn
     simp only [Option.some.injEq, Prod.mk.injEq] at hq; obtain ⟨rfl, rfl⟩ := hq
     exact d1 hn.2
    ·split at hq
     ·rename_i z hz
      split at hq
      ·rename_i hs
       simp only [Option.some.injEq, Prod.mk.injEq] at hq; obtain ⟨rfl, rfl⟩ := hq
       exact d2 z hz hs
      ·simp at hq
     ·simp at hq
   ·simp at hq
  ·simp at hq
 ·rename_i args ts ho
  split at hq
  ·rename_i x y t t' ha ht
   obtain rfl : args = #[x, y] := by cases args; simp_all
   obtain rfl : ts = #[t, t'] := by cases ts; simp_all
   split at hq
   ·rename_i e' hu
    split at hq
    ·rename_i ys hrow
     split at hq
     ·rename_i hc
      exact does_append h ho hu (rowOf_nil _ hrow) hc.1 hc.2 (appP_nil _ hq)
     ·simp at hq
    ·simp at hq
   ·simp at hq
  ·simp at hq
 ·rename_i args ts ho
  split at hq
  ·rename_i x t ha ht
   obtain rfl : args = #[x] := by cases args; simp_all
   obtain rfl : ts = #[t] := by cases ts; simp_all
   split at hq
   ·rename_i e' k b off len cap hu hx
    split at hq
    ·rename_i cs hb
     split at hq
     ·rename_i z hz
      split at hq
      ·rename_i hc
       obtain ⟨c1, c2, c3, c4, c5⟩ := hc
       subst c2
       simp only [Option.some.injEq, Prod.mk.injEq] at hq; obtain ⟨rfl, rfl⟩ := hq
       exact does_clear h ho hu hx hb hz c1 c3 c4 c5
      ·simp at hq
     ·simp at hq
    ·simp at hq
   ·simp at hq
  ·simp at hq
 ·exact quiet hq
end
end Go.Ve
namespace Go.Ve
def killT (b : Option Nat) (T : List PV) : List PV := match b with
 | none => T
 | some b => T.map fun p => if p.avoid b then p else .junk
def Blk.avoid (b : Nat) : Blk → Bool
 | .live c => avoidL b c
 | .frz c => avoidL b c
 | .loop _ _ T _ _ _ => avoidL b T
 | .bld .. => true
def zOne (P : Program) (e : TypeId) : Bool := match zeroV P e with
 | some v => v.cells.toList.all (·.oneCell')
 | none => false
def padded (cs : List PV) (n : Nat) : List PV := cs ++ List.replicate (n - cs.length) .junk
def vapp (P : Program) (e : TypeId) (lo : Nat) (M : List Blk) (x : PV) (ys : List PV) : Option (Nat × Option Nat × (Nat → PV × List Blk)) := match x with
 | .sl 0 [] _ => if ¬ ys = [] ∧ roomy ys.length (byt P e) = true then some (ys.length, none, fun c => (.rs (sz P e) M.length 0 ys.length c, M ++ [.live (padded (stripL (ys.flatMap PV.cells)) (c * sz P e))])) else none
 | .rs _ b off len cap => match M[b]? with
  | some (.live cs) => if lo ≤ b ∧ off = 0 ∧ cap * sz P e ≤ cs.length ∧ avoidL b cs = true ∧ (M.set b (.live [])).all (·.avoid b) = true ∧ roomy (len + ys.length) (byt P e) = true then
    some (len + ys.length, some b, fun c => (.rs (sz P e) b 0 (len + ys.length) c, M.set b (.live (padded (cs.take (len * sz P e) ++ stripL (ys.flatMap PV.cells)) (c * sz P e))))) else none
  | _ => none
 | _ => none
def vecOp : Op → Bool
 | .call { callee := .builtin .append, .. } => true
 | .buildSlice _ _ _ => true
 | .makeSlice _ _ _ => true
 | .load _ _ => true
 | .build _ _ => true
 | .alloc _ => true
 | .box _ _ => true
 | _ => false
def vcD (E : Env) (R : RI) (d : Option Tmp) : Bool := match d with
 | some t => E.vc.contains t
 | none => false
def vcOn (E : Env) (R : RI) (d : Option Tmp) (op : Op) : Bool := vecOp op && vcD E R d
def endB : PV → PV → Option (List PV)
 | .val (.pointer none), .sl 0 [] _ => some []
 | _, _ => none
def splitB : List PV → Option (List PV)
 | [] => none
 | [_] => none
 | [x, y] => endB x y
 | x :: y :: z :: r => (splitB (y :: z :: r)).map (x.strip :: ·)
def lastT (P : Program) (t : TypeId) : Option TypeId := match P.underlying t with
 | some (.struct fs) => fs.back?.map (·.type)
 | _ => none
def bldD (P : Program) (t : TypeId) : TypeId := match lastT P t with
 | some u => match P.underlying u with
  | some (.slice e) => e
  | _ => match lastT P u with
   | some u' => match P.underlying u' with
    | some (.slice e) => e
    | _ => 0
   | none => 0
 | none => 0
def vnew (P : Program) (ev : Operand → PV) (M : List Blk) : Op → Option (PV × MEff)
 | .load t x => match ev x with
  | .ptr b off => match aggT P t, M[b]? with
   | some true, some (.live cs) => if off + sz P t ≤ cs.length then some (.agg ((cs.drop off).take (sz P t)), .store b off (stripL ((cs.drop off).take (sz P t)))) else none
   | some false, some (.live cs) => if off + 1 ≤ cs.length then some (cs.getD off .junk, .store b off (stripL ((cs.drop off).take 1))) else none
   | _, _ => none
  | _ => none
 | .buildSlice t n parts => match P.underlying t with
  | some (.slice e) => if n = 0 ∧ parts.size = 0 ∧ ¬ sz P e = 0 ∧ zsz P e = some (sz P e) then some (.rs (sz P e) M.length 0 0 0, .new []) else none
  | _ => none
 | .makeSlice t x y => match P.underlying t, ev x, ev y with
  | some (.slice e), .val (.int .i64 n), .val (.int .i64 m) =>
   if 0 ≤ n ∧ n ≤ m ∧ ¬ sz P e = 0 ∧ zsz P e = some (sz P e) ∧ roomy m.toNat (byt P e) then match zeroP P e with
    | some z => if z.solid then some (.rs (sz P e) M.length 0 n.toNat m.toNat, .new ((List.range (m.toNat * sz P e)).map fun j => z.cells.getD (j % sz P e) .junk)) else none
    | none => none
   else none
  | _, _, _ => none
 | .alloc t => match zeroP P t with
  | some z => match splitB z.cells with
   | some pre => if z.solid = true ∧ norefL pre = true then some (.ptr M.length 0, .newB t (bldD P t) pre) else none
   | none => none
  | none => none
 | .box t x => match splitB (ev x).cells with
  | some pre => if (ev x).solid = true ∧ norefL pre = true then some (.ptr M.length 0, .newB t (bldD P t) pre) else none
  | none => none
 | _ => none
def vopA (E : Env) (o : Oper) (st : St) : Option (Nat × (Nat → St)) := match o.op with
 | .call { callee := .builtin .append, args, argTypes } => match args.toList, argTypes.toList with
  | [x, y], [t, t'] => match E.P.underlying t with
   | some (.slice e) => match rowOf E.P e (E.P.underlying t') st.blks (aev E st y) with
    | some ys => if ¬ sz E.P e = 0 ∧ zsz E.P e = some (sz E.P e) ∧ zOne E.P e = true then match vapp E.P e E.lo st.blks (aev E st x) ys with
      | some (n, k, f) => some (n, fun c => (({ tmps := killT k st.tmps, blks := (f c).2 } : St).put o.dst (f c).1))
      | none => none
     else none
    | none => none
   | _ => none
  | _, _ => none
 | _ => none
def strips (T : List PV) (ts : List Tmp) : List PV := ts.foldl (fun T t => stripAt T (some t)) T
def vbld (E : Env) (o : Oper) (st : St) : Option St := match o.op with
 | .build t parts => match buildP E.P t (parts.toList.map fun p => (p.1, aev E st p.2)) with
  | some r => if (parts.toList.filterMap fun p => stripO p.2).Nodup then some (({ tmps := strips st.tmps (parts.toList.filterMap fun p => stripO p.2), blks := st.blks } : St).put o.dst r) else none
  | none => none
 | _ => none
def vop (E : Env) (o : Oper) (st : St) : Option (Nat × (Nat → St)) := match vnew E.P (aev E st) st.blks o.op with
 | some (r, m) => some (0, fun _ => app o r { mem := m } st)
 | none => match vbld E o st with
  | some s => some (0, fun _ => s)
  | none => vopA E o st
section
variable {E : Env} {B : Base} {F : Fz} {R : List Nat} {st : St} {a : Act} {w : World}
theorem kill_wk (k : Option Nat) : ∀ (T : List PV) (vs : List Value), RepL F R T vs → RepL F R (killT k T) vs ∧ Sub (occL (killT k T) vs) (occL T vs) := by
 cases k with
 | none => exact fun T vs h => ⟨h, Sub.refl _⟩
 | some b =>
  intro T
  induction T with
  | nil => intro vs h; exact ⟨h, Sub.refl _⟩
  | cons x xs ih =>
   intro vs h
   cases h with
   | cons h t =>
    obtain ⟨i1, i2⟩ := ih _ t
    simp only [killT, List.map_cons] at i1 i2 ⊢
    split
    ·exact ⟨.cons h i1, by simp only [occL]; exact Sub.append (Sub.refl _) i2⟩
    ·exact ⟨.cons .junk i1, by simp only [occL]; exact Sub.append (by rw [occ_free _ _ rfl]; exact Sub.nil _) i2⟩
theorem kill_avoid {b : Nat} : ∀ T : List PV, avoidL b (killT (some b) T) = true
 | [] => rfl
 | x :: xs => by
  have := kill_avoid (b := b) xs
  simp only [killT, List.map_cons, avoidL, Bool.and_eq_true] at this ⊢
  refine ⟨?_, this⟩
  split
  ·assumption
  ·rfl
mutual
theorem avoid_free {b : Nat} : ∀ p : PV, p.noref = true → p.avoid b = true
 | .val _, _ => rfl
 | .sl _ _ _, _ => rfl
 | .slt _ _ _, _ => rfl
 | .vptr _ _, _ => rfl
 | .junk, _ => rfl
 | .ptr _ _, h => by simp [PV.noref] at h
 | .rs _ _ _ _ _, h => by simp [PV.noref] at h
 | .iface _ v, h => avoid_free v h
 | .agg cs, h => avoidL_free cs h
 | .tuple cs, h => avoidL_free cs h
 | .func _ a c, h => by simp [PV.noref] at h; simp [PV.avoid, avoidL_free a h.1, avoidL_free c h.2]
theorem avoidL_free {b : Nat} : ∀ l : List PV, norefL l = true → avoidL b l = true
 | [], _ => rfl
 | x :: xs, h => by simp [norefL] at h; simp [avoidL, avoid_free x h.1, avoidL_free xs h.2]
end
theorem avoidL_app {b : Nat} : ∀ l m : List PV, avoidL b (l ++ m) = (avoidL b l && avoidL b m)
 | [], m => by simp [avoidL]
 | x :: xs, m => by simp [avoidL, avoidL_app xs m, Bool.and_assoc]
theorem avoidL_take {b : Nat} : ∀ {l : List PV} (n : Nat), avoidL b l = true → avoidL b (l.take n) = true
 | [], n, _ => by simp [avoidL]
 | x :: xs, 0, _ => rfl
 | x :: xs, n + 1, h => by simp [avoidL] at h; simp [avoidL, h.1, avoidL_take n h.2]
theorem avoidL_junk {b : Nat} (n : Nat) : avoidL b (List.replicate n .junk) = true := by
 induction n with
 | zero => rfl
 | succ n ih => simp [List.replicate_succ, avoidL, ih, PV.avoid]
theorem nodup_set : ∀ (R : List Nat) (b n : Nat), R.Nodup → n ∉ R → (R.set b n).Nodup
 | [], _, _, _, _ => by simp
 | x :: R, 0, n, h, hn => by
  have := List.nodup_cons.1 h
  simp only [List.set_cons_zero]
  exact List.nodup_cons.2 ⟨fun hin => hn (List.mem_cons_of_mem _ hin), this.2⟩
 | x :: R, b + 1, n, h, hn => by
  have := List.nodup_cons.1 h
  simp only [List.set_cons_succ]
  refine List.nodup_cons.2 ⟨fun hin => ?_, nodup_set R b n this.2 (fun hin => hn (List.mem_cons_of_mem _ hin))⟩
  rcases List.mem_or_eq_of_mem_set hin with h' | h'
  ·exact this.1 h'
  ·exact hn (by simp [h'])
theorem BlkOk.moved {Pr : Nat → Prop} {c i n : Nat} {b : Blk} (h : BlkOk Pr F R w c b) (hl : b.avoid i = true) : BlkOk Pr F (R.set i n) w c b := by
 cases b with
 | live cs =>
  obtain ⟨h1, h2, vs, T, h3, h4, h5⟩ := h
  exact ⟨h1, h2, vs, T, h3, h4.moved hl, h5⟩
 | frz cs =>
  obtain ⟨us, h1, h2⟩ := h
  exact ⟨us, h1.moved hl, h2⟩
 | loop =>
  obtain ⟨h1, fn, tm, d, h2, h3⟩ := h
  exact ⟨h1, fn, tm, d, h2, h3.1.moved hl, h3.2⟩
 | bld => exact h
theorem Mem.allocP {blks : List Blk} (hm : Mem E B F R blks w) {cs : List PV} {vs : List Value} (T : TypeId) (hr : RepL F R cs (vs.take cs.length)) (h1 : ∀ v ∈ vs, v.oneCell' = true) (hle : cs.length ≤ vs.length) :
  Mem E B F (R ++ [w.heap.size]) (blks ++ [.live cs]) (World.new w vs T) := by
 have h0 := hm.alloc (cs := List.replicate vs.length .junk) (vs := vs) T (by
  clear hr h1 hle
  induction vs with
  | nil => exact .nil
  | cons v vs ih => exact .cons .junk ih) h1
 have hs := h0.store (i := blks.length) (c := w.heap.size) (cs := List.replicate vs.length .junk) (cs' := cs) (vs := vs) (vs' := vs) (by rw [← hm.len]; simp) (by simp) (hr.mono (Fz.le_refl F) (Rle.append _ _)) h1 hle
 have e1 : (blks ++ [Blk.live (List.replicate vs.length .junk)]).set blks.length (.live cs) = blks ++ [Blk.live cs] := by
  rw [List.set_append_right _ _ (Nat.le_refl _)]; simp
 have e2 : (World.new w vs T).setRow w.heap.size vs.toArray = World.new w vs T := setRow_self _ _ vs.toArray T (0, 0) new_new
 rw [e1, e2] at hs
 exact hs
theorem Owned.allocP {blks : List Blk} (hm : Mem E B F R blks w) {cs : List PV} {vs : List Value} {T : TypeId} {l : List Occ} (hoc : occL cs vs = []) (h : Owned B.Pr F R w (l ++ occB w R blks)) :
  Owned B.Pr F (R ++ [w.heap.size]) (World.new w vs T) (l ++ occB (World.new w vs T) (R ++ [w.heap.size]) (blks ++ [.live cs])) :=
 Owned.alloc hm (by rw [hoc, List.append_nil]; exact h)
theorem Mem.move {blks : List Blk} (hm : Mem E B F R blks w) {b : Nat} {cs0 cs : List PV} {vs : List Value} (T : TypeId) (hb : blks[b]? = some (.live cs0)) (hlo : B.R0.length ≤ b) (hav : (blks.set b (Blk.live [])).all (·.avoid b) = true)
  (hr : RepL F R cs (vs.take cs.length)) (hac : avoidL b cs = true) (h1 : ∀ v ∈ vs, v.oneCell' = true) (hle : cs.length ≤ vs.length) :
  Mem E B F (R.set b w.heap.size) (blks.set b (.live cs)) (World.new w vs T) := by
 have hbl := (List.getElem?_eq_some_iff.1 hb).1
 have hbR : b < R.length := by rw [hm.len]; exact hbl
 have hmemR : ∀ c ∈ R.set b w.heap.size, c ∈ R ∨ c = w.heap.size := fun c hc => by
  rcases List.mem_or_eq_of_mem_set hc with h | h
  ·exact .inl h
  ·exact .inr h
 exact {
     os := hm.os, tape := hm.tape, output := hm.output, drn := hm.drn
     size := by rw [new_size]; have := hm.size; omega
     pr := fun x hx => by
      obtain ⟨h2, h3⟩ := hm.pr x hx
      exact ⟨h2, by rw [new_old (by have := hm.size; omega)]; exact h3⟩
     fz := fun x o v h => by rw [cell_congr (new_old (hm.F_lt h))]; exact hm.fz x o v h
     fnew := hm.fnew, fold := hm.fold
     rnew := fun c hc => by
      rcases hmemR c hc with h | rfl
      ·exact hm.rnew c h
      ·exact .inr hm.size
     rold := fun i c hi => by
      have h1 := hm.rold i c hi
      have h2 := (List.getElem?_eq_some_iff.1 hi).1
      rw [List.getElem?_set_ne (by omega)]; exact h1
     bound := fun c hc => by
      rw [new_size]
      rcases hmemR c hc with h | rfl
      ·have := hm.bound c h; omega
      ·omega
     glob := hm.glob
     len := by simp [hm.len]
     nd := by exact nodup_set R b _ hm.nd (fun hin => by have := hm.bound _ hin; omega)
     blk := fun i c bl hc hbl' => by
      by_cases hi : i = b
      ·subst hi
       rw [List.getElem?_set_self hbR] at hc
       rw [List.getElem?_set_self hbl] at hbl'
       simp at hc hbl'; subst hc; subst hbl'
       exact ⟨fun hp => by have := (hm.pr _ hp).1; have := hm.size; omega, fun o => hm.F_new (Nat.le_refl _), vs.toArray, T, new_new, by simpa using hr.moved hac, by simpa using h1, by simpa using hle⟩
      ·rw [List.getElem?_set_ne (Ne.symm hi)] at hc hbl'
       have h2 : bl.avoid b = true := List.all_eq_true.1 hav bl (List.mem_of_getElem? (show (blks.set b (.live []))[i]? = some bl by rw [List.getElem?_set_ne (Ne.symm hi)]; exact hbl'))
       exact ((hm.blk i c bl hc hbl').mono (Fz.le_refl F) (Rle.refl R) (fun _ h => h) (new_old (hm.bound c (List.mem_of_getElem? hc)))).moved h2
     mks := fun c hc => by
      obtain ⟨h2, h3, h4⟩ := hm.mks c hc
      have hlt := (Array.getElem?_eq_some_iff.1 h2).1
      exact ⟨by rw [new_old hlt]; exact h2, fun hin => by
       rcases hmemR c hin with h | h
       ·exact h3 h
       ·omega, h4⟩
     mnd := hm.mnd }
theorem occB_move {w w' : World} : ∀ (R : List Nat) (M : List Blk) (i n : Nat) (cs cs' : List PV), (∀ x ∈ R, R[i]? ≠ some x → w'.heap[x]? = w.heap[x]?) → R.Nodup → R.length = M.length → M[i]? = some (.live cs) →
  Sub (occL cs' (cellsW w' n)) (occL cs (match R[i]? with | some c => cellsW w c | none => [])) → Sub (occB w' (R.set i n) (M.set i (.live cs'))) (occB w R M)
 | [], [], _, _, _, _, _, _, _, h, _ => by simp at h
 | [], _ :: _, _, _, _, _, _, _, hl, _, _ => by simp at hl
 | _ :: _, [], _, _, _, _, _, _, hl, _, _ => by simp at hl
 | c :: R, b :: M, 0, n, cs, cs', h0, hn, hl, h, hs => by
  simp at h; subst h
  have hn' := List.nodup_cons.1 hn
  have e := occB_congr (w := w) (w' := w') R M (fun y hy => h0 y (by simp [hy]) (by simp; rintro rfl; exact hn'.1 hy))
  simp only [List.set_cons_zero, occB, e]
  exact Sub.append (by simpa using hs) (Sub.refl _)
 | c :: R, b :: M, i + 1, n, cs, cs', h0, hn, hl, h, hs => by
  have hn' := List.nodup_cons.1 hn
  have ih := occB_move (w := w) (w' := w') R M i n cs cs' (fun y hy hne => h0 y (by simp [hy]) (by simpa using hne)) hn'.2 (by simpa using hl) (by simpa using h) (by simpa using hs)
  have hc : (c :: R)[i + 1]? ≠ some c := by
   simp; intro e
   exact hn'.1 (List.mem_of_getElem? e)
  have hcell : cellsW w' c = cellsW w c := by simp [cellsW, h0 c (by simp) hc]
  cases b <;> simp only [List.set_cons_succ, occB, hcell]
  ·exact Sub.append (Sub.refl _) ih
  ·exact ih
  ·exact ih
  ·exact Sub.append (Sub.refl _) ih
theorem occL_take_sub : ∀ (cs : List PV) (vs : List Value) (n : Nat), Sub (occL (cs.take n) vs) (occL cs vs)
 | [], vs, n => by simp; exact Sub.refl _
 | c :: cs, [], n => by cases n <;> simp [occL] <;> exact Sub.refl _
 | c :: cs, v :: vs, 0 => by simp [occL]; exact Sub.nil _
 | c :: cs, v :: vs, n + 1 => by simp only [List.take_succ_cons, occL]; exact Sub.append (Sub.refl _) (occL_take_sub cs vs n)
theorem junk_rep {F : Fz} {R : List Nat} : ∀ (n : Nat) (vs : List Value), vs.length = n → RepL F R (List.replicate n .junk) vs ∧ occL (List.replicate n .junk) vs = [] := by
 intro n
 induction n with
 | zero =>
  intro vs h
  obtain rfl := List.length_eq_zero_iff.1 h
  exact ⟨.nil, rfl⟩
 | succ n ih =>
  intro vs h
  cases vs with
  | nil => simp at h
  | cons v vs =>
   obtain ⟨a, b⟩ := ih vs (by simpa using h)
   exact ⟨.cons .junk a, by simp [List.replicate_succ, occL, b, occ_free .junk _ rfl]⟩
theorem occL_more : ∀ (ps : List PV) (vs us : List Value), vs.length = ps.length → occL ps (vs ++ us) = occL ps vs := by
 intro ps
 induction ps with
 | nil => intro vs us h; simp [occL]
 | cons p ps ih =>
  intro vs us h
  cases vs with
  | nil => simp at h
  | cons v vs => simp [occL, ih vs us (by simpa using h)]
mutual
theorem noref_nil {F : Fz} : ∀ {R : List Nat} {p : PV} {v : Value}, R = [] → Rep F R p v → p.noref = true
 | _, _, _, _, .val _ => rfl
 | _, _, _, _, .sl _ _ _ _ _ _ _ => rfl
 | _, _, _, _, .slnil => rfl
 | _, _, _, e, .ptr h => by subst e; simp at h
 | _, _, _, _, .vptr _ _ _ => rfl
 | _, _, _, e, .rs h _ => by subst e; simp at h
 | _, _, _, _, .slt _ _ _ _ _ _ _ => rfl
 | _, _, _, _, .sltnil => rfl
 | _, _, _, _, .sltz _ => rfl
 | _, _, _, e, .func h1 h2 => by simp [PV.noref, norefL_nil e h1, norefL_nil e h2]
 | _, _, _, e, .iface h => by simp [PV.noref, noref_nil e h]
 | _, _, _, e, .agg _ h => by simp [PV.noref, norefL_nil e h]
 | _, _, _, e, .tuple h => by simp [PV.noref, norefL_nil e h]
 | _, _, _, _, .junk => rfl
theorem norefL_nil {F : Fz} : ∀ {R : List Nat} {p : List PV} {v : List Value}, R = [] → RepL F R p v → norefL p = true
 | _, _, _, _, .nil => rfl
 | _, _, _, e, .cons h t => by simp [norefL, noref_nil e h, norefL_nil e t]
end
theorem Owned.move {blks : List Blk} (hm : Mem E B F R blks w) {b c : Nat} {cs0 cs : List PV} {vs : List Value} {T : TypeId} {l l' : List Occ} (hb : blks[b]? = some (.live cs0)) (hc : R[b]? = some c)
  (h : Owned B.Pr F R w (l ++ occB w R blks)) (hl : Sub l' l) (hs : Sub (occL cs vs) (occL cs0 (cellsW w c))) :
  Owned B.Pr F (R.set b w.heap.size) (World.new w vs T) (l' ++ occB (World.new w vs T) (R.set b w.heap.size) (blks.set b (.live cs))) := by
 have hsub : Sub (l' ++ occB (World.new w vs T) (R.set b w.heap.size) (blks.set b (.live cs))) (l ++ occB w R blks) := by
  refine Sub.append hl (occB_move R blks b w.heap.size cs0 cs (fun x hx _ => new_old (hm.bound x hx)) hm.nd hm.len hb ?_)
  rw [hc]
  have e : cellsW (World.new w vs T) w.heap.size = vs := by simp [cellsW, new_new]
  rw [e]; exact hs
 refine ⟨fun x => Nat.le_trans (hsub.1 x) (h.1 x), fun q hq => ?_⟩
 have hok := h.2 q (hsub.2 q hq)
 exact hok.mono (fun hin => by
  rcases List.mem_or_eq_of_mem_set hin with h' | h'
  ·exact h'
  ·have := hok.lt; omega) (fun _ h => h) (new_old hok.lt)
theorem padded_rep {cs : List PV} {vs : List Value} {n : Nat} (h : RepL F R cs (vs.take cs.length)) (hl : cs.length ≤ n) (hn : n ≤ vs.length) : RepL F R (padded cs n) (vs.take (padded cs n).length) ∧ (padded cs n).length = n ∧ occL (padded cs n) vs = occL cs (vs.take cs.length) := by
 have hp : (padded cs n).length = n := by unfold padded; simp; omega
 have hs : vs.take n = vs.take cs.length ++ (vs.drop cs.length).take (n - cs.length) := by
  have := List.take_append_drop cs.length (vs.take n)
  rw [List.take_take, Nat.min_eq_left hl, List.drop_take] at this
  exact this.symm
 obtain ⟨j1, j2⟩ := junk_rep (F := F) (R := R) (n - cs.length) ((vs.drop cs.length).take (n - cs.length)) (by simp; omega)
 refine ⟨by rw [hp, hs]; unfold padded; exact RepL.append j1 h, hp, ?_⟩
 have e : occL (padded cs n) vs = occL (padded cs n) (vs.take n) := by
  conv => lhs; rw [← List.take_append_drop n vs]
  exact occL_more _ _ _ (by rw [hp]; simp; omega)
 rw [e, hs]
 unfold padded
 rw [occL_append _ _ _ _ (by simp; omega), j2, List.append_nil]
theorem vopA_sound (h : Sim E B F R st a w) (hlo : B.R0.length ≤ E.lo) {o : Oper} {n : Nat} {f : Nat → St} (hv : vopA E o st = some (n, f)) :
  (∀ c, o.op ≠ .defer c) ∧ ∃ c u w' R', n ≤ c ∧ (execOp a.eval o).run E.P w = .ok (.value u) w' ∧ Sim E B F R' (f c) (a.put o.dst u) w' := by
 unfold vopA at hv
 split at hv
 ·rename_i args ts ho
  refine ⟨fun c hc => (by rw [ho] at hc; cases hc), ?_⟩
  split at hv
  ·rename_i x y t t' ha ht
   obtain rfl : args = #[x, y] := by cases args; simp_all
   obtain rfl : ts = #[t, t'] := by cases ts; simp_all
   split at hv
   ·rename_i e hu
    split at hv
    ·rename_i ys hrow
     split at hv
     ·rename_i hz3
      obtain ⟨hz, hzs, hzo⟩ := hz3
      split at hv
      ·rename_i n' k f' hva
       simp only [Option.some.injEq, Prod.mk.injEq] at hv
       obtain ⟨rfl, rfl⟩ := hv
       obtain ⟨i, zv, hi, hzz, hzc, hzv⟩ := zsz_spec hzs
       have hsz : sz E.P e = i.size := by simp [sz, hi]
       have hby : byt E.P e = i.bytes := by simp [byt, hi]
       have hpos : 0 < sz E.P e := Nat.pos_of_ne_zero hz
       have hpx := h.eval x
       have hexec : ∀ {v w'}, (Builtin.append_ #[t, t'] o.type #[a.eval x, a.eval y]).run E.P w = .ok v w' → (execOp a.eval o).run E.P w = .ok (.value v) w' := by
        intro v w' hr
        unfold execOp
        simp only [ho]
        simp [resolve, invoke, builtin, hr]
       obtain ⟨news, hsrc, hnR, hnk⟩ := row_sound h hi hz hrow
       have hn1 := hsrc.one
       have hnl : news.length = ys.length * sz E.P e := by rw [hsrc.newsLen, hsz]
       have hzones : ∀ q, ∀ u ∈ (Builtin.zeroCells zv.cells q).toList, u.oneCell' = true := by
        intro q u hu
        have hall := List.all_eq_true.1 (by unfold zOne at hzo; rw [hzv] at hzo; exact hzo)
        unfold Builtin.zeroCells at hu
        simp only [Array.toList_map, List.mem_map] at hu
        obtain ⟨j, hj, rfl⟩ := hu
        simp only [Array.toList_range, List.mem_range] at hj
        have hlt : j % zv.cells.size < zv.cells.size := Nat.mod_lt _ (by rw [hzc]; exact hpos)
        rw [getElem!_pos zv.cells _ hlt]
        exact hall _ (by simp)
       have rooms : ∀ m : Nat, roomy (m + ys.length) (byt E.P e) = true → (m + ys.length) * i.bytes ≤ 274877906944 ∧ m + ys.length ≤ 274877906944 := fun m hroom => by
        have hroom' : (m + ys.length) * (i.bytes + 1) ≤ 274877906944 := by
         unfold roomy at hroom; rw [hby] at hroom; exact of_decide_eq_true hroom
        exact ⟨Nat.le_trans (Nat.mul_le_mul_left _ (Nat.le_succ _)) hroom', Nat.le_trans (Nat.le_mul_of_pos_right _ (Nat.succ_pos _)) hroom'⟩
       have hcl : (stripL (ys.flatMap PV.cells)).length = ys.length * sz E.P e := by rw [stripL_eq, List.length_map, flat_length _ hnk]
       have hnR' : ∀ R', RepL F R' (stripL (ys.flatMap PV.cells)) news := fun R' => (hnR.mono (Fz.le_refl F) (Rle.nil R')).strip
       have hnoc : ∀ us, occL (stripL (ys.flatMap PV.cells)) us = [] := fun us => occL_strip _ us
       have hnr : norefL (stripL (ys.flatMap PV.cells)) = true := norefL_nil rfl (hnR' [])
       have ks := kill_wk (F := F) (R := R) k st.tmps a.tmps.toList h.tmps
       have grown : ∀ (base : Option Addr) (len cap : Nat) (us : List Value), a.eval x = .slice base len cap → us.length = len * i.size →
         (Builtin.firstCells i.size len (.slice base len cap)).run E.P w.drew = .ok us.toArray w.drew → cap < len + ys.length → len ≤ cap → roomy (len + ys.length) (byt E.P e) = true →
         ∃ c rest, len + ys.length ≤ c ∧ rest.length = c * sz E.P e - (len + ys.length) * sz E.P e ∧ (∀ u ∈ rest, u.oneCell' = true) ∧
          (execOp a.eval o).run E.P w = .ok (.value (.slice (some ⟨w.heap.size, 0, none⟩) (len + ys.length) c)) (World.new { w with drawn := w.drawn + 1 } (us ++ news ++ rest) e) := by
        intro base len cap us ex hul hold hgt hlc hroom
        obtain ⟨hmb, hm1⟩ := rooms _ hroom
        have hfitb : Builtin.nextslicecap (len + ys.length) cap * i.bytes ≤ 281474976710656 := growslice_fits (by omega) (by omega)
        have hr := run_append_grow_src (P := E.P) w t t' o.type e i zv hu hi hzz base len cap us hold (a.eval y) ys.length news hsrc hgt (by omega) hfitb
        rw [← ex] at hr
        have hw : w.drew.alloc (.cells ((us ++ news).toArray ++ Builtin.zeroCells zv.cells (grownCap w (len + ys.length) cap e - (len + ys.length))) e) = World.new { w with drawn := w.drawn + 1 } (us ++ news ++ (Builtin.zeroCells zv.cells (grownCap w (len + ys.length) cap e - (len + ys.length))).toList) e := by
         unfold World.new World.drew; congr 2; apply Array.ext'; simp
        rw [hw] at hr
        refine ⟨grownCap w (len + ys.length) cap e, _, grownCap_ge w _ cap e, ?_, hzones _, hexec hr⟩
        rw [Array.length_toList, size_zeroCells, hzc, Nat.sub_mul]
       unfold vapp at hva
       split at hva
       ·rename_i own hx
        rw [hx] at hpx
        split at hva
        ·rename_i hc
         obtain ⟨hys, hroom⟩ := hc
         simp only [Option.some.injEq, Prod.mk.injEq] at hva
         obtain ⟨rfl, rfl, rfl⟩ := hva
         have hyl : 0 < ys.length := List.length_pos_iff.2 hys
         have hnil : a.eval x = .slice none 0 0 := by
          generalize a.eval x = vx at *
          cases hpx with
          | slnil => rfl
          | sl us hk0 => exact absurd hk0 (Nat.lt_irrefl 0)
         obtain ⟨c, rest, g1, g2, g3, g4⟩ := grown none 0 0 [] hnil (by simp) (run_firstCells_none w.drew i.size 0 0 0) (by omega) (Nat.le_refl _) (by simpa using hroom)
         simp only [Nat.zero_add, List.nil_append] at g1 g2 g4
         have hmul := Nat.mul_le_mul_right (sz E.P e) g1
         have hm1 := h.mem.draw
         obtain ⟨p1, p2, p3⟩ := padded_rep (F := F) (R := R) (cs := stripL (ys.flatMap PV.cells)) (vs := news ++ rest) (n := c * sz E.P e) (by rw [hcl, ← hnl, List.take_left]; exact hnR' R) (by rw [hcl]; exact hmul) (by simp; omega)
         have hal := hm1.allocP (cs := padded (stripL (ys.flatMap PV.cells)) (c * sz E.P e)) (vs := news ++ rest) e p1 (fun u hu => by
          rcases List.mem_append.1 hu with hu | hu
          ·exact hn1 u hu
          ·exact g3 u hu) (by rw [p2]; simp; omega)
         have hol := Owned.allocP (T := e) (cs := padded (stripL (ys.flatMap PV.cells)) (c * sz E.P e)) hm1 (vs := news ++ rest) (by rw [p3]; exact hnoc _) h.own.draw
         have hsim : Sim E B F (R ++ [w.heap.size]) ⟨st.tmps, st.blks ++ [.live (padded (stripL (ys.flatMap PV.cells)) (c * sz E.P e))]⟩ a (World.new { w with drawn := w.drawn + 1 } (news ++ rest) e) := ⟨hal, h.tmps.mono (Fz.le_refl F) (Rle.append _ _), h.defers, hol⟩
         have := hsim.fill (s := none) (d := o.dst) (r := .rs (sz E.P e) st.blks.length 0 ys.length c) (v := .slice (some ⟨w.heap.size, 0, none⟩) ys.length c) hal (Fz.le_refl F) (Rle.refl _) (.rs (by rw [← h.mem.len]; simp) g1) (by simp [occ]) (by simpa [stripAt] using hol)
         exact ⟨c, _, _, _, g1, g4, this⟩
        ·cases hva
       ·rename_i kk b off len cap hx
        rw [hx] at hpx
        split at hva
        ·rename_i cs hb
         split at hva
         ·rename_i hc
          obtain ⟨c1, rfl, c3, c4, c5, c6⟩ := hc
          simp only [Option.some.injEq, Prod.mk.injEq] at hva
          obtain ⟨rfl, rfl, rfl⟩ := hva
          have hlc : len ≤ cap := by
           generalize a.eval x = vx at *
           cases hpx with
           | rs hR hcap => exact hcap
          have hml := Nat.mul_le_mul_right (sz E.P e) hlc
          obtain ⟨c, vs, T, k1, k2, k3, k4, k5, k6, k7, k8⟩ := rs_cells h.mem hpx hb (n := len * sz E.P e) (by omega)
          obtain ⟨hnp, hF0, vs', T', hh', hrep, hone, hpl⟩ := h.mem.blk b c _ k1 hb
          obtain ⟨rfl, rfl⟩ : vs = vs' ∧ T = T' := by rw [k4] at hh'; simpa using hh'
          simp only [List.drop_zero, Nat.zero_add] at k6 k8
          have hbl := (List.getElem?_eq_some_iff.1 hb).1
          have hcells : cellsW w c = vs.toList := by simp [cellsW, k4]
          have hcsl : (cs.take (len * sz E.P e) ++ stripL (ys.flatMap PV.cells)).length = (len + ys.length) * sz E.P e := by simp [hcl, Nat.add_mul]; omega
          have hac : ∀ n, avoidL b (padded (cs.take (len * sz E.P e) ++ stripL (ys.flatMap PV.cells)) n) = true := fun n => by
           unfold padded
           rw [avoidL_app, avoidL_app, avoidL_take _ c4, avoidL_free _ hnr, avoidL_junk]; rfl
          have hus : (vs.toList.take (len * sz E.P e)).length = len * sz E.P e := by simp; omega
          have h0 : ∀ rest : List Value, RepL F R (cs.take (len * sz E.P e) ++ stripL (ys.flatMap PV.cells)) ((vs.toList.take (len * sz E.P e) ++ news ++ rest).take (cs.take (len * sz E.P e) ++ stripL (ys.flatMap PV.cells)).length) := fun rest => by
           rw [List.take_left' (by rw [hcsl, List.length_append, hus, hnl, Nat.add_mul])]
           refine RepL.append (hnR' R) ?_
           have := hrep.take (len * sz E.P e)
           rwa [List.take_take, Nat.min_eq_left (by omega)] at this
          have hocc : ∀ rest : List Value, Sub (occL (cs.take (len * sz E.P e) ++ stripL (ys.flatMap PV.cells)) ((vs.toList.take (len * sz E.P e) ++ news ++ rest).take (cs.take (len * sz E.P e) ++ stripL (ys.flatMap PV.cells)).length)) (occL cs (cellsW w c)) := fun rest => by
           rw [List.take_left' (by rw [hcsl, List.length_append, hus, hnl, Nat.add_mul]), hcells, occL_append _ _ _ _ (by rw [hus]; simp; omega), hnoc, List.append_nil]
           have e2 : occL (cs.take (len * sz E.P e)) vs.toList = occL (cs.take (len * sz E.P e)) (vs.toList.take (len * sz E.P e)) := by
            conv => lhs; rw [← List.take_append_drop (len * sz E.P e) vs.toList]
            exact occL_more _ _ _ (by rw [hus, List.length_take, Nat.min_eq_left (by omega)])
           rw [← e2]
           exact occL_take_sub _ _ _
          have hnewone : ∀ rest : List Value, (∀ u ∈ rest, u.oneCell' = true) → ∀ u ∈ vs.toList.take (len * sz E.P e) ++ news ++ rest, u.oneCell' = true := fun rest hrest u hu => by
           simp only [List.mem_append] at hu
           rcases hu with (hu | hu) | hu
           ·exact hone u (List.mem_of_mem_take hu)
           ·exact hn1 u hu
           ·exact hrest u hu
          have hnewlen : ∀ rest : List Value, (vs.toList.take (len * sz E.P e) ++ news ++ rest).length = (len + ys.length) * sz E.P e + rest.length := fun rest => by
           rw [List.length_append, List.length_append, hus, hnl, Nat.add_mul]
          by_cases hfit : len + ys.length ≤ cap
          ·have hmf := Nat.mul_le_mul_right (sz E.P e) hfit
           have hle' : 0 + len * i.size + news.length ≤ vs.size := by rw [hnl, ← hsz]; rw [Nat.add_mul] at hmf; omega
           have hr := app_room (P := E.P) w t t' o.type e i hu hi c 0 len cap (a.eval y) ys.length news hsrc hfit k4 hle' hn1
           rw [← hsz, ← k2, Nat.zero_add] at hr
           have hrl : (vs.toList.drop (len * sz E.P e + news.length)).length = vs.size - (len + ys.length) * sz E.P e := by
            rw [List.length_drop, hnl, Array.length_toList, Nat.add_mul]
           have hnl2 := hnewlen (vs.toList.drop (len * sz E.P e + news.length))
           have hn1' := hnewone (vs.toList.drop (len * sz E.P e + news.length)) (fun u hu => hone u (List.mem_of_mem_drop hu))
           have hh0 := h0 (vs.toList.drop (len * sz E.P e + news.length))
           have hh1 := hocc (vs.toList.drop (len * sz E.P e + news.length))
           generalize vs.toList.take (len * sz E.P e) ++ news ++ vs.toList.drop (len * sz E.P e + news.length) = row at hr hnl2 hn1' hh0 hh1
           have hrowl : cap * sz E.P e ≤ row.length := by rw [hnl2, hrl]; omega
           obtain ⟨p1, p2, p3⟩ := padded_rep (n := cap * sz E.P e) hh0 (by rw [hcsl]; exact hmf) hrowl
           have hmem := h.mem.store (vs := row) k1 hb p1 hn1' (by rw [p2]; exact hrowl)
           have hown := Owned.store h.mem k1 hb (vs' := row) (l := occL st.tmps a.tmps.toList) (l' := occL (killT (some b) st.tmps) a.tmps.toList) h.own (Sub.append ks.2 (by rw [p3]; exact hh1))
           have hsim : Sim E B F R ⟨killT (some b) st.tmps, _⟩ a _ := ⟨hmem, ks.1, h.defers, hown⟩
           have := hsim.fill (s := none) (d := o.dst) (r := .rs (sz E.P e) b 0 (len + ys.length) cap) (v := .slice (some ⟨c, 0, none⟩) (len + ys.length) cap) hmem (Fz.le_refl F) (Rle.refl _) (.rs k1 hfit) (by simp [occ]) (by simpa [stripAt] using hown)
           exact ⟨cap, _, _, _, hfit, hexec hr, this⟩
          ·obtain ⟨c', rest, g1, g2, g3, g4⟩ := grown (some ⟨c, 0, none⟩) len cap (vs.toList.take (len * sz E.P e)) k2 (by rw [hus, hsz]) (run_firstCells_some (P := E.P) w.drew i.size len ⟨c, 0, none⟩ len cap _ (by rw [hus, hsz]) (fun j u hj => by
             rw [Addr.add_mid]; have := k8 j u hj; simpa using this)) (by omega) hlc c6
           have hmf := Nat.mul_le_mul_right (sz E.P e) g1
           have hm1 := h.mem.draw
           have hnl2 := hnewlen rest
           have hn1' := hnewone rest g3
           have hh0 := h0 rest
           have hh1 := hocc rest
           generalize vs.toList.take (len * sz E.P e) ++ news ++ rest = row at g4 hnl2 hn1' hh0 hh1
           have hrowl : c' * sz E.P e ≤ row.length := by rw [hnl2, g2]; omega
           obtain ⟨p1, p2, p3⟩ := padded_rep (n := c' * sz E.P e) hh0 (by rw [hcsl]; exact hmf) hrowl
           have hmem := hm1.move (vs := row) e hb (Nat.le_trans hlo c1) c5 p1 (hac _) hn1' (by rw [p2]; exact hrowl)
           have hown := Owned.move hm1 (vs := row) (T := e) (l := occL st.tmps a.tmps.toList) (l' := occL (killT (some b) st.tmps) a.tmps.toList) hb k1 h.own.draw ks.2 (by rw [p3]; exact hh1)
           have hsim : Sim E B F (R.set b w.heap.size) ⟨killT (some b) st.tmps, _⟩ a _ := ⟨hmem, ks.1.moved (kill_avoid _), h.defers, hown⟩
           have := hsim.fill (s := none) (d := o.dst) (r := .rs (sz E.P e) b 0 (len + ys.length) c') (v := .slice (some ⟨w.heap.size, 0, none⟩) (len + ys.length) c') hmem (Fz.le_refl F) (Rle.refl _) (.rs (by rw [List.getElem?_set_self]; rw [h.mem.len]; exact hbl) g1) (by simp [occ]) (by simpa [stripAt] using hown)
           exact ⟨c', _, _, _, g1, g4, this⟩
         ·cases hva
        ·cases hva
       ·cases hva
      ·cases hv
     ·cases hv
    ·cases hv
   ·cases hv
  ·cases hv
 ·cases hv
theorem occL_upto (ps : List PV) (vs : List Value) : occL ps (vs.take ps.length) = occL ps vs := by
 by_cases hl : ps.length ≤ vs.length
 ·conv => rhs; rw [← List.take_append_drop ps.length vs]
  exact (occL_more _ _ _ (by simp; omega)).symm
 ·rw [List.take_of_length_le (by omega)]
theorem does_loadm (h : Sim E B F R st a w) {o : Oper} {t : TypeId} {x : Operand} {b off n : Nat} {cs : List PV} {r : PV} (ho : o.op = .load t x) (hx : aev E st x = .ptr b off) (hb : st.blks[b]? = some (.live cs)) (hle : off + n ≤ cs.length)
  (hr : (aggT E.P t = some true ∧ n = sz E.P t ∧ r = .agg ((cs.drop off).take n)) ∨ (aggT E.P t = some false ∧ n = 1 ∧ r = cs.getD off .junk)) :
  Does E B F R a w o (app o r { mem := .store b off (stripL ((cs.drop off).take n)) } st) := by
 have hpx := h.eval x
 rw [hx] at hpx
 generalize hxv : a.eval x = ax at *
 cases hpx with
 | ptr hc =>
  rename_i c
  obtain ⟨hnp, hF0, vs, T, hh, hrep, hone, hpl⟩ := h.mem.blk b c _ hc hb
  have hmidl : ((cs.drop off).take n).length = n := by simp; omega
  have husl : ((vs.toList.drop off).take n).length = n := by simp; omega
  have hmid : RepL F R ((cs.drop off).take n) ((vs.toList.drop off).take n) := by
   have := (hrep.drop off).take n
   rwa [pre_take hle] at this
  have hcell : ∀ (j : Nat) u, ((vs.toList.drop off).take n)[j]? = some u → w.cell? ⟨c, off + j, none⟩ = some u := fun j u hj => by
   rw [List.getElem?_take] at hj
   split at hj
   ·rw [List.getElem?_drop] at hj
    simp [World.cell?, hh]
    simpa using hj
   ·simp at hj
  have hu1 : ∀ u ∈ (vs.toList.drop off).take n, u.oneCell' = true := fun u hu => hone u (List.mem_of_mem_drop (List.mem_of_mem_take hu))
  have key : ∃ u, (Instr.loadAt t (.pointer (some ⟨c, off, none⟩))).run E.P w = .ok u w ∧ Rep F R r u ∧ occ r u = occL ((cs.drop off).take n) ((vs.toList.drop off).take n) := by
   rcases hr with ⟨ha, rfl, rfl⟩ | ⟨ha, rfl, rfl⟩
   ·obtain ⟨d, hd⟩ := underlying_of_aggT ha
    obtain ⟨ti, hti⟩ := info_of_underlying hd
    have hlc := run_loadCells_list (P := E.P) w ⟨c, off, none⟩ ((vs.toList.drop off).take (sz E.P t)) (fun j v hv => by rw [Addr.add_mid]; exact hcell j v hv)
    rw [husl] at hlc
    refine ⟨.agg ((vs.toList.drop off).take (sz E.P t)).toArray, ?_, .agg (by simpa using hu1) (by simpa using hmid), by simp [occ]⟩
    simp [Instr.loadAt, Instr.sureAddr, loadVar, aggT_run ha, sz_run hti, hlc]
   ·have e1 : (cs.drop off).take 1 = [cs.getD off .junk] := by
     have hlt : off < cs.length := hle
     have e := List.drop_eq_getElem_cons hlt
     rw [e]
     simp [List.getD, hlt, -List.getElem_cons_drop]
    rw [e1] at hmid ⊢
    generalize (vs.toList.drop off).take 1 = us at *
    cases hmid with
    | cons h1 ht =>
     rename_i u us'
     refine ⟨u, ?_, h1, ?_⟩
     ·have := hcell 0 u rfl
      simp only [Nat.add_zero] at this
      simp [Instr.loadAt, Instr.sureAddr, loadVar, aggT_run ha, this]
     ·cases ht; simp [occL]
  obtain ⟨u, hrun, hru, hocu⟩ := key
  have hrun' : (execOp a.eval o).run E.P w = .ok (.value u) w := by
   unfold execOp
   simp only [ho, hxv, Sem.run_bind, hrun, Result.andThen_ok, Sem.run_pure]
  have hself : w.setRow c vs.toList.toArray = w := by
   have := setRow_self w c vs T (0, 0) hh
   simpa using this
  have hspl := splice_rep (off := off) hrep hmid.strip (by rw [stripL_eq, List.length_map, hmidl]; exact hle) (by simpa using hpl)
  have hrow : vs.toList.take off ++ (vs.toList.drop off).take n ++ vs.toList.drop (off + ((vs.toList.drop off).take n).length) = vs.toList := by
   rw [husl, List.append_assoc, ← List.drop_drop, List.take_append_drop, List.take_append_drop]
  rw [hrow] at hspl
  have hsl : (splice cs off (stripL ((cs.drop off).take n))).length = cs.length := splice_length (by rw [stripL_eq, List.length_map, hmidl]; exact hle)
  have hmem := h.mem.store (vs := vs.toList) (vs' := vs.toList) hc hb hspl hone (by rw [hsl]; simpa using hpl)
  have hcw : cellsW w c = vs.toList := by simp [cellsW, hh]
  have hown := Owned.store h.mem hc hb (cs' := splice cs off (stripL ((cs.drop off).take n))) (vs' := vs.toList) (l := occL st.tmps a.tmps.toList) (l' := occ r u ++ occL st.tmps a.tmps.toList) h.own (by
   rw [hcw, hocu]
   have e1 : occL cs vs.toList = occL (cs.take off) (vs.toList.take off) ++ (occL ((cs.drop off).take n) ((vs.toList.drop off).take n) ++ occL (cs.drop (off + n)) (vs.toList.drop (off + n))) := by
    rw [← occL_upto cs]
    have hcs : cs = cs.take off ++ ((cs.drop off).take n ++ cs.drop (off + n)) := by rw [← List.drop_drop, List.take_append_drop, List.take_append_drop]
    have hvs : vs.toList.take cs.length = vs.toList.take off ++ ((vs.toList.drop off).take n ++ (vs.toList.drop (off + n)).take (cs.length - (off + n))) := by
     have := List.take_append_drop off (vs.toList.take cs.length)
     rw [List.take_take, Nat.min_eq_left (by omega)] at this
     rw [← this]
     congr 1
     have h2 := List.take_append_drop n ((vs.toList.take cs.length).drop off)
     rw [← h2, pre_take hle]
     congr 1
     rw [List.drop_drop, List.drop_take]
    have hdl : (cs.drop (off + n)).length = cs.length - (off + n) := by simp
    rw [hvs, ← hdl]
    have hofl : (vs.toList.take off).length = (cs.take off).length := by simp; omega
    have goal : occL (cs.take off ++ ((cs.drop off).take n ++ cs.drop (off + n))) (vs.toList.take off ++ ((vs.toList.drop off).take n ++ (vs.toList.drop (off + n)).take (cs.drop (off + n)).length)) = occL (cs.take off) (vs.toList.take off) ++ (occL ((cs.drop off).take n) ((vs.toList.drop off).take n) ++ occL (cs.drop (off + n)) (vs.toList.drop (off + n))) := by
     rw [occL_append _ _ _ _ hofl, occL_append _ _ _ _ (by rw [hmidl, husl]), occL_upto]
    rw [← goal, ← hcs]
   have e2 : occL (splice cs off (stripL ((cs.drop off).take n))) vs.toList = occL (cs.take off) (vs.toList.take off) ++ occL (cs.drop (off + n)) (vs.toList.drop (off + n)) := by
    conv => lhs; rw [← hrow]
    unfold splice
    have hl : (stripL ((cs.drop off).take n)).length = n := by rw [stripL_eq, List.length_map, hmidl]
    rw [hl, husl, occL_append _ _ _ _ (by simp [hl]; omega), occL_append _ _ _ _ (by simp; omega), occL_strip, List.append_nil]
   rw [e1, e2]
   refine ⟨fun q => ?_, fun q hq => ?_⟩
   ·simp only [cnt_append]; omega
   ·simp only [List.mem_append] at hq ⊢
    rcases hq with (hq | hq) | hq | hq <;> simp [hq])
  rw [hself] at hmem hown
  have hma : mApply (.store b off (stripL ((cs.drop off).take n))) st.blks = st.blks.set b (.live (splice cs off (stripL ((cs.drop off).take n)))) := by simp [mApply, hb]
  refine ⟨u, w, F, R, .inl hrun', Fz.le_refl F, Rle.refl R, ?_⟩
  unfold app
  rw [hma]
  exact h.fillOwn (s := none) hmem (Fz.le_refl F) (Rle.refl R) hru (by simpa [stripAt] using hown)
theorem splitB_rep {F : Fz} {R : List Nat} : ∀ {cs pre : List PV} {us : List Value}, splitB cs = some pre → RepL F R cs us → ∃ vs, us = vs ++ [.pointer none, .slice none 0 0] ∧ RepL F R pre vs
 | [], _, _, h, _ => by cases h
 | [_], _, _, h, _ => by cases h
 | [x, y], pre, _, h, .cons h1 (.cons h2 .nil) => by
  simp only [splitB] at h
  unfold endB at h
  split at h
  ·injection h with h; subst h
   cases h1 with
   | val _ =>
    cases h2 with
    | slnil => exact ⟨[], rfl, .nil⟩
    | sl us hk0 => exact absurd hk0 (Nat.lt_irrefl 0)
  ·cases h
 | x :: y :: z :: r, pre, _, h, .cons h1 t => by
  simp only [splitB, Option.map_eq_some_iff] at h
  obtain ⟨p, hp, rfl⟩ := h
  obtain ⟨vs, e, hr⟩ := splitB_rep hp t
  exact ⟨_ :: vs, by rw [e]; rfl, .cons h1.strip hr⟩
theorem Mem.swap {blks : List Blk} (hm : Mem E B F R blks w) {i c : Nat} {b' : Blk} (hc : R[i]? = some c) (ok : BlkOk B.Pr F R w c b') : Mem E B F R (blks.set i b') w :=
 {
  os := hm.os, tape := hm.tape, output := hm.output, drn := hm.drn, size := hm.size, pr := hm.pr, fz := hm.fz, fnew := hm.fnew, fold := hm.fold, rnew := hm.rnew, rold := hm.rold, mks := hm.mks, mnd := hm.mnd, bound := hm.bound, glob := hm.glob, len := by simp [hm.len], nd := hm.nd,
  blk := fun j d b h h' => by
   by_cases e : i = j
   ·subst e
    rw [hc] at h
    obtain rfl := Option.some.inj h
    rw [List.getElem?_set] at h'
    simp at h'
    rw [← h'.2]; exact ok
   ·rw [List.getElem?_set_ne e] at h'
    exact hm.blk j d b h h' }
theorem does_newB (h : Sim E B F R st a w) {o : Oper} {T e : TypeId} {pre : List PV} {vs : List Value} (hrun : (execOp a.eval o).run E.P w = .ok (.value (.pointer (some ⟨w.heap.size, 0, none⟩))) (World.new w (vs ++ [.pointer none, .slice none 0 0]) T))
  (hr : RepL F [] pre vs) (h1 : ∀ v ∈ vs, v.oneCell' = true) : Does E B F R a w o (app o (.ptr st.blks.length 0) { mem := .newB T e pre } st) := by
 have hR : R.length = st.blks.length := h.mem.len
 have hj : RepL F R (List.replicate (vs ++ [Value.pointer none, .slice none 0 0]).length .junk) (vs ++ [.pointer none, .slice none 0 0]) := (junk_rep _ _ rfl).1
 have h1' : ∀ v ∈ vs ++ [Value.pointer none, .slice none 0 0], v.oneCell' = true := fun v hv => by
  simp only [List.mem_append, List.mem_cons, List.not_mem_nil, or_false] at hv
  rcases hv with hv | rfl | rfl
  ·exact h1 v hv
  ·rfl
  ·rfl
 have hm0 := h.mem.alloc T hj h1'
 have hc : (R ++ [w.heap.size])[st.blks.length]? = some w.heap.size := by rw [← hR]; simp
 have hfr : ∀ o, F w.heap.size o = none := fun o => h.mem.F_new (Nat.le_refl _)
 have hm := hm0.swap (b' := .bld T e pre ⟨#[]⟩) hc ⟨fun hp => by have := (h.mem.pr _ hp).1; have := h.mem.size; omega, hfr, vs, .pointer none, .slice none 0 0, new_new, hr, h1, .inl rfl, .inl ⟨rfl, rfl⟩⟩
 have hset : (st.blks ++ [Blk.live (List.replicate (vs ++ [Value.pointer none, .slice none 0 0]).length .junk)]).set st.blks.length (.bld T e pre ⟨#[]⟩) = st.blks ++ [.bld T e pre ⟨#[]⟩] := by
  rw [List.set_append_right _ _ (Nat.le_refl _)]; simp
 rw [hset] at hm
 refine ⟨_, _, F, R ++ [w.heap.size], .inl hrun, Fz.le_refl F, Rle.append _ _, h.fill (s := none) hm (Fz.le_refl F) (Rle.append _ _) (.ptr hc) (by simp [occ]) ?_⟩
 have ho := Owned.alloc (T := T) h.mem (cs := List.replicate (vs ++ [Value.pointer none, .slice none 0 0]).length .junk) (vs := vs ++ [.pointer none, .slice none 0 0]) (l := occL st.tmps a.tmps.toList) (by rw [(junk_rep (F := F) (R := R) _ _ rfl).2, List.append_nil]; exact h.own)
 have e1 : occB (World.new w (vs ++ [.pointer none, .slice none 0 0]) T) (R ++ [w.heap.size]) (st.blks ++ [Blk.live (List.replicate (vs ++ [Value.pointer none, .slice none 0 0]).length .junk)]) = occB (World.new w (vs ++ [.pointer none, .slice none 0 0]) T) (R ++ [w.heap.size]) (st.blks ++ [.bld T e pre ⟨#[]⟩]) := by
  rw [occB_append _ _ _ _ hR, occB_append _ _ _ _ hR]
  congr 1
  have hl := hr.length
  simp [occB, cellsW, new_new, hl.symm, bldRow]
  exact (junk_rep (F := F) (R := R) (vs.length + 2) (vs ++ [Value.pointer none, .slice none 0 0]) (by simp)).2
 rw [e1] at ho
 exact ho
theorem vnew_sound (h : Sim E B F R st a w) {o : Oper} {r : PV} {m : MEff} (hv : vnew E.P (aev E st) st.blks o.op = some (r, m)) : (∀ c, o.op ≠ .defer c) ∧ Does E B F R a w o (app o r { mem := m } st) := by
 unfold vnew at hv
 split at hv
 ·rename_i t x ho
  refine ⟨fun c hc => (by rw [ho] at hc; cases hc), ?_⟩
  split at hv
  ·rename_i b off hx
   split at hv
   ·rename_i cs ha hb
    split at hv
    ·rename_i hle
     simp only [Option.some.injEq, Prod.mk.injEq] at hv
     obtain ⟨rfl, rfl⟩ := hv
     exact does_loadm h ho hx hb hle (.inl ⟨ha, rfl, rfl⟩)
    ·cases hv
   ·rename_i cs ha hb
    split at hv
    ·rename_i hle
     simp only [Option.some.injEq, Prod.mk.injEq] at hv
     obtain ⟨rfl, rfl⟩ := hv
     exact does_loadm h ho hx hb hle (.inr ⟨ha, rfl, rfl⟩)
    ·cases hv
   ·cases hv
  ·cases hv
 ·rename_i t n parts ho
  refine ⟨fun c hc => (by rw [ho] at hc; cases hc), ?_⟩
  split at hv
  ·rename_i e hu
   split at hv
   ·rename_i hc
    obtain ⟨rfl, hp, hz, hzs⟩ := hc
    simp only [Option.some.injEq, Prod.mk.injEq] at hv
    obtain ⟨rfl, rfl⟩ := hv
    obtain rfl : parts = #[] := Array.size_eq_zero_iff.1 hp
    obtain ⟨i, z, hi, hzz, hzc, _⟩ := zsz_spec hzs
    refine does_block h (vs := []) e (u := .slice (some ⟨w.heap.size, 0, none⟩) 0 0) ?_ .nil (by simp) (by simp [occL]) (.rs (by rw [← h.mem.len]; simp) (Nat.le_refl _)) (by simp [occ])
    unfold execOp
    simp only [ho]
    have hrun : (Instr.buildSlice t 0 (#[].map fun (i, x) => (i, a.eval x))).run E.P w = .ok (.slice (some ⟨w.heap.size, 0, none⟩) 0 0) (World.new w [] e) := by
     unfold Instr.buildSlice
     rw [Sem.run_bind, run_underlying hu, Result.andThen_ok]
     simp only
     rw [Sem.run_bind, sz_run hi, Result.andThen_ok]
     simp [Instr.fill, newRow, World.new, show (Array.range 0) = #[] from Array.size_eq_zero_iff.1 (by simp)]
    simp only [Sem.run_bind, hrun, Result.andThen_ok, Sem.run_pure]
   ·cases hv
  ·cases hv
 ·rename_i t x y ho
  refine ⟨fun c hc => (by rw [ho] at hc; cases hc), ?_⟩
  split at hv
  ·rename_i e n m hu hx hy
   split at hv
   ·rename_i hc
    obtain ⟨c1, c2, c3, c4, c5⟩ := hc
    split at hv
    ·rename_i z hz
     split at hv
     ·rename_i hs
      simp only [Option.some.injEq, Prod.mk.injEq] at hv
      obtain ⟨rfl, rfl⟩ := hv
      exact (does_makeSlice h ho hu hx hy c1 c2 c3 c4 c5).2 z hz hs
     ·cases hv
    ·cases hv
   ·cases hv
  ·cases hv
 ·rename_i t ho
  refine ⟨fun c hc => (by rw [ho] at hc; cases hc), ?_⟩
  split at hv
  ·rename_i z hz
   split at hv
   ·rename_i pre hs
    split at hv
    ·rename_i hc
     simp only [Option.some.injEq, Prod.mk.injEq] at hv
     obtain ⟨rfl, rfl⟩ := hv
     obtain ⟨zv, g1, g2, _⟩ := zeroP_run (F := F) (R := R) hz w
     obtain ⟨vs, e, hr⟩ := splitB_rep hs (g2.cells hc.1)
     have hone := g2.ones hc.1
     rw [e] at hone
     refine does_newB h (vs := vs) ?_ (hr.of_noref hc.2) (fun v hv => hone v (List.mem_append_left _ hv))
     rw [← e]
     unfold execOp
     simp only [ho, Instr.alloc, Sem.run_bind, g1, Result.andThen_ok, newVar_run, Sem.run_pure]
    ·cases hv
   ·cases hv
  ·cases hv
 ·rename_i t x ho
  refine ⟨fun c hc => (by rw [ho] at hc; cases hc), ?_⟩
  split at hv
  ·rename_i pre hs
   split at hv
   ·rename_i hc
    simp only [Option.some.injEq, Prod.mk.injEq] at hv
    obtain ⟨rfl, rfl⟩ := hv
    obtain ⟨vs, e, hr⟩ := splitB_rep hs ((h.eval x).cells hc.1)
    have hone := (h.eval x).ones hc.1
    rw [e] at hone
    refine does_newB h (vs := vs) ?_ (hr.of_noref hc.2) (fun v hv => hone v (List.mem_append_left _ hv))
    rw [← e]
    unfold execOp
    simp only [ho, Instr.box, Sem.run_bind, Result.andThen_ok, newVar_run, Sem.run_pure]
   ·cases hv
  ·cases hv
 ·cases hv
theorem Sim.strips (h : Sim E B F R st a w) : ∀ ts : List Tmp, Sim E B F R ⟨Ve.strips st.tmps ts, st.blks⟩ a w := by
 intro ts
 induction ts generalizing st with
 | nil => exact h
 | cons t ts ih =>
  have h1 : Sim E B F R ⟨stripAt st.tmps (some t), st.blks⟩ a w := ⟨h.mem, stripAt_rep h (some t), h.defers, h.own.sub (Sub.append (stripAt_sub h (some t)) (Sub.refl _))⟩
  exact ih h1
theorem strip_none (h : Sim E B F R st a w) {x : Operand} (hx : stripO x = none) : occ (aev E st x) (a.eval x) = [] := by
 cases x with
 | tmp t => cases hx
 | const v => exact (rep_ofC (F := F) (R := R) v).2
 | global g =>
  simp only [aev]
  cases E.G g <;> exact occ_free _ _ rfl
 | func f => exact occ_free _ _ rfl
theorem strips_moved : ∀ (xs : List Operand) (st : St), Sim E B F R st a w → (xs.filterMap stripO).Nodup → Sub (occL (xs.map (aev E st)) (xs.map a.eval) ++ occL (Ve.strips st.tmps (xs.filterMap stripO)) a.tmps.toList) (occL st.tmps a.tmps.toList)
 | [], st, h, _ => by simp [occL, Ve.strips]; exact Sub.refl _
 | x :: xs, st, h, hnd => by
  cases hx : stripO x with
  | none =>
   rw [List.filterMap_cons_none hx] at hnd ⊢
   simp only [List.map_cons, occL, strip_none h hx, List.nil_append]
   exact strips_moved xs st h hnd
  | some t =>
   rw [List.filterMap_cons_some hx] at hnd ⊢
   obtain ⟨hnt, hnd⟩ := List.nodup_cons.1 hnd
   have h1 : Sim E B F R ⟨stripAt st.tmps (some t), st.blks⟩ a w := ⟨h.mem, stripAt_rep h (some t), h.defers, h.own.sub (Sub.append (stripAt_sub h (some t)) (Sub.refl _))⟩
   have ih := strips_moved xs _ h1 hnd
   have hm := stripAt_moved h x
   rw [hx] at hm
   have he : xs.map (aev E ⟨stripAt st.tmps (some t), st.blks⟩) = xs.map (aev E st) := List.map_congr_left fun y hy => by
    cases y with
    | tmp s =>
     have hne : s ≠ t := fun e => hnt (List.mem_filterMap.2 ⟨.tmp s, hy, by rw [← e]; rfl⟩)
     simp only [aev, stripAt]
     cases ht : st.tmps[t]? with
     | none => rfl
     | some v => simp only [List.getD_eq_getElem?_getD, List.getElem?_set_ne (Ne.symm hne)]
    | _ => rfl
   rw [he] at ih
   simp only [List.map_cons, occL]
   refine Sub.trans ?_ hm
   refine ⟨fun c => ?_, fun q hq => ?_⟩
   ·have := ih.1 c
    simp only [cnt_append] at this ⊢
    have e : Ve.strips st.tmps (t :: xs.filterMap stripO) = Ve.strips (stripAt st.tmps (some t)) (xs.filterMap stripO) := rfl
    rw [e]; omega
   ·simp only [List.mem_append] at hq ⊢
    rcases hq with (hq | hq) | hq
    ·exact .inr hq
    ·exact .inl (ih.2 q (List.mem_append_left _ hq))
    ·exact .inl (ih.2 q (List.mem_append_right _ hq))
theorem occ_cells {p : PV} {v : Value} (h : Rep F R p v) (hs : p.solid = true) : occL p.cells v.cells.toList = occ p v := by
 cases h <;> simp [PV.cells, Value.cells, occL, PV.solid, occ] at hs ⊢
 rename_i h1
 cases v <;> simp [Value.oneCell'] at h1 <;> simp [Value.cells, occL, occ]
theorem fill_own {place : Nat → Option (Nat × Nat)} : ∀ (ps : List (Nat × PV)) (vs : List (Nat × Value)) (cells : List PV) (cs : Array Value) (out : List PV),
  fillP place cells ps = some out → RepL F R cells cs.toList → (∀ v ∈ cs.toList, v.oneCell' = true) → List.length vs = List.length ps →
  (∀ (i : Nat) p v, ps[i]? = some p → vs[i]? = some v → v.1 = p.1 ∧ Rep F R p.2 v.2) →
  ∃ cs', Instr.fill place cs vs = some cs' ∧ RepL F R out cs'.toList ∧ (∀ v ∈ cs'.toList, v.oneCell' = true) ∧ Sub (occL out cs'.toList) (occL (ps.map (·.2)) (vs.map (·.2)) ++ occL cells cs.toList)
 | [], [], cells, cs, out, h, hr, h1, _, _ => by simp [fillP] at h; subst h; exact ⟨cs, rfl, hr, h1, by simp [occL]; exact Sub.refl _⟩
 | [], _ :: _, _, _, _, _, _, _, hl, _ => by simp at hl
 | _ :: _, [], _, _, _, _, _, _, hl, _ => by simp at hl
 | (i, p) :: ps, (i', v) :: vs, cells, cs, out, h, hr, h1, hl, hp => by
  obtain ⟨rfl, hrep⟩ := hp 0 _ _ rfl rfl
  simp only at hrep
  unfold fillP at h
  cases hpl : place i' with
  | none => simp [hpl] at h
  | some os =>
   obtain ⟨off, size⟩ := os
   simp only [hpl] at h
   split at h
   ·simp at h
   ·rename_i hc
    simp only [not_or, Bool.not_eq_true', Bool.not_eq_false, Nat.not_lt, gt_iff_lt, ne_eq, Decidable.not_not] at hc
    obtain ⟨hs, hsz, hle⟩ := hc
    have hvl := (hrep.cells hs).length
    have hcl := hr.length
    have hsz' : v.cells.size = size := by rw [← hsz]; simpa using hvl
    have hle' : off + v.cells.size ≤ cs.size := by simp at hcl hvl; omega
    have e := foldl_set v.cells.toList cs off 0 (by simpa using hle')
    have e' : (v.cells.zipIdx.foldl (fun cs (c, j) => cs.setIfInBounds (off + j) c) cs).toList = cs.toList.take off ++ v.cells.toList ++ cs.toList.drop (off + v.cells.toList.length) := by
     rw [← Array.foldl_toList]; simpa using e
    obtain ⟨cs', k1, k2, k3, k4⟩ := fill_own ps vs (splice cells off p.cells) (v.cells.zipIdx.foldl (fun cs (c, j) => cs.setIfInBounds (off + j) c) cs) out h
     (by rw [e']; unfold splice; rw [hvl]; exact RepL.append (hr.drop _) (RepL.append (hrep.cells hs) (hr.take _)))
     (by
      rw [e']; intro u hu
      rcases List.mem_append.1 hu with hu | hu
      ·rcases List.mem_append.1 hu with hu | hu
       ·exact h1 u (List.mem_of_mem_take hu)
       ·exact hrep.ones hs u hu
      ·exact h1 u (List.mem_of_mem_drop hu))
     (by simpa using hl) (fun j p v h h' => hp (j + 1) p v (by simpa using h) (by simpa using h'))
    refine ⟨cs', ?_, k2, k3, ?_⟩
    ·unfold Instr.fill
     simp only [hpl]
     rw [if_neg (by simp [hsz']; omega)]
     exact k1
    ·have sp := occL_splice (cs := cells) (ns := p.cells) (vs := cs.toList) (us := v.cells.toList) (off := off) (by rw [hcl]; exact Nat.le_refl _) hvl hle
     rw [occ_cells hrep hs] at sp
     rw [e'] at k4
     simp only [List.map_cons, occL]
     refine Sub.trans k4 ⟨fun c => ?_, fun q hq => ?_⟩
     ·have := sp.1 c
      simp only [cnt_append] at this ⊢; omega
     ·simp only [List.mem_append] at hq ⊢
      rcases hq with hq | hq
      ·exact .inl (.inr hq)
      ·rcases List.mem_append.1 (sp.2 q hq) with hq | hq
       ·exact .inl (.inl hq)
       ·exact .inr hq
theorem vbld_sound (h : Sim E B F R st a w) {o : Oper} {s : St} (hv : vbld E o st = some s) : (∀ c, o.op ≠ .defer c) ∧ ∃ u, (execOp a.eval o).run E.P w = .ok (.value u) w ∧ Sim E B F R s (a.put o.dst u) w := by
 unfold vbld at hv
 split at hv
 case h_2 => cases hv
 rename_i t parts ho
 refine ⟨fun c hc => (by rw [ho] at hc; cases hc), ?_⟩
 split at hv
 case h_2 => cases hv
 rename_i r hb
 split at hv
 case isFalse => cases hv
 rename_i hnd
 injection hv with hv; subst hv
 have hps : ∀ (i : Nat) (p : Nat × PV) (v : Nat × Value), (parts.toList.map fun p => (p.1, aev E st p.2))[i]? = some p → (parts.map fun (i, x) => (i, a.eval x)).toList[i]? = some v → v.1 = p.1 ∧ Rep F R p.2 v.2 := by
  intro i p v h1 h2
  simp only [Array.toList_map, List.getElem?_map, Option.map_eq_some_iff] at h1 h2
  obtain ⟨x, hx, rfl⟩ := h1
  obtain ⟨y, hy, rfl⟩ := h2
  rw [hx] at hy
  obtain rfl := Option.some.inj hy
  exact ⟨rfl, h.eval _⟩
 have hzo : ∀ {z : PV} {zv : Value}, zeroV E.P t = some zv → zeroP E.P t = some z → z.solid = true → Rep F R z zv ∧ occL z.cells zv.cells.toList = [] := by
  intro z zv hzv hz hs
  have hzr : Rep F R z zv ∧ occ z zv = [] := by
   unfold zeroP at hz; rw [hzv] at hz; simp at hz; subst hz; exact rep_ofC zv
  exact ⟨hzr.1, by rw [occ_cells hzr.1 hs]; exact hzr.2⟩
 have hmv := strips_moved (parts.toList.map (·.2)) st h (by rw [List.filterMap_map]; exact hnd)
 have hfm : (parts.toList.map (·.2)).filterMap stripO = parts.toList.filterMap fun p => stripO p.2 := by rw [List.filterMap_map]; rfl
 rw [hfm] at hmv
 have hrun : ∀ cells, E.P.built t (parts.map fun (i, x) => (i, a.eval x)).toList = some cells → (execOp a.eval o).run E.P w = .ok (.value (.agg cells)) w := by
  intro cells hc
  unfold execOp
  simp only [ho]
  have := run_build (P := E.P) w t (parts.map fun (i, x) => (i, a.eval x)) cells hc
  simp only [Sem.run_bind, this, Result.andThen_ok, Sem.run_pure]
 have fin : ∀ cells : Array Value, E.P.built t (parts.map fun (i, x) => (i, a.eval x)).toList = some cells → Rep F R r (.agg cells) → Sub (occ r (.agg cells)) (occL ((parts.toList.map fun p => (p.1, aev E st p.2)).map (·.2)) ((parts.map fun (i, x) => (i, a.eval x)).toList.map (·.2))) →
   ∃ u, (execOp a.eval o).run E.P w = .ok (.value u) w ∧ Sim E B F R (({ tmps := Ve.strips st.tmps (parts.toList.filterMap fun p => stripO p.2), blks := st.blks } : St).put o.dst r) (a.put o.dst u) w := by
  intro cells hc hr hsub
  refine ⟨_, hrun cells hc, ?_⟩
  refine (h.strips (parts.toList.filterMap fun p => stripO p.2)).fillOwn (s := none) h.mem (Fz.le_refl F) (Rle.refl R) hr ?_
  have e1 : (parts.toList.map fun p => (p.1, aev E st p.2)).map (·.2) = (parts.toList.map (·.2)).map (aev E st) := by simp [List.map_map, Function.comp_def]
  have e2 : (parts.map fun (i, x) => (i, a.eval x)).toList.map (·.2) = (parts.toList.map (·.2)).map a.eval := by simp [List.map_map, Function.comp_def]
  rw [e1, e2] at hsub
  exact h.own.sub (Sub.append (Sub.trans (Sub.append hsub (Sub.refl _)) hmv) (Sub.refl _))
 have main : ∀ {z : PV} {zv : Value} {place : Nat → Option (Nat × Nat)}, zeroV E.P t = some zv → zeroP E.P t = some z → z.solid = true →
   (fillP place z.cells (parts.toList.map fun p => (p.1, aev E st p.2))).map PV.agg = some r →
   ∃ cells, Instr.fill place zv.cells (parts.map fun (i, x) => (i, a.eval x)).toList = some cells ∧ Rep F R r (.agg cells) ∧ Sub (occ r (.agg cells)) (occL ((parts.toList.map fun p => (p.1, aev E st p.2)).map (·.2)) ((parts.map fun (i, x) => (i, a.eval x)).toList.map (·.2))) := by
  intro z zv place hzv hz hs hf
  obtain ⟨out, hout, rfl⟩ := Option.map_eq_some_iff.1 hf
  obtain ⟨hzr, hz0⟩ := hzo hzv hz hs
  obtain ⟨cs', k1, k2, k3, k4⟩ := fill_own _ _ z.cells zv.cells out hout (hzr.cells hs) (hzr.ones hs) (by simp) hps
  rw [hz0, List.append_nil] at k4
  exact ⟨cs', k1, .agg k3 k2, k4⟩
 have hzi : ∀ z, zeroP E.P t = some z → ∃ it zv, E.P.info? t = some it ∧ it.zero = some zv ∧ zeroV E.P t = some zv := by
  intro z hz
  unfold zeroP zeroV at hz
  cases hi : E.P.info? t with
  | none => simp [hi] at hz
  | some it =>
   cases hzz : it.zero with
   | none => simp [hi, hzz] at hz
   | some zv => exact ⟨it, zv, rfl, hzz, by simp [zeroV, hi, hzz]⟩
 unfold buildP at hb
 split at hb
 ·rename_i z fs hz hu
  split at hb
  ·rename_i hs
   obtain ⟨pl, hpl, hf⟩ := Option.bind_eq_some_iff.1 hb
   obtain ⟨it, zv, hi, hzz, hzv⟩ := hzi z hz
   obtain ⟨fs', hu', hm⟩ := places_spec hpl
   rw [hu] at hu'
   obtain rfl : fs = fs' := by simpa using hu'
   obtain ⟨cells, k1, k2, k3⟩ := main hzv hz hs hf
   refine fin cells ?_ k2 k3
   unfold Program.built
   simp only [hi, hu, hzz, hm]
   simpa using k1
  ·simp at hb
 ·rename_i z n e hz hu
  split at hb
  ·rename_i hs
   obtain ⟨it, zv, hi, hzz, hzv⟩ := hzi z hz
   obtain ⟨ie, hie⟩ := info_of_sz hs.2
   obtain ⟨cells, k1, k2, k3⟩ := main hzv hz hs.1 hb
   refine fin cells ?_ k2 k3
   unfold Program.built
   have hsz : sz E.P e = ie.size := by simp [sz, hie]
   simp only [hi, hu, hzz, hie]
   rw [hsz] at k1
   exact k1
  ·simp at hb
 ·simp at hb
theorem vop_sound (h : Sim E B F R st a w) (hlo : B.R0.length ≤ E.lo) {o : Oper} {n : Nat} {f : Nat → St} (hv : vop E o st = some (n, f)) :
  (∀ c, o.op ≠ .defer c) ∧ ∃ c u w' F' R', n ≤ c ∧ ((execOp a.eval o).run E.P w = .ok (.value u) w' ∨ ((execOp a.eval o).run E.P w = .ok .skip w' ∧ u = undef)) ∧ Sim E B F' R' (f c) (a.put o.dst u) w' := by
 unfold vop at hv
 split at hv
 ·rename_i r cs hn
  simp only [Option.some.injEq, Prod.mk.injEq] at hv
  obtain ⟨rfl, rfl⟩ := hv
  obtain ⟨h1, u, w', F', R', h2, h3, h4, h5⟩ := vnew_sound h hn
  exact ⟨h1, 0, u, w', F', R', Nat.le_refl _, h2, h5⟩
 ·split at hv
  ·rename_i s hs
   simp only [Option.some.injEq, Prod.mk.injEq] at hv
   obtain ⟨rfl, rfl⟩ := hv
   obtain ⟨h1, u, h2, h3⟩ := vbld_sound h hs
   exact ⟨h1, 0, u, w, F, R, Nat.le_refl _, .inl h2, h3⟩
  ·obtain ⟨h1, c, u, w', R', hc, h2, h3⟩ := vopA_sound h hlo hv
   exact ⟨h1, c, u, w', F, R', hc, .inl h2, h3⟩
end
end Go.Ve
