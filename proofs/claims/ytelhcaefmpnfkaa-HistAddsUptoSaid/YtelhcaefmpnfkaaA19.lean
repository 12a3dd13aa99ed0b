/- weirlaw30.HistAdds: part of the proof (a value semantics for the model's code, and the functions told by it). -/
import Derived.Test.YtelhcaefmpnfkaaA18
set_option linter.unusedSimpArgs false
set_option linter.unusedVariables false
set_option linter.deprecated false
set_option linter.unusedSectionVars false
set_option linter.defProp false
namespace Go.Ve
mutual
def meltV (f : Nat → Nat) (n : Nat) : PV → PV × List Blk
 | .sl (k + 1) xs true => (.rs (k + 1) n 0 xs.length (xs.length + f n), [.live (padded (xs.flatMap PV.cells) ((xs.length + f n) * (k + 1)))])
 | .iface t v => (.iface t (meltV f n v).1, (meltV f n v).2)
 | .agg cs => (.agg (meltL f n cs).1, (meltL f n cs).2)
 | .tuple cs => (.tuple (meltL f n cs).1, (meltL f n cs).2)
 | p => (p, [])
def meltL (f : Nat → Nat) (n : Nat) : List PV → List PV × List Blk
 | [] => ([], [])
 | p :: ps => ((meltV f n p).1 :: (meltL f (n + (meltV f n p).2.length) ps).1, (meltV f n p).2 ++ (meltL f (n + (meltV f n p).2.length) ps).2)
end
mutual
def PV.alts : PV → List PV
 | .sl (k + 1) [] true => [.sl (k + 1) [] true, .sl 0 [] false]
 | .iface t v => v.alts.map (.iface t)
 | .agg cs => (altsL cs).map .agg
 | .tuple cs => (altsL cs).map .tuple
 | p => [p]
def altsL : List PV → List (List PV)
 | [] => [[]]
 | p :: ps => p.alts.flatMap fun q => (altsL ps).map (q :: ·)
end
mutual
def holes : PV → Value → List Occ
 | .sl k _ true, .slice (some ad) len cap => [⟨k, ad.block, ad.off, len, cap⟩]
 | .iface _ v, .iface _ V => holes v V
 | .agg cs, .agg vs => holesL cs vs.toList
 | .tuple cs, .tuple vs => holesL cs vs.toList
 | _, _ => []
def holesL : List PV → List Value → List Occ
 | p :: ps, v :: vs => holes p v ++ holesL ps vs
 | _, _ => []
end
mutual
def realP : PV → Value → Bool
 | .sl (_ + 1) [] true, .slice none _ _ => false
 | .iface _ v, .iface _ V => realP v V
 | .agg cs, .agg vs => realL cs vs.toList
 | .tuple cs, .tuple vs => realL cs vs.toList
 | _, _ => true
def realL : List PV → List Value → Bool
 | p :: ps, v :: vs => realP p v && realL ps vs
 | _, _ => true
end
mutual
theorem holes_sub : ∀ (p : PV) (v : Value), Sub (holes p v) (occ p v)
 | .val _, _ => by simp [holes]; exact Sub.nil _
 | .ptr _ _, _ => by simp [holes]; exact Sub.nil _
 | .vptr _ _, _ => by simp [holes]; exact Sub.nil _
 | .rs _ _ _ _ _, _ => by simp [holes]; exact Sub.nil _
 | .slt _ _ _, _ => by simp [holes]; exact Sub.nil _
 | .func _ _ _, _ => by simp [holes]; exact Sub.nil _
 | .junk, _ => by simp [holes]; exact Sub.nil _
 | .sl k xs false, _ => by simp [holes]; exact Sub.nil _
 | .sl k xs true, v => by
  cases v with
  | slice ad len cap => cases ad with
   | none => simp [holes]; exact Sub.nil _
   | some ad => simp [holes, occ]; exact Sub.refl _
  | _ => simp [holes]; exact Sub.nil _
 | .iface _ v, V => by cases V with
  | iface t W => simp only [holes, occ]; exact holes_sub v W
  | _ => simp [holes]; exact Sub.nil _
 | .agg cs, V => by cases V with
  | agg vs => simp only [holes, occ]; exact holesL_sub cs vs.toList
  | _ => simp [holes]; exact Sub.nil _
 | .tuple cs, V => by cases V with
  | tuple vs => simp only [holes, occ]; exact holesL_sub cs vs.toList
  | _ => simp [holes]; exact Sub.nil _
theorem holesL_sub : ∀ (ps : List PV) (vs : List Value), Sub (holesL ps vs) (occL ps vs)
 | [], _ => by simp [holesL]; exact Sub.nil _
 | _ :: _, [] => by simp [holesL]; exact Sub.nil _
 | p :: ps, v :: vs => by simp only [holesL, occL]; exact Sub.append (holes_sub p v) (holesL_sub ps vs)
end
mutual
theorem alts_ok {F : Fz} {R : List Nat} : ∀ {p : PV} {u : Value}, p.thawable = true → Rep F R p u → ∃ q ∈ p.alts, Rep F R q u ∧ occ q u = occ p u ∧ q.thawable = true ∧ realP q u = true
 | .sl (k + 1) [] true, u, ht, h => by
  cases h with
  | slnil => exact ⟨.sl 0 [] false, by simp [PV.alts], .slnil, by simp [occ], rfl, rfl⟩
  | sl us hk0 hl hc hk hF hR => exact ⟨_, List.mem_cons_self .., .sl us hk0 hl hc hk hF hR, rfl, ht, rfl⟩
 | .iface t v, u, ht, h => by
  cases h with
  | iface h =>
   obtain ⟨q, h1, h2, h3, h4, h5⟩ := alts_ok (by simpa [PV.thawable] using ht) h
   exact ⟨.iface t q, by simp only [PV.alts]; exact List.mem_map.2 ⟨q, h1, rfl⟩, .iface h2, by simpa [occ] using h3, by simpa [PV.thawable] using h4, by simpa [realP] using h5⟩
 | .agg cs, u, ht, h => by
  cases h with
  | agg k h =>
   obtain ⟨q, h1, h2, h3, h4, h5⟩ := altsL_ok (by simpa [PV.thawable] using ht) h
   exact ⟨.agg q, by simp only [PV.alts]; exact List.mem_map.2 ⟨q, h1, rfl⟩, .agg k h2, by simpa [occ] using h3, by simpa [PV.thawable] using h4, by simpa [realP] using h5⟩
 | .tuple cs, u, ht, h => by
  cases h with
  | tuple h =>
   obtain ⟨q, h1, h2, h3, h4, h5⟩ := altsL_ok (by simpa [PV.thawable] using ht) h
   exact ⟨.tuple q, by simp only [PV.alts]; exact List.mem_map.2 ⟨q, h1, rfl⟩, .tuple h2, by simpa [occ] using h3, by simpa [PV.thawable] using h4, by simpa [realP] using h5⟩
 | .val v, u, ht, h => ⟨_, by simp [PV.alts], h, rfl, ht, by simp [realP]⟩
 | .slt k xs ys, u, ht, h => ⟨_, by simp [PV.alts], h, rfl, ht, by simp [realP]⟩
 | .sl 0 xs o, u, ht, h => ⟨_, by simp [PV.alts], h, rfl, ht, by simp [realP]⟩
 | .sl (k + 1) xs false, u, ht, h => ⟨_, by simp [PV.alts], h, rfl, ht, by simp [realP]⟩
 | .sl (k + 1) (x :: xs) true, u, ht, h => ⟨_, by simp [PV.alts], h, rfl, ht, by simp [realP]⟩
theorem altsL_ok {F : Fz} {R : List Nat} : ∀ {p : List PV} {u : List Value}, thawableL p = true → RepL F R p u → ∃ q ∈ altsL p, RepL F R q u ∧ occL q u = occL p u ∧ thawableL q = true ∧ realL q u = true
 | [], _, ht, h => ⟨[], by simp [altsL], h, rfl, rfl, by cases h; rfl⟩
 | p :: ps, u :: us, ht, .cons h t => by
  simp only [thawableL, Bool.and_eq_true] at ht
  obtain ⟨q, h1, h2, h3, h4, h5⟩ := alts_ok ht.1 h
  obtain ⟨q', g1, g2, g3, g4, g5⟩ := altsL_ok ht.2 t
  exact ⟨q :: q', by simp only [altsL]; exact List.mem_flatMap.2 ⟨q, h1, List.mem_map.2 ⟨q', g1, rfl⟩⟩, .cons h2 g2, by simp only [occL, h3, g3], by simp [thawableL, h4, g4], by simp [realL, h5, g5]⟩
end
section
variable {Pr : Nat → Prop} {F F' : Fz} {w' : World}
theorem melt_free {k : Nat} {o : Bool} {R : List Nat} (_ : o = false) {u : Value} (hr : Rep F' [] (.sl k [] o) u) : Rep F R (.sl k [] o) u := by
 cases hr with
 | slnil => exact .slnil
 | sl us hk0 hl hc hk hF hR =>
  cases hR
  exact .sl [] hk0 hl hc hk (fun j u h => by simp at h) .nil
theorem melt_own (hfz : ∀ b o v, F' b o = some v → w'.cell? ⟨b, o, none⟩ = some v) {k : Nat} {xs : List PV} {u : Value} (hv : (xs.all fun y => y.cells.all isVal) = true) (hu : ∃ ad len cap, u = .slice (some ad) len cap) (hr : Rep F' [] (.sl (k + 1) xs true) u) (ho : ∀ q ∈ holes (.sl (k + 1) xs true) u, OccOk Pr F' [] w' q) (f : Nat → Nat) (n : Nat) (hf : ∀ i q, (holes (.sl (k + 1) xs true) u)[i]? = some q → f (n + i) = q.cap - q.len) (R0 R2 : List Nat) (hn : R0.length = n) :
  (meltV f n (.sl (k + 1) xs true)).2.length = (holes (.sl (k + 1) xs true) u).length ∧ Rep F (R0 ++ (holes (.sl (k + 1) xs true) u).map (·.b) ++ R2) (meltV f n (.sl (k + 1) xs true)).1 u ∧ occ (meltV f n (.sl (k + 1) xs true)).1 u = [] ∧ ∀ (i : Nat) q b, (holes (.sl (k + 1) xs true) u)[i]? = some q → (meltV f n (.sl (k + 1) xs true)).2[i]? = some b → RoomOk w' q b := by
 cases hr with
 | slnil => obtain ⟨_, _, _, h⟩ := hu; cases h
 | sl us hk0 hl hc hk hF hR =>
  rename_i b o len cap
  have hq := ho ⟨k + 1, b, o, len, cap⟩ (by simp [holes])
  obtain ⟨_, _, ⟨_, ho0⟩, _, vs, T, hh, hsz, hone⟩ := hq
  simp only at ho0 hh hsz
  subst ho0
  have hfn : f n = cap - len := by have := hf 0 ⟨k + 1, b, 0, len, cap⟩ (by simp [holes]); simpa using this
  have hcap : xs.length + f n = cap := by rw [hfn, ← hl]; omega
  have hul : us.length = len * (k + 1) := by rw [hR.length, hl]; exact flat_length _ hk
  have hcl : (xs.flatMap PV.cells).length = len * (k + 1) := by rw [← hul]; exact hR.length.symm
  have hmul := Nat.mul_le_mul_right (k + 1) hc
  rw [Nat.zero_add] at hsz
  have htake : vs.toList.take (len * (k + 1)) = us := by
   apply List.ext_getElem?
   intro j
   rw [List.getElem?_take]
   split
   ·rename_i hj
    have hju : us[j]? = some us[j] := List.getElem?_eq_getElem (by omega)
    have h1 := hfz _ _ _ (hF j _ hju)
    simp [World.cell?, hh] at h1
    rw [hju]
    simpa using h1
   ·rw [List.getElem?_eq_none (by omega)]
  refine ⟨by simp [meltV, holes], ?_, by simp [meltV, occ], fun i q bl h1 h2 => ?_⟩
  ·simp only [meltV, holes, List.map_cons, List.map_nil]
   rw [hcap, ← hl]
   exact .rs (by rw [List.append_assoc, List.getElem?_append_right (by omega), hn]; simp) hc
  ·simp only [holes] at h1
   have hi : i = 0 := by
    have := (List.getElem?_eq_some_iff.1 h1).1
    simp at this; exact this
   subst hi
   simp at h1; subst h1
   simp only [meltV, List.getElem?_cons_zero, Option.some.injEq] at h2
   rw [hcap] at h2
   subst h2
   have hany : ∀ F R, RepL F R (xs.flatMap PV.cells) (vs.toList.take (xs.flatMap PV.cells).length) := fun F R => by
    rw [hcl, htake]; exact (vals_any (flat_vals hv) hR).1
   have hvl : cap * (k + 1) ≤ vs.toList.length := by simpa using hsz
   have hpd := fun (F : Fz) (R : List Nat) => padded_rep (n := cap * (k + 1)) (hany F R) (by rw [hcl]; exact hmul) hvl
   refine ⟨_, vs, T, rfl, hh, fun F R => (hpd F R).1, hone, by rw [(hpd F []).2.1]; simpa using hvl, ?_⟩
   rw [(hpd F []).2.2, hcl, htake]
   exact (vals_any (F' := F) (R' := []) (flat_vals hv) hR).2
mutual
theorem melt_rep (hfz : ∀ b o v, F' b o = some v → w'.cell? ⟨b, o, none⟩ = some v) : ∀ {p : PV} {u : Value}, p.thawable = true → realP p u = true → Rep F' [] p u → (∀ q ∈ holes p u, OccOk Pr F' [] w' q) → ∀ (f : Nat → Nat) (n : Nat), (∀ i q, (holes p u)[i]? = some q → f (n + i) = q.cap - q.len) → ∀ R0 R2 : List Nat, R0.length = n →
  (meltV f n p).2.length = (holes p u).length ∧ Rep F (R0 ++ (holes p u).map (·.b) ++ R2) (meltV f n p).1 u ∧ occ (meltV f n p).1 u = [] ∧ ∀ (i : Nat) q b, (holes p u)[i]? = some q → (meltV f n p).2[i]? = some b → RoomOk w' q b
 | .val v, u, ht, hre, hr, ho, f, n, hf, R0, R2, hn => by
  cases hr with
  | val h => exact ⟨by simp [meltV, holes], by simpa [meltV] using .val h, occ_free _ _ rfl, fun i q b h1 => by simp [holes] at h1⟩
 | .slt k [] [], u, ht, hre, hr, ho, f, n, hf, R0, R2, hn => by
  refine ⟨by simp [meltV, holes], ?_, occ_free _ _ rfl, fun i q b h1 => by simp [holes] at h1⟩
  simp only [meltV]
  cases hr with
  | sltnil => exact .sltnil
  | sltz hk => exact .sltz hk
  | slt us hk0 hl hc hk hF hR =>
   cases hR
   exact .slt [] hk0 hl hc hk (fun j u h => by simp at h) .nil
 | .sl 0 [] o, u, ht, hre, hr, ho, f, n, hf, R0, R2, hn => by
  cases hr with
  | slnil =>
   have e : holes (.sl 0 [] o) (.slice none 0 0) = [] := by cases o <;> simp [holes]
   rw [e]
   exact ⟨by cases o <;> simp [meltV], by cases o <;> simp only [meltV] <;> exact .slnil, by cases o <;> simp [meltV, occ], fun i q b h1 => by simp at h1⟩
  | sl us hk0 => exact absurd hk0 (Nat.lt_irrefl 0)
 | .sl (k + 1) [] false, u, ht, hre, hr, ho, f, n, hf, R0, R2, hn =>
  ⟨by simp [meltV, holes], by simp only [meltV]; exact melt_free rfl hr, occ_free _ _ rfl, fun i q b h1 => by simp [holes] at h1⟩
 | .sl k (x :: xs) false, u, ht, hre, hr, ho, f, n, hf, R0, R2, hn => by simp [PV.thawable] at ht
 | .sl 0 (x :: xs) true, u, ht, hre, hr, ho, f, n, hf, R0, R2, hn => by
  cases hr with
  | sl us hk0 => exact absurd hk0 (Nat.lt_irrefl 0)
 | .sl (k + 1) [] true, u, ht, hre, hr, ho, f, n, hf, R0, R2, hn => melt_own hfz rfl (by cases hr with
  | slnil => simp [realP] at hre
  | sl us hk0 hl hc hk hF hR => exact ⟨_, _, _, rfl⟩) hr ho f n hf R0 R2 hn
 | .sl (k + 1) (x :: xs) true, u, ht, hre, hr, ho, f, n, hf, R0, R2, hn => melt_own hfz (by simpa [PV.thawable] using ht) (by cases hr with
  | sl us hk0 hl hc hk hF hR => exact ⟨_, _, _, rfl⟩) hr ho f n hf R0 R2 hn
 | .iface t v, u, ht, hre, hr, ho, f, n, hf, R0, R2, hn => by
  cases hr with
  | iface h =>
   have := melt_rep hfz (by simpa [PV.thawable] using ht) (by simpa [realP] using hre) h (by simpa [holes] using ho) f n (by simpa [holes] using hf) R0 R2 hn
   simp only [meltV, holes]
   exact ⟨this.1, .iface this.2.1, by simpa [occ] using this.2.2.1, this.2.2.2⟩
 | .agg cs, u, ht, hre, hr, ho, f, n, hf, R0, R2, hn => by
  cases hr with
  | agg h1 h =>
   have := meltL_rep hfz (by simpa [PV.thawable] using ht) (by simpa [realP] using hre) h (by simpa [holes] using ho) f n (by simpa [holes] using hf) R0 R2 hn
   simp only [meltV, holes]
   exact ⟨this.1, .agg h1 this.2.1, by simpa [occ] using this.2.2.1, this.2.2.2⟩
 | .tuple cs, u, ht, hre, hr, ho, f, n, hf, R0, R2, hn => by
  cases hr with
  | tuple h =>
   have := meltL_rep hfz (by simpa [PV.thawable] using ht) (by simpa [realP] using hre) h (by simpa [holes] using ho) f n (by simpa [holes] using hf) R0 R2 hn
   simp only [meltV, holes]
   exact ⟨this.1, .tuple this.2.1, by simpa [occ] using this.2.2.1, this.2.2.2⟩
 | .ptr _ _, _, ht, _, _, _, _, _, _, _, _, _ => by simp [PV.thawable] at ht
 | .vptr _ _, _, ht, _, _, _, _, _, _, _, _, _ => by simp [PV.thawable] at ht
 | .rs _ _ _ _ _, _, ht, _, _, _, _, _, _, _, _, _ => by simp [PV.thawable] at ht
 | .func _ _ _, _, ht, _, _, _, _, _, _, _, _, _ => by simp [PV.thawable] at ht
 | .junk, _, ht, _, _, _, _, _, _, _, _, _ => by simp [PV.thawable] at ht
 | .slt _ (_ :: _) _, _, ht, _, _, _, _, _, _, _, _, _ => by simp [PV.thawable] at ht
 | .slt _ [] (_ :: _), _, ht, _, _, _, _, _, _, _, _, _ => by simp [PV.thawable] at ht
theorem meltL_rep (hfz : ∀ b o v, F' b o = some v → w'.cell? ⟨b, o, none⟩ = some v) : ∀ {p : List PV} {u : List Value}, thawableL p = true → realL p u = true → RepL F' [] p u → (∀ q ∈ holesL p u, OccOk Pr F' [] w' q) → ∀ (f : Nat → Nat) (n : Nat), (∀ i q, (holesL p u)[i]? = some q → f (n + i) = q.cap - q.len) → ∀ R0 R2 : List Nat, R0.length = n →
  (meltL f n p).2.length = (holesL p u).length ∧ RepL F (R0 ++ (holesL p u).map (·.b) ++ R2) (meltL f n p).1 u ∧ occL (meltL f n p).1 u = [] ∧ ∀ (i : Nat) q b, (holesL p u)[i]? = some q → (meltL f n p).2[i]? = some b → RoomOk w' q b
 | [], u, ht, hre, hr, ho, f, n, hf, R0, R2, hn => by
  cases hr
  exact ⟨by simp [meltL, holesL], by simp [meltL]; exact .nil, by simp [meltL, occL], fun i q b h1 => by simp [holesL] at h1⟩
 | p :: ps, u :: us, ht, hre, .cons h t, ho, f, n, hf, R0, R2, hn => by
  simp only [thawableL, Bool.and_eq_true] at ht
  simp only [realL, Bool.and_eq_true] at hre
  simp only [holesL] at ho hf ⊢
  obtain ⟨a1, a2, a3, a4⟩ := melt_rep hfz ht.1 hre.1 h (fun q hq => ho q (List.mem_append_left _ hq)) f n (fun i q hi => hf i q (by rw [List.getElem?_append_left (List.getElem?_eq_some_iff.1 hi).1]; exact hi)) R0 ((holesL ps us).map (·.b) ++ R2) hn
  obtain ⟨b1, b2, b3, b4⟩ := meltL_rep hfz ht.2 hre.2 t (fun q hq => ho q (List.mem_append_right _ hq)) f (n + (meltV f n p).2.length) (fun i q hi => by
   rw [a1, Nat.add_assoc]
   refine hf _ q ?_
   rw [List.getElem?_append_right (by omega)]
   rw [Nat.add_sub_cancel_left]; exact hi) (R0 ++ (holes p u).map (·.b)) R2 (by simp [a1, hn])
  refine ⟨by simp only [meltL, List.length_append]; rw [b1, a1], ?_, by simp [meltL, occL, a3, b3], fun i q b h1 h2 => ?_⟩
  ·simp only [meltL, List.map_append]
   refine .cons (by simpa using a2) (by simpa using b2)
  ·simp only [meltL] at h2
   by_cases hi : i < (holes p u).length
   ·rw [List.getElem?_append_left hi] at h1
    rw [List.getElem?_append_left (by omega)] at h2
    exact a4 i q b h1 h2
   ·rw [List.getElem?_append_right (by omega)] at h1
    rw [List.getElem?_append_right (by omega)] at h2
    exact b4 _ q b h1 (by rw [← a1]; exact h2)
end
end
def meltT (Q : List PV → PV → Prop) : PT := fun args M K => ∃ r, Q args r ∧ norefL args = true ∧ r.thawable = true ∧ ∀ q ∈ r.alts, ∀ f : Nat → Nat, K (meltV f M.length q).1 (M ++ (meltV f M.length q).2)
theorem meltT_mono (Q : List PV → PV → Prop) : ∀ args B K K', (∀ r b, K r b → K' r b) → meltT Q args B K → meltT Q args B K' := fun _ _ _ _ h ⟨r, h1, h2, h3, h4⟩ => ⟨r, h1, h2, h3, fun q hq f => h _ _ (h4 q hq f)⟩
theorem Sound.melt {P : Program} {G : Nat → Option (List PV)} {g : FuncId} {Q : List PV → PV → Prop} (h : Sound P G g (conT (.pure Q))) : Sound P G g (meltT Q) := by
 refine ⟨h.1, ?_⟩
 intro Pr F R blks w args vs K hR1 hm hr ho hown ⟨r, hq, hn, ht, hK⟩
 have hm2 : Mem ⟨P, G, none, none, 0, []⟩ ⟨fun b => b < w.heap.size, w, F, [], [], []⟩ F [] [] w :=
  {
   os := rfl, tape := rfl, output := rfl, drn := Nat.le_refl _, size := Nat.le_refl _, pr := fun b hb => ⟨hb, rfl⟩, mks := fun c hc => by simp at hc, mnd := List.nodup_nil, fz := hm.fz, fnew := fun _ _ _ h => .inl h, fold := Fz.le_refl F, rnew := fun c hc => by simp at hc, rold := Rle.refl _,
   bound := fun c hc => by simp at hc, glob := hm.glob, len := rfl, nd := List.nodup_nil, blk := fun i c b hc => by simp at hc }
 have hcall := h.2 (fun b => b < w.heap.size) F [] [] w args vs (fun r' b' => r' = r ∧ b' = []) (Rle.refl _) hm2 (hr.of_noref hn) ho ⟨fun c => by simp [occB], fun q hq => by simp [occB] at hq⟩ ⟨r, hq, rfl, rfl⟩
 refine hcall.mono ?_
 rintro e w' ⟨r0, u, blks', F0, R', rfl, ⟨rfl, rfl⟩, hru0, hm0, ho0⟩
 obtain ⟨r', hra, hru, hoc, ht, hre⟩ := alts_ok ht hru0
 have ho' : Owned (fun b => b < w.heap.size) F0 R' w' (occ r' u ++ occB w' R' []) := by rw [hoc]; exact ho0
 have hR' : R' = [] := List.length_eq_zero_iff.1 hm0.len
 subst hR'
 have hsame : ∀ {b}, b < w.heap.size → w'.heap[b]? = w.heap[b]? := fun hb => (hm0.pr _ hb).2
 have hsub : Sub (holes r' u) (occ r' u ++ occB w' [] []) := by simp only [occB, List.append_nil]; exact holes_sub r' u
 have hok : ∀ q ∈ holes r' u, OccOk (fun b => b < w.heap.size) F0 [] w' q := fun q hq => ho'.2 q (hsub.2 q hq)
 have hge : ∀ q ∈ holes r' u, w.heap.size ≤ q.b := fun q hq => Nat.le_of_not_lt (hok q hq).1
 let l := holes r' u
 let f : Nat → Nat := fun b => match l[b - blks.length]? with | some q => q.cap - q.len | none => 0
 obtain ⟨t1, t2, t3, t4⟩ := melt_rep (F := F) (fun b o v hv => (hm0.fz b o v hv).1) ht hre hru hok f blks.length (fun i q hi => by simp only [f, l, Nat.add_sub_cancel_left, hi]) R [] hm.len
 rw [List.append_nil] at t2
 have hnd : ((holes r' u).map (·.b)).Nodup := by
  have hc : ∀ c, cnt c (holes r' u) ≤ 1 := fun c => Nat.le_trans (hsub.1 c) (ho'.1 c)
  rw [List.nodup_iff_count]
  intro c
  have e : ∀ l : List Occ, (l.map (·.b)).count c = cnt c l := by
   intro l
   unfold cnt
   rw [List.count, List.countP_map]
   rfl
  rw [e]; exact hc c
 have hmem : Mem ⟨P, G, none, none, 0, []⟩ ⟨Pr, w, F, R, [], R⟩ F (R ++ (holes r' u).map (·.b)) (blks ++ (meltV f blks.length r').2) w' :=
  {
   os := hm0.os, tape := hm0.tape, output := hm0.output, drn := hm0.drn, size := hm0.size
   pr := fun b hb => ⟨(hm.pr b hb).1, hsame (hm.pr b hb).1⟩
   fz := fun b o v hv => ⟨by rw [cell_congr (hsame (hm.F_lt hv))]; exact (hm.fz b o v hv).1, (hm.fz b o v hv).2⟩
   fnew := fun b o v hv => .inl hv
   fold := Fz.le_refl F
   rnew := fun c hc => by
    rcases List.mem_append.1 hc with hc | hc
    ·exact .inl hc
    ·obtain ⟨q, hq, rfl⟩ := List.mem_map.1 hc
     exact .inr (hge q hq)
   rold := Rle.append _ _
   bound := fun c hc => by
    rcases List.mem_append.1 hc with hc | hc
    ·exact Nat.lt_of_lt_of_le (hm.bound c hc) hm0.size
    ·obtain ⟨q, hq, rfl⟩ := List.mem_map.1 hc
     exact (hok q hq).lt
   glob := hm.glob
   len := by simp [hm.len, t1]
   nd := by
    rw [List.nodup_append]
    refine ⟨hm.nd, hnd, fun a ha b hb e => ?_⟩
    obtain ⟨q, hq, rfl⟩ := List.mem_map.1 hb
    have := hm.bound a ha
    have := hge q hq
    omega
   mks := fun c hc => by simp at hc
   mnd := List.nodup_nil
   blk := fun i c b hc hb => by
    by_cases hi : i < R.length
    ·rw [List.getElem?_append_left hi] at hc
     rw [List.getElem?_append_left (by rw [← hm.len]; exact hi)] at hb
     exact (hm.blk i c b hc hb).mono (Fz.le_refl F) (Rle.append _ _) (fun _ h => h) (hsame (hm.bound c (List.mem_of_getElem? hc)))
    ·rw [List.getElem?_append_right (by omega)] at hc
     rw [List.getElem?_append_right (by rw [← hm.len]; omega)] at hb
     replace hb : (meltV f blks.length r').2[i - R.length]? = some b := by rw [hm.len]; exact hb
     rw [List.getElem?_map, Option.map_eq_some_iff] at hc
     obtain ⟨q, hq, rfl⟩ := hc
     obtain ⟨cs, vs, T, rfl, k1, k2, k3, k4, k5⟩ := t4 _ q b hq hb
     have hqm := List.mem_of_getElem? hq
     refine ⟨fun hp => ?_, fun o => ?_, vs, T, k1, k2 _ _, k3, k4⟩
     ·have := (hm.pr _ hp).1
      have := hge q hqm
      simp at *; omega
     ·exact hm.F_new (hge q hqm) }
 refine ⟨_, u, _, F, _, rfl, hK r' hra f, t2, hmem, ?_⟩
 rw [t3, List.nil_append]
 have key : ∀ (S : List Nat) (bl : List Blk), (∀ (i : Nat) c b, S[i]? = some c → bl[i]? = some b → ∃ cs, b = .live cs ∧ occL cs (cellsW w' c) = []) → occB w' S bl = [] := by
  intro S
  induction S with
  | nil => intro bl _; simp [occB]
  | cons c S ih =>
   intro bl hb
   cases bl with
   | nil => simp [occB]
   | cons b bl =>
    obtain ⟨cs, rfl, h2⟩ := hb 0 c b rfl rfl
    simp [occB, h2, ih bl (fun i c b h1 h2 => hb (i + 1) c b (by simpa using h1) (by simpa using h2))]
 have hnew : occB w' ((holes r' u).map (·.b)) (meltV f blks.length r').2 = [] := key _ _ fun i c b h1 h2 => by
  rw [List.getElem?_map, Option.map_eq_some_iff] at h1
  obtain ⟨q, hq, rfl⟩ := h1
  obtain ⟨cs, vs, T, rfl, k1, k2, k3, k4, k5⟩ := t4 i q b hq h2
  exact ⟨cs, rfl, by simpa [cellsW, k1] using k5⟩
 have hall : ∀ (S : List Nat) (bs : List Blk) (S' : List Nat) (bs' : List Blk), S.length = bs.length → occB w' (S ++ S') (bs ++ bs') = occB w' S bs ++ occB w' S' bs' := by
  intro S
  induction S with
  | nil => intro bs S' bs' hl; cases bs with
   | nil => simp [occB]
   | cons => simp at hl
  | cons c S ih =>
   intro bs S' bs' hl
   cases bs with
   | nil => simp at hl
   | cons b bs =>
    have := ih bs S' bs' (by simpa using hl)
    cases b <;> simp [occB, this]
 rw [hall _ _ _ _ hm.len, hnew, List.append_nil, occB_congr R blks (fun c hc => hsame (hm.bound c hc))]
 refine ⟨hown.1, fun q hq => ?_⟩
 have hokq := hown.2 q hq
 exact hokq.mono (fun hin => by
  rcases List.mem_append.1 hin with h1 | h1
  ·exact h1
  ·obtain ⟨q', hq', e⟩ := List.mem_map.1 h1
   have := hge q' hq'
   have := hokq.lt
   omega) (fun _ h => h) (hsame hokq.lt)
def awpBFnX (E : Env) (D : FuncId → Option CB) (s : Bool) (fn : Func) (c : Code) : PT := fun args blks K => awpB { E with lo := 0, ro := none } D s c (args.map .pv ++ List.replicate (fn.ntmps - args.length) (.pv .junk)) blks (retBK E.P fn K)
theorem awpBFnX_sound {E : Env} {D : FuncId → Option CB} {s : Bool} {fn : Func} {c : Code} {args : List PV} {blks : List Blk} {K : PV → List Blk → Prop} (h : awpBFnX E D s fn c args blks K) : awpFnX E (conD D) fn c args blks K := by
 unfold awpBFnX at h
 have := awpB_sound _ _ _ _ h
 have e : (args.map BV.pv ++ List.replicate (fn.ntmps - args.length) (BV.pv .junk)).map BV.den = args ++ List.replicate (fn.ntmps - args.length) .junk := by
  rw [List.map_append, List.map_replicate]
  congr 1
  exact vals_den args
 rw [e] at this
 refine awp_mono _ (conD D) c _ _ _ ?_ this
 rintro ex ⟨tm, bl⟩ ⟨T', h1, h2⟩
 simp only at h1 h2; subst h1
 have key : rkB E.P fn K T' bl → kr (retT E.P (T'.map BV.den) bl fn.results.toList) bl K := by
  intro hk
  obtain ⟨k1, k2⟩ := conj_iff.1 hk
  rwa [retB_eq _ _ _ _ k1]
 cases ex with
 | normal => rw [K_retn]; exact key h2
 | ret => rw [K_ret]; exact key h2
 | _ => exact h2.elim
theorem fn_X {P : Program} {G : Nat → Option (List PV)} {D : FuncId → Option CB} (V : List Tmp) (hD : AllB ⟨P, G, none, none, 0, []⟩ D) (hmx : P.follows .mixedOrders = true) (s : Bool) {g : FuncId} {fn : Func} {c : Code} (hf : P.funcs[g]? = some fn) (hn : fn.name ≠ "runtime.NumGoroutine") (hb : fn.body = some c)
  {T : PT} (h : ∀ args M K, T args M K → awpBFnX ⟨P, G, none, none, 0, V⟩ D s fn c args M K) : SoundX P G g T :=
 (soundX_of_awp (E := ⟨P, G, none, none, 0, V⟩) (hD.con.env rfl rfl) hmx rfl hf hn hb).weaken fun args M K hT => awpBFnX_sound (h args M K hT)
theorem SoundX.or {P : Program} {G : Nat → Option (List PV)} {g : FuncId} {T T' : PT} (h : SoundX P G g T) (h' : SoundX P G g T') : SoundX P G g (fun args M K => T args M K ∨ T' args M K) :=
 ⟨h.1, fun Pr F S blks w args vs K hm hr ho hown hk => hk.elim (h.2 Pr F S blks w args vs K hm hr ho hown) (h'.2 Pr F S blks w args vs K hm hr ho hown)⟩
section
variable {E : Env} {B : Base} {F : Fz} {R : List Nat} {st : St} {w : World}
theorem call_rep (hm : Mem E B F R st.blks w) {l : List Occ} (hown : Owned B.Pr F R w l) {g : FuncId} {Q : List PV → PV → Prop} (hs : Sound E.P E.G g (conT (.pure Q))) {ps : List PV} {vs : Array Value} {r : PV} (hr : RepL (Fz.all w) [] ps vs.toList)
  (ho : occL ps vs.toList = []) (hq : Q ps r) (hsc : r.scalar = true) :
  Calls E.P g vs w (fun e w' => ∃ u, e = .returned u ∧ Rep F R r u ∧ occ r u = [] ∧ Mem E B F R st.blks w' ∧ Owned B.Pr F R w' l ∧ occB w' R st.blks = occB w R st.blks) := by
 have hlt : ∀ {b o v}, Fz.all w b o = some v → w.cell? ⟨b, o, none⟩ = some v ∧ v.oneCell' = true := fun {b o v} h => by
  unfold Fz.all at h
  split at h
  ·rename_i x hx
   split at h
   ·rename_i h1; injection h with h; subst h; exact ⟨hx, h1⟩
   ·cases h
  ·cases h
 have hle : F.le (Fz.all w) := fun b o v h => by
  obtain ⟨h1, h2⟩ := hm.fz b o v h
  simp [Fz.all, h1, h2]
 have hm2 : Mem ⟨E.P, E.G, none, none, 0, []⟩ ⟨fun b => b < w.heap.size, w, Fz.all w, [], [], []⟩ (Fz.all w) [] [] w :=
  {
   os := rfl, tape := rfl, output := rfl, drn := Nat.le_refl _, size := Nat.le_refl _, pr := fun b hb => ⟨hb, rfl⟩, mks := fun c hc => by simp at hc, mnd := List.nodup_nil, fz := fun b o v h => hlt h, fnew := fun _ _ _ h => .inl h, fold := Fz.le_refl _, rnew := fun c hc => by simp at hc, rold := Rle.refl _,
   bound := fun c hc => by simp at hc, glob := fun g cs h => by
    obtain ⟨us, h1, h2⟩ := hm.glob g cs h
    exact ⟨us, h1.mono hle (Rle.refl _), fun j u hj => hle _ _ _ (h2 j u hj)⟩, len := rfl, nd := List.nodup_nil, blk := fun i c b hc => by simp at hc }
 have hcall := hs.2 (fun b => b < w.heap.size) (Fz.all w) [] [] w _ vs (fun r' _ => r' = r) (Rle.refl _) hm2 hr ho ⟨fun c => by simp [occB], fun q hq => by simp [occB] at hq⟩ ⟨r, hq, rfl⟩
 refine hcall.mono ?_
 rintro e w' ⟨r', u, blks', F', R', rfl, rfl, hru, hm', ho'⟩
 obtain ⟨s1, s2⟩ := scalar_rep (F' := F) (R' := R) hsc hru
 have hsame : ∀ {b}, b < w.heap.size → w'.heap[b]? = w.heap[b]? := fun hb => (hm'.pr _ hb).2
 refine ⟨u, rfl, s1, s2, ?_, ⟨hown.1, fun q hq => (hown.2 q hq).mono (fun h => h) (fun _ h => h) (hsame (hown.2 q hq).lt)⟩, occB_congr R st.blks (fun c hc => hsame (hm.bound c hc))⟩
 exact {
     os := hm'.os.trans hm.os, tape := hm'.tape.trans hm.tape, output := hm'.output.trans hm.output, drn := Nat.le_trans hm.drn hm'.drn, size := Nat.le_trans hm.size hm'.size
     pr := fun b hb => ⟨(hm.pr b hb).1, (hsame (Nat.lt_of_lt_of_le (hm.pr b hb).1 hm.size)).trans (hm.pr b hb).2⟩
     fz := fun b o v hv => ⟨by rw [cell_congr (hsame (hm.F_lt hv))]; exact (hm.fz b o v hv).1, (hm.fz b o v hv).2⟩
     fnew := hm.fnew, fold := hm.fold, rnew := hm.rnew, rold := hm.rold
     bound := fun c hc => Nat.lt_of_lt_of_le (hm.bound c hc) hm'.size
     glob := hm.glob, len := hm.len, nd := hm.nd
     blk := fun i c b hc hb => (hm.blk i c b hc hb).mono (Fz.le_refl F) (Rle.refl R) (fun _ h => h) (hsame (hm.bound c (List.mem_of_getElem? hc)))
     mks := fun c hc => ⟨by rw [hsame (Array.getElem?_eq_some_iff.1 (hm.mks c hc).1).1]; exact (hm.mks c hc).1, (hm.mks c hc).2⟩
     mnd := hm.mnd }
def brwD (M : List Blk) : PV → PV
 | .agg cs => .agg (cs.map (brw M))
 | p => brw M p
theorem brwD_rep (hm : Mem E B F R st.blks w) {p : PV} {v : Value} (hr : Rep F R p v) (hn : (brwD st.blks p).noref = true) : Rep (Fz.all w) [] (brwD st.blks p) v := by
 cases p with
 | agg cs =>
  cases hr with
  | agg h1 h => exact .agg h1 (brwL_rep hm h (by simpa [brwD, PV.noref] using hn))
 | _ => exact brw_rep hm hr hn
theorem brwDL_rep (hm : Mem E B F R st.blks w) : ∀ {l : List PV} {vs : List Value}, RepL F R l vs → norefL (l.map (brwD st.blks)) = true → RepL (Fz.all w) [] (l.map (brwD st.blks)) vs
 | [], _, .nil, _ => .nil
 | x :: xs, _, .cons h t, hn => by
  simp [norefL] at hn
  exact .cons (brwD_rep hm h hn.1) (brwDL_rep hm t hn.2)
theorem brwD_occ {M : List Blk} {p : PV} {v : Value} (h : occ p v = []) : occ (brwD M p) v = [] := by
 cases p with
 | agg cs =>
  cases v with
  | agg vs => simp only [brwD, occ] at h ⊢; exact brw_occL h
  | _ => simp [brwD, occ]
 | _ => exact brw_occ (M := M) h
theorem brwD_occL {M : List Blk} : ∀ {l : List PV} {vs : List Value}, occL l vs = [] → occL (l.map (brwD M)) vs = []
 | [], _, _ => by simp [occL]
 | x :: xs, [], _ => by simp [occL]
 | x :: xs, v :: vs, h => by
  simp only [occL, List.append_eq_nil_iff] at h
  simp only [List.map_cons, occL, brwD_occ h.1, brwD_occL h.2, List.nil_append]
end
def deepP (F : List PV → Option (List Prop × PV)) : List PV → List Blk → PV → Prop := fun vs M r => (∃ ps, F (vs.map (brwD M)) = some (ps, r) ∧ All ps) ∧ norefL (vs.map (brwD M)) = true ∧ r.scalar = true
abbrev deepC (F : List PV → Option (List Prop × PV)) : CB := .con (.read (deepP F))
theorem Sound.deep {P : Program} {G : Nat → Option (List PV)} {g : FuncId} {F : List PV → Option (List Prop × PV)} (h : Sound P G g (conT (CB.fn F).toCon)) : Sound P G g (conT (.read (deepP F))) := by
 refine ⟨h.1, ?_⟩
 intro Pr Fz R blks w args vs K hR1 hm hr ho hown ⟨r, ⟨hq, hn, hsc⟩, hk⟩
 refine (call_rep (st := ⟨[], blks⟩) hm hown h (brwDL_rep (st := ⟨[], blks⟩) hm hr hn) (brwD_occL ho) hq hsc).mono ?_
 rintro e w' ⟨u, rfl, h1, h2, h3, h4, h5⟩
 exact ⟨r, u, blks, Fz, R, rfl, hk, h1, h3, by rw [h2, h5, List.nil_append]; exact h4⟩
theorem deep_r (F : List PV → Option (List Prop × PV)) (args : List PV) (M : List Blk) (K : PV → List Blk → Prop) : conY none (.read (deepP F)) args M K = lendK (F (args.map (brwD M))) true (args.map (brwD M)) (fun r => K r M) := by
 show (∃ r, deepP F args M r ∧ K r M) = _
 apply propext
 unfold deepP lendK
 cases hF : F (args.map (brwD M)) with
 | none => simp
 | some x =>
  obtain ⟨ps, r⟩ := x
  simp only [conj_all]
  constructor
  ·rintro ⟨r', ⟨⟨ps', h1, h2⟩, h3, h4⟩, h5⟩
   injection h1 with h1; injection h1 with h1 h6; subst h1; subst h6
   refine ⟨h2, ?_, h5⟩
   intro q hq
   simp only [lentB, List.mem_cons, List.not_mem_nil, or_false] at hq
   rcases hq with hq | hq
   ·rw [hq]; exact h3
   ·rw [hq]; exact h4
  ·rintro ⟨h2, h3, h4⟩
   exact ⟨r, ⟨⟨ps, rfl, h2⟩, h3 _ (by simp [lentB]), h3 _ (by simp [lentB])⟩, h4⟩
theorem Sound.or {P : Program} {G : Nat → Option (List PV)} {g : FuncId} {T T' : PT} (h : Sound P G g T) (h' : Sound P G g T') : Sound P G g (fun args M K => T args M K ∨ T' args M K) :=
 ⟨h.1, fun Pr F R blks w args vs K hR hm hr ho hown hk => hk.elim (h.2 Pr F R blks w args vs K hR hm hr ho hown) (h'.2 Pr F R blks w args vs K hR hm hr ho hown)⟩
theorem Sound.less {P : Program} {G : Nat → Option (List PV)} {g : FuncId} {T : PT} (u : PV → PV) (hu : ∀ (F : Fz) (R : List Nat) (p : PV) (v : Value), Rep F R p v → Rep F R (u p) v) (ho : ∀ p v, occ p v = [] → occ (u p) v = []) (h : Sound P G g T) : Sound P G g (fun args => T (args.map u)) :=
 ⟨h.1, fun Pr F R blks w args vs K hR hm hr hoc hown hk => by
  have h1 : ∀ {l : List PV} {us : List Value}, RepL F R l us → RepL F R (l.map u) us := by
   intro l
   induction l with
   | nil => intro us h; exact h
   | cons x l ih => intro us h; cases h with | cons a t => exact .cons (hu _ _ _ _ a) (ih t)
  have h2 : ∀ {l : List PV} {us : List Value}, occL l us = [] → occL (l.map u) us = [] := by
   intro l
   induction l with
   | nil => intro us _; simp [occL]
   | cons x l ih =>
    intro us h
    cases us with
    | nil => simp [occL]
    | cons v us =>
     simp only [occL, List.append_eq_nil_iff] at h
     simp only [List.map_cons, occL, ho _ _ h.1, ih h.2, List.nil_append]
  exact h.2 Pr F R blks w (args.map u) vs K hR hm (h1 hr) (h2 hoc) hown hk⟩
theorem melt_flat {k : Nat} (hk : ¬ k = 1) : ∀ {xs : List PV}, (∀ x ∈ xs, ∃ cs, x = .agg cs ∧ cs.length = k ∧ cs.all isVal = true) → (xs.flatMap PV.cells).length = xs.length * k ∧ (xs.flatMap PV.cells).all isVal = true ∧ chunks k (xs.flatMap PV.cells) xs.length = xs
 | [], _ => ⟨by simp, rfl, rfl⟩
 | x :: xs, h => by
  obtain ⟨cs, rfl, h1, h2⟩ := h x (List.mem_cons_self ..)
  obtain ⟨i1', i2, i3⟩ := melt_flat hk fun y hy => h y (List.mem_cons_of_mem _ hy)
  simp only [List.flatMap_cons, PV.cells, List.length_append, List.length_cons, List.all_append, h2, i2, Bool.and_self, i1', h1, true_and, chunks, if_neg hk]
  refine ⟨by rw [Nat.succ_mul]; omega, ?_⟩
  rw [List.take_left' h1, List.drop_left' h1, i3]
theorem vals_strip : ∀ {l : List PV}, l.all isVal = true → stripL l = l ∧ l.all plainCell = true ∧ l.all valJ = true
 | [], _ => ⟨rfl, rfl, rfl⟩
 | p :: l, h => by
  simp only [List.all_cons, Bool.and_eq_true] at h
  obtain ⟨a, b, c⟩ := vals_strip h.2
  cases p with
  | val v => exact ⟨by simp only [stripL, PV.strip, a], by simp only [List.all_cons, b, Bool.and_true]; rfl, by simp only [List.all_cons, c, Bool.and_true]; rfl⟩
  | _ => simp [isVal] at h
theorem melt_brw {k m : Nat} (hk0 : 0 < k) (hk : ¬ k = 1) {xs : List PV} (h : ∀ x ∈ xs, ∃ cs, x = .agg cs ∧ cs.length = k ∧ cs.all isVal = true) (p : PV) : brwS k 0 xs.length p (some (.live (padded (xs.flatMap PV.cells) m))) = .sl k xs false := by
 obtain ⟨i1', i2, i3⟩ := melt_flat hk h
 obtain ⟨j1, j2, _⟩ := vals_strip i2
 rw [bs_l]
 have h1 : ((padded (xs.flatMap PV.cells) m).drop 0).take (xs.length * k) = xs.flatMap PV.cells := by
  rw [List.drop_zero, padded]; exact List.take_left' i1'
 rw [h1, if_pos ⟨hk0, by rw [padded, List.length_append, i1']; omega, j2⟩, j1, i3]
theorem melt_vj {k m : Nat} (hk : ¬ k = 1) {xs : List PV} (h : ∀ x ∈ xs, ∃ cs, x = .agg cs ∧ cs.length = k ∧ cs.all isVal = true) : (padded (xs.flatMap PV.cells) m).all valJ = true ∧ m ≤ (padded (xs.flatMap PV.cells) m).length := by
 obtain ⟨i1', i2, i3⟩ := melt_flat hk h
 obtain ⟨_, _, j3⟩ := vals_strip i2
 refine ⟨?_, by rw [padded, List.length_append, List.length_replicate]; omega⟩
 rw [padded, List.all_append, j3, Bool.true_and]
 exact List.all_eq_true.2 fun x hx => by rw [List.eq_of_mem_replicate hx]; rfl
end Go.Ve
