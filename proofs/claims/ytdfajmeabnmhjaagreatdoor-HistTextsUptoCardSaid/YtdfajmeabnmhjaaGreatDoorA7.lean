/- weirlaw30.HistTexts: part of the proof (a value semantics for the model's code, and the functions told by it). -/
import Derived.Test.YtdfajmeabnmhjaaGreatDoorA6
set_option linter.unusedSimpArgs false
set_option linter.unusedVariables false
set_option linter.deprecated false
namespace Go.Ve
inductive BV where
 | pv (v : PV)
 | may (b : Bool) (v : PV)
 deriving Inhabited
def BV.v : BV → PV
 | .pv v => v
 | .may _ v => v
def BV.den : BV → PV
 | .pv v => v
 | .may b v => bif b then v else .tuple []
def BV.ob : BV → List Prop
 | .pv _ => []
 | .may b _ => [b = true]
def BV.strip : BV → BV
 | .pv v => .pv v.strip
 | .may b v => .may b v.strip
theorem BV.den_strip (x : BV) : x.strip.den = x.den.strip := by
 cases x with
 | pv v => rfl
 | may b v => cases b <;> rfl
def All (ps : List Prop) : Prop := ∀ p ∈ ps, p
theorem BV.den_ob {x : BV} (h : All x.ob) : x.den = x.v := by
 cases x with
 | pv v => rfl
 | may b v =>
  have : b = true := h _ (by simp [BV.ob])
  subst this; rfl
def getB : List BV → Tmp → BV
 | [], _ => .pv .junk
 | x :: _, 0 => x
 | _ :: xs, n + 1 => getB xs n
def setB : List BV → Tmp → BV → List BV
 | [], _, _ => []
 | _ :: xs, 0, v => v :: xs
 | x :: xs, n + 1, v => x :: setB xs n v
def putB (T : List BV) : Option Tmp → BV → List BV
 | none, _ => T
 | some d, v => setB T d v
def stripB (T : List BV) : Option Tmp → List BV
 | none => T
 | some t => setB T t (getB T t).strip
theorem getB_den (T : List BV) (t : Tmp) : (getB T t).den = (T.map BV.den).getD t .junk := by
 induction T generalizing t with
 | nil => rfl
 | cons x xs ih => cases t with
  | zero => rfl
  | succ n => simpa [getB] using ih n
theorem setB_den (T : List BV) (t : Tmp) (v : BV) : (setB T t v).map BV.den = (T.map BV.den).set t v.den := by
 induction T generalizing t with
 | nil => rfl
 | cons x xs ih => cases t with
  | zero => rfl
  | succ n => simp [setB, ih]
theorem putB_den (T : List BV) (d : Option Tmp) (v : BV) : (putB T d v).map BV.den = putL (T.map BV.den) d v.den := by
 cases d with
 | none => rfl
 | some d => exact setB_den ..
theorem stripB_den (T : List BV) (d : Option Tmp) : (stripB T d).map BV.den = stripAt (T.map BV.den) d := by
 cases d with
 | none => rfl
 | some t => rw [stripAt_some]; simp only [stripB, setB_den, BV.den_strip, getB_den, putL, getT]
def evB (G : Nat → Option (List PV)) (T : List BV) : Operand → PV
 | .tmp t => (getB T t).v
 | .const v => ofC v
 | .global g => match G g with | some cs => .vptr cs 0 | none => .val (.pointer (some ⟨g, 0, none⟩))
 | .func f => .func (.func f) [] []
def obB (T : List BV) : Operand → List Prop
 | .tmp t => (getB T t).ob
 | _ => []
def obsB (T : List BV) : List Operand → List Prop
 | [] => []
 | x :: xs => obB T x ++ obsB T xs
theorem All.nil : All [] := fun p hp => by simp at hp
theorem All.cons {p : Prop} {ps : List Prop} (h : p) (h' : All ps) : All (p :: ps) := fun q hq => by
 rcases List.mem_cons.1 hq with rfl | hq
 ·exact h
 ·exact h' q hq
theorem All.app {ps qs : List Prop} : All (ps ++ qs) ↔ All ps ∧ All qs := by
 constructor
 ·intro h; exact ⟨fun p hp => h p (List.mem_append_left _ hp), fun p hp => h p (List.mem_append_right _ hp)⟩
 ·rintro ⟨h1, h2⟩ p hp
  rcases List.mem_append.1 hp with hp | hp
  ·exact h1 p hp
  ·exact h2 p hp
theorem evB_aev {E : Env} {T : List BV} {M : List Blk} {x : Operand} (h : All (obB T x)) : aev E ⟨T.map BV.den, M⟩ x = evB E.G T x := by
 cases x with
 | tmp t =>
  have h' : All (getB T t).ob := h
  show (T.map BV.den).getD t undefP = (getB T t).v
  rw [← BV.den_ob h', getB_den]; rfl
 | const v => rfl
 | global g => rfl
 | func f => rfl
theorem obsB_mem {T : List BV} {l : List Operand} (h : All (obsB T l)) {x : Operand} (hx : x ∈ l) : All (obB T x) := by
 induction l with
 | nil => simp at hx
 | cons y l ih =>
  obtain ⟨h1, h2⟩ := All.app.1 h
  rcases List.mem_cons.1 hx with rfl | hx
  ·exact h1
  ·exact ih h2 hx
def opnds : Op → List Operand
 | .pick c a b => [c, a, b]
 | .load _ a => [a]
 | .nilCheck x => [x]
 | .binOp _ _ x y _ => [x, y]
 | .unOp _ _ x => [x]
 | .convert _ _ x => [x]
 | .makeInterface _ x => [x]
 | .makeFunc _ first captured => first.toList ++ captured.toList
 | .fieldAddr _ x _ => [x]
 | .field _ x _ => [x]
 | .indexAddr _ x ix => [x, ix]
 | .index _ x ix => [x, ix]
 | .slice _ x lo hi _ => x :: (lo.toList ++ hi.toList)
 | .extract t _ => [t]
 | .call c => c.args.toList
 | .typeAssert x _ _ _ => [x]
 | .move x => [x]
 | .assign x => [x]
 | .box _ x => [x]
 | .build _ parts => parts.toList.map (·.2)
 | .buildSlice _ _ parts => parts.toList.map (·.2)
 | .store _ a x => [a, x]
 | .makeSlice _ l c => [l, c]
 | _ => []
theorem map_ev {ev ev' : Operand → PV} {l : List Operand} (h : ∀ x ∈ l, ev x = ev' x) : l.map ev = l.map ev' := List.map_congr_left h
theorem qvalE_congr (P : Program) (M : List Blk) (op : Op) {ev ev' : Operand → PV} (h : ∀ x ∈ opnds op, ev x = ev' x) : qvalE P ev M op = qvalE P ev' M op := by
  cases op with
  | makeFunc fn first captured =>
    simp only [opnds] at h
    simp only [qvalE]
    rw [map_ev (fun x hx => h x (List.mem_append_left _ hx)), map_ev (fun x hx => h x (List.mem_append_right _ hx))]
  | slice t x lo hi mx =>
    have h1 := h x (by simp [opnds])
    have h2 : lo.map ev = lo.map ev' := by
      cases lo with
      | none => rfl
      | some y => simp [h y (by simp [opnds])]
    have h3 : hi.map ev = hi.map ev' := by
      cases hi with
      | none => rfl
      | some y => simp [h y (by simp [opnds])]
    cases mx with
    | none => simp only [qvalE, h1, h2, h3]
    | some m => rfl
  | call c =>
    obtain ⟨cal, args, ts⟩ := c
    cases cal with
    | builtin b =>
      cases b <;> first
        | rfl
        | (simp only [opnds] at h
           unfold qvalE
           try simp only
           cases hl : args.toList with
           | nil => rfl
           | cons x l =>
             rw [hl] at h
             have h1 := h x (by simp)
             cases l with
             | nil => first | rfl | simp only [h1] | (generalize ts.toList = tl; cases tl with | nil => rfl | cons t tl => (cases tl with | nil => simp only [h1] | cons _ _ => rfl))
             | cons y l =>
               have h2 := h y (by simp)
               cases l with
               | nil => first | rfl | simp only [h1, h2]
               | cons z l => rfl)
    | _ => rfl
  | _ => first
    | rfl
    | (simp only [opnds, List.mem_cons, List.not_mem_nil, or_false, forall_eq_or_imp, forall_eq] at h
       simp only [qvalE, h])
theorem outfE_congr (P : Program) (M : List Blk) (R : RI) (d : Option Tmp) (op : Op) {ev ev' : Operand → PV} (h : ∀ x ∈ opnds op, ev x = ev' x) : outfE P ev M R d op = outfE P ev' M R d op := by
  have hq := qvalE_congr P M op h
  cases op with
  | build t parts =>
    simp only [opnds] at h
    simp only [outfE]
    have : (parts.toList.map fun (i, x) => (i, (ev x).strip)) = (parts.toList.map fun (i, x) => (i, (ev' x).strip)) := List.map_congr_left fun p hp => by
      simp only [h p.2 (List.mem_map.2 ⟨p, hp, rfl⟩)]
    rw [this]
  | buildSlice t n parts =>
    simp only [opnds] at h
    simp only [outfE]
    have : (parts.toList.map fun p => (ev p.2).strip) = (parts.toList.map fun p => (ev' p.2).strip) := List.map_congr_left fun p hp => by
      simp only [h p.2 (List.mem_map.2 ⟨p, hp, rfl⟩)]
    rw [this]
  | call c =>
    obtain ⟨cal, args, ts⟩ := c
    cases cal with
    | builtin b =>
      cases b with
      | append =>
        simp only [opnds] at h
        unfold outfE
        try simp only
        cases hl : args.toList with
        | nil => rfl
        | cons x l =>
          rw [hl] at h
          have h1 := h x (by simp)
          cases l with
          | nil => rfl
          | cons y l =>
            have h2 := h y (by simp)
            cases l with
            | nil => generalize ts.toList = tl; cases tl with | nil => rfl | cons t tl => (cases tl with | nil => rfl | cons t' tl => (cases tl with | nil => simp only [h1, h2] | cons _ _ => rfl))
            | cons z l => rfl
      | clear =>
        simp only [outfE]
        cases hl : args.toList with
        | nil => rfl
        | cons x l =>
          have h1 := h x (by show x ∈ args.toList; rw [hl]; simp)
          cases l with
          | nil => generalize ts.toList = tl; cases tl with | nil => rfl | cons t tl => (cases tl with | nil => simp only [h1] | cons _ _ => rfl)
          | cons y l => rfl
      | _ => first | rfl | (show (qvalE P ev M _).map _ = (qvalE P ev' M _).map _; rw [hq])
    | _ => first | rfl | (show (qvalE P ev M _).map _ = (qvalE P ev' M _).map _; rw [hq])
  | _ => first
    | rfl
    | (simp only [outfE, hq]; done)
    | (simp only [opnds, List.mem_cons, List.not_mem_nil, or_false, forall_eq_or_imp, forall_eq] at h
       simp only [outfE, h])
end Go.Ve
