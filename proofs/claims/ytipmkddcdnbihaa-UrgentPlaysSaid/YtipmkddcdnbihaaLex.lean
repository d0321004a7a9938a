/- A region that draws its order, walked once in the order of the text: its calls may lay memory and answer values that hang on it. No program in sight. -/
import Derived.Still
import Derived.StillTail
import Derived.Below
import Derived.WalkKit
import Derived.Deep.RegionHeld
import Derived.Test.YtipmkddcdnbihaaBase
namespace Go.Proofs.Ytipmkddcdnbihaa.Lex

/-- What is known of an operation's value, and what it reads as in a world. -/
structure Loose where
  T : Value → Prop
  R : Value → World → Prop

section
variable {P : Program} {ops : Array Oper} {md : Region.Mode} {E : World → World → Prop} {w0 : World} {sp : Nat → Option Loose} {Q : Exit → Act → World → Prop}

/-- Does operation k wait for operation j? -/
def reach (md : Region.Mode) (ops : Array Oper) : Nat → Nat → Nat → Bool
  | 0, _, _ => false
  | n + 1, k, j => match ops[k]? with
    | none => false
    | some o => o.after.any fun e => Region.binds md e && (e.on == j || reach md ops n e.on j)
def dep (md : Region.Mode) (ops : Array Oper) (k j : Nat) : Bool := reach md ops ops.size k j

def upd (F : Nat → World → Prop) (j : Nat) (r : World → Prop) : Nat → World → Prop := fun n W => F n W ∧ (n = j → r W)
/-- The worlds in which operation k may come up. -/
def Cls (md : Region.Mode) (ops : Array Oper) (E : World → World → Prop) (w0 : World) (k : Nat) (F : Nat → World → Prop) (W : World) : Prop := E w0 W ∧ ∀ j, dep md ops k j = true → F j W
def All (E : World → World → Prop) (w0 : World) (F : Nat → World → Prop) (W : World) : Prop := E w0 W ∧ ∀ j, F j W

def looseAt (P : Program) (E : World → World → Prop) (W : World) (s : Loose) : Result Next → Prop
  | .ok (.value v) W' => s.T v ∧ E W W' ∧ s.R v W'
  | .ok .skip W' => s.T undef ∧ E W W' ∧ s.R undef W'
  | .ok (.enter f args) W' => Calls P f args W' fun e W'' => ∃ v, e = .returned v ∧ s.T v ∧ E W W'' ∧ s.R v W''
  | _ => False

def stepL (P : Program) (md : Region.Mode) (ops : Array Oper) (E : World → World → Prop) (w0 : World) (sp : Nat → Option Loose) (j : Nat) (o : Oper) (K : Act → (Nat → World → Prop) → Prop) (a : Act) (F : Nat → World → Prop) : Prop :=
  if Region.wanted o (yielded ops a.tmps) = true then
    match sp j with
    | none => ∃ v, (∀ W, Cls md ops E w0 j F W → (execOp a.eval o).run P W = .ok (.value v) W) ∧ K (a.put o.dst v) F
    | some s => (∀ W, Cls md ops E w0 j F W → looseAt P E W s ((execOp a.eval o).run P W)) ∧ ∀ v, s.T v → (∃ W, All E w0 (upd F j (s.R v)) W) → K (a.put o.dst v) (upd F j (s.R v))
  else K (a.put o.dst undef) F
def opL (P : Program) (md : Region.Mode) (ops : Array Oper) (E : World → World → Prop) (w0 : World) (sp : Nat → Option Loose) (j : Nat) (K : Act → (Nat → World → Prop) → Prop) (a : Act) (F : Nat → World → Prop) : Prop :=
  match ops[j]? with
  | none => K a F
  | some o => stepL P md ops E w0 sp j o K a F
def anyL (P : Program) (md : Region.Mode) (ops : Array Oper) (E : World → World → Prop) (w0 : World) (sp : Nat → Option Loose) (Q : Exit → Act → World → Prop) : Nat → Array Bool → Act → (Nat → World → Prop) → Prop
  | 0, listed, a, F => Region.ready md ops listed = [] ∧ ∀ W, All E w0 F W → Q .normal a W
  | fuel + 1, listed, a, F => (Region.ready md ops listed = [] → ∀ W, All E w0 F W → Q .normal a W) ∧
    ∀ j ∈ Region.ready md ops listed, opL P md ops E w0 sp j (anyL P md ops E w0 sp Q fuel (listed.setIfInBounds j true)) a F
def lexL (P : Program) (md : Region.Mode) (ops : Array Oper) (E : World → World → Prop) (w0 : World) (sp : Nat → Option Loose) (Q : Exit → Act → World → Prop) : Nat → List Oper → Act → (Nat → World → Prop) → Prop
  | _, [], a, F => ∀ W, All E w0 F W → Q .normal a W
  | k, o :: rest, a, F => stepL P md ops E w0 sp k o (lexL P md ops E w0 sp Q (k + 1) rest) a F

def StF (E : World → World → Prop) (F : Nat → World → Prop) : Prop := ∀ n W W', F n W → E W W' → F n W'
theorem StF.upd {F : Nat → World → Prop} (h : StF E F) {j : Nat} {r : World → Prop} (hr : ∀ W W', r W → E W W' → r W') : StF E (upd F j r) :=
  fun n W W' hf he => ⟨h n W W' hf.1 he, fun e => hr W W' (hf.2 e) he⟩
theorem All.cls {k : Nat} {F : Nat → World → Prop} {W : World} (h : All E w0 F W) : Cls md ops E w0 k F W := ⟨h.1, fun j _ => h.2 j⟩
theorem All.step (hE : ∀ a b c, E a b → E b c → E a c) {F : Nat → World → Prop} (hF : StF E F) {W W' : World} (h : All E w0 F W) (he : E W W') : All E w0 F W' :=
  ⟨hE _ _ _ h.1 he, fun j => hF j _ _ (h.2 j) he⟩
theorem All.upd {F : Nat → World → Prop} {W : World} (h : All E w0 F W) {j : Nat} {r : World → Prop} (hr : r W) : All E w0 (upd F j r) W := ⟨h.1, fun n => ⟨h.2 n, fun _ => hr⟩⟩
theorem upd_comm (F : Nat → World → Prop) (i j : Nat) (r s : World → Prop) : upd (upd F i r) j s = upd (upd F j s) i r := by
  funext n W
  simp only [upd, and_assoc]
  rw [and_comm (a := n = i → r W)]
theorem cls_upd {k i : Nat} {F : Nat → World → Prop} {r : World → Prop} (h : dep md ops k i = false) (W : World) : Cls md ops E w0 k (upd F i r) W ↔ Cls md ops E w0 k F W :=
  ⟨fun hc => ⟨hc.1, fun j hj => (hc.2 j hj).1⟩, fun hc => ⟨hc.1, fun j hj => ⟨hc.2 j hj, fun e => by subst e; rw [h] at hj; cases hj⟩⟩⟩

theorem calls_some {f : FuncId} {args : Array Value} {w : World} {R : Ending → World → Prop} (h : Calls P f args w R) : ∃ e w', R e w' := by
  obtain ⟨e, w', _, hr, _⟩ := h []
  exact ⟨e, w', hr⟩

theorem any_of (hE : ∀ a b c, E a b → E b c → E a c) (hR : ∀ j s, sp j = some s → ∀ v W W', s.R v W → E W W' → s.R v W') :
    ∀ (fuel : Nat) (listed : Array Bool) (a : Act) (F : Nat → World → Prop) (W : World), StF E F → All E w0 F W → anyL P md ops E w0 sp Q fuel listed a F → wpAny P md ops Q fuel listed a W
  | 0, _, _, _, W, _, hW, h => ⟨h.1, h.2 W hW⟩
  | fuel + 1, listed, a, F, W, hF, hW, h => by
    refine ⟨fun h0 => h.1 h0 W hW, fun j hj => ?_⟩
    have h1 := h.2 j hj
    unfold opL at h1
    unfold wpOp
    cases ho : ops[j]? with
    | none => simp only [ho] at h1 ⊢; exact any_of hE hR fuel _ _ _ _ hF hW h1
    | some o =>
      simp only [ho] at h1 ⊢
      unfold stepL at h1
      by_cases hw : Region.wanted o (yielded ops a.tmps) = true
      · simp only [hw, if_true] at h1 ⊢
        refine .inl ?_
        unfold Oper.wp
        cases hs : sp j with
        | none =>
          simp only [hs] at h1
          obtain ⟨v, hv, hk⟩ := h1
          rw [hv W hW.cls]
          exact any_of hE hR fuel _ _ _ _ hF hW hk
        | some s =>
          simp only [hs] at h1
          obtain ⟨hv, hk⟩ := h1
          have h2 := hv W hW.cls
          have hFs : ∀ v, StF E (upd F j (s.R v)) := fun v => hF.upd (hR j s hs v)
          generalize (execOp a.eval o).run P W = r at h2 ⊢
          cases r with
          | ok n W' =>
            cases n <;> simp only [looseAt] at h2 <;> simp only [Oper.upon]
            case value v =>
              obtain ⟨hT, he, hr⟩ := h2
              have hA := (hW.step hE hF he).upd (j := j) (r := s.R v) hr
              exact any_of hE hR fuel _ _ _ _ (hFs v) hA (hk v hT ⟨_, hA⟩)
            case skip =>
              obtain ⟨hT, he, hr⟩ := h2
              have hA := (hW.step hE hF he).upd (j := j) (r := s.R undef) hr
              exact any_of hE hR fuel _ _ _ _ (hFs undef) hA (hk undef hT ⟨_, hA⟩)
            case enter f args =>
              refine h2.mono fun e W'' ⟨v, hev, hT, he, hr⟩ => ?_
              subst hev
              have hA := (hW.step hE hF he).upd (j := j) (r := s.R v) hr
              exact any_of hE hR fuel _ _ _ _ (hFs v) hA (hk v hT ⟨_, hA⟩)
          | halt x W' => simp only [looseAt] at h2
      · simp only [hw] at h1 ⊢
        exact any_of hE hR fuel _ _ _ _ hF hW h1

def Closed (md : Region.Mode) (ops : Array Oper) (listed : Array Bool) : Prop :=
  ∀ k o, ops[k]? = some o → listed.getD k false = true → ∀ e ∈ o.after, Region.binds md e = true → listed.getD e.on false = true
theorem Closed.set {listed : Array Bool} (h : Closed md ops listed) {i : Nat} (hi : i ∈ Region.ready md ops listed) : Closed md ops (listed.setIfInBounds i true) := by
  intro k o ho hk e he hb
  by_cases hki : i = k
  · subst hki
    obtain ⟨_, o', ho', hall⟩ := mem_ready.1 hi
    rw [ho] at ho'
    cases ho'
    exact getD_set_true (hall e he hb)
  · rw [getD_set_ne false hki] at hk
    exact getD_set_true (h k o ho hk e he hb)
theorem reach_listed {listed : Array Bool} (h : Closed md ops listed) : ∀ (n k j : Nat), (∀ o, ops[k]? = some o → ∀ e ∈ o.after, Region.binds md e = true → listed.getD e.on false = true) → reach md ops n k j = true → listed.getD j false = true
  | 0, _, _, _, hr => by simp [reach] at hr
  | n + 1, k, j, hk, hr => by
    unfold reach at hr
    cases ho : ops[k]? with
    | none => simp [ho] at hr
    | some o =>
      simp only [ho] at hr
      obtain ⟨e, he, hb⟩ := Array.any_eq_true'.1 hr
      simp only [Bool.and_eq_true, Bool.or_eq_true, beq_iff_eq] at hb
      obtain ⟨hb1, hb2⟩ := hb
      have h1 := hk o ho e he hb1
      rcases hb2 with rfl | hb2
      · exact h1
      · exact reach_listed h n e.on j (fun o' ho' => h e.on o' ho' h1) hb2
theorem not_dep {listed : Array Bool} (h : Closed md ops listed) {j i : Nat} (hj : j ∈ Region.ready md ops listed) (hi : listed.getD i true = false) : dep md ops j i = false := by
  cases hd : dep md ops j i with
  | false => rfl
  | true =>
    obtain ⟨_, o, ho, hall⟩ := mem_ready.1 hj
    have h1 := reach_listed h _ j i (fun o' ho' => by rw [ho] at ho'; cases ho'; exact hall) hd
    rcases Nat.lt_or_ge i listed.size with h' | h'
    · simp [h'] at h1 hi
      rw [hi] at h1
      cases h1
    · simp [Array.getElem?_eq_none h'] at hi

/-- An operation that may be taken first. -/
theorem anyL_first (hE : ∀ a b c, E a b → E b c → E a c) (hR : ∀ j s, sp j = some s → ∀ v W W', s.R v W → E W W' → s.R v W') {i : Nat} {oi : Oper} (hi : ops[i]? = some oi) (hsel : ∀ (j : Nat) (o : Oper) cs b, ops[j]? = some o → o.op ≠ .select cs b) :
    ∀ (fuel : Nat) (listed : Array Bool) (a : Act) (F : Nat → World → Prop), Closed md ops listed → StF E F → (∃ W, All E w0 F W) →
      (∀ j oj, ops[j]? = some oj → j ≠ i → listed.getD j true = false → (∀ e ∈ oj.after, Region.binds md e = true → e.on ≠ i) → oi.apart ops oj = true) →
      i ∈ Region.ready md ops listed →
      stepL P md ops E w0 sp i oi (anyL P md ops E w0 sp Q fuel (listed.setIfInBounds i true)) a F → anyL P md ops E w0 sp Q (fuel + 1) listed a F := by
  intro fuel
  induction fuel with
  | zero =>
    intro listed a F hcl hF hex hfree hr H
    refine ⟨fun h => (by rw [h] at hr; cases hr), fun j hj => ?_⟩
    by_cases hji : j = i
    · subst hji
      unfold opL
      simp only [hi]
      exact H
    · exfalso
      have h1 := ready_mono hj hji
      have h2 : ∃ a F, anyL P md ops E w0 sp Q 0 (listed.setIfInBounds i true) a F := by
        unfold stepL at H
        by_cases hw : Region.wanted oi (yielded ops a.tmps) = true
        · simp only [hw, if_true] at H
          cases hs : sp i with
          | none => simp only [hs] at H; obtain ⟨v, _, hk⟩ := H; exact ⟨_, _, hk⟩
          | some s =>
            simp only [hs] at H
            obtain ⟨hv, hk⟩ := H
            obtain ⟨W, hW⟩ := hex
            have h3 := hv W hW.cls
            generalize (execOp a.eval oi).run P W = r at h3
            cases r with
            | ok n W' =>
              cases n <;> simp only [looseAt] at h3
              case value v => exact ⟨_, _, hk v h3.1 ⟨_, (hW.step hE hF h3.2.1).upd h3.2.2⟩⟩
              case skip => exact ⟨_, _, hk undef h3.1 ⟨_, (hW.step hE hF h3.2.1).upd h3.2.2⟩⟩
              case enter f args =>
                obtain ⟨e, W'', v, _, hT, he, hr⟩ := calls_some h3
                exact ⟨_, _, hk v hT ⟨_, (hW.step hE hF he).upd hr⟩⟩
            | halt x W' => simp only [looseAt] at h3
        · simp only [hw] at H
          exact ⟨_, _, H⟩
      obtain ⟨_, _, h2⟩ := h2
      rw [h2.1] at h1
      cases h1
  | succ fuel ih =>
    intro listed a F hcl hF hex hfree hr H
    refine ⟨fun h => (by rw [h] at hr; cases hr), fun j hj => ?_⟩
    by_cases hji : j = i
    · subst hji
      unfold opL
      simp only [hi]
      exact H
    · obtain ⟨hjun, oj, hoj, hall⟩ := mem_ready.1 hj
      have hiun := (mem_ready.1 hr).1
      have hnot : ∀ e ∈ oj.after, Region.binds md e = true → e.on ≠ i := fun e he hb heq => by
        have h1 := hall e he hb
        rw [heq] at h1
        rcases Nat.lt_or_ge i listed.size with h' | h'
        · simp [h'] at hiun h1; rw [hiun] at h1; cases h1
        · simp [Array.getElem?_eq_none h'] at h1
      have hap := hfree j oj hoj hji hjun hnot
      obtain ⟨p1, p2, p3⟩ := Oper.apart_spec hap
      have hsi : ∀ cs b, oi.op ≠ .select cs b := fun cs b => hsel i oi cs b hi
      have hsj : ∀ cs b, oj.op ≠ .select cs b := fun cs b => hsel j oj cs b hoj
      have hdep : dep md ops j i = false := not_dep hcl hj hiun
      have hdep2 : dep md ops i j = false := not_dep hcl hr hjun
      have hcl2 := hcl.set hj
      have hfree' : ∀ k ok, ops[k]? = some ok → k ≠ i → (listed.setIfInBounds j true).getD k true = false →
          (∀ e ∈ ok.after, Region.binds md e = true → e.on ≠ i) → oi.apart ops ok = true := fun k ok hk hki hun hno => by
        refine hfree k ok hk hki ?_ hno
        by_cases hjk : j = k
        · subst hjk; exact hjun
        · rw [getD_set_ne true hjk] at hun; exact hun
      have hr2 := ready_mono hr (Ne.symm hji)
      have hjr := ready_mono hj hji
      -- what i's step says, at each of its values: j's step behind it
      have hsw : (listed.setIfInBounds j true).setIfInBounds i true = (listed.setIfInBounds i true).setIfInBounds j true := Array.setIfInBounds_comm _ _ hji
      obtain ⟨W, hW⟩ := hex
      unfold opL
      simp only [hoj]
      -- i's step anew, behind j's value u and facts F'
      have again : ∀ (u : Value) (F' : Nat → World → Prop), (∀ W, Cls md ops E w0 i F' W → Cls md ops E w0 i F W) → 
          (∀ v G, (sp i = none ∨ Region.wanted oi (yielded ops a.tmps) = false) → G = F' → anyL P md ops E w0 sp Q (fuel + 1) (listed.setIfInBounds i true) (a.put oi.dst v) F → anyL P md ops E w0 sp Q fuel ((listed.setIfInBounds i true).setIfInBounds j true) ((a.put oi.dst v).put oj.dst u) G) →
          (∀ v s, sp i = some s → (∃ W, All E w0 (upd F' i (s.R v)) W) → (∃ W, All E w0 (upd F i (s.R v)) W) ∧ (anyL P md ops E w0 sp Q (fuel + 1) (listed.setIfInBounds i true) (a.put oi.dst v) (upd F i (s.R v)) → anyL P md ops E w0 sp Q fuel ((listed.setIfInBounds i true).setIfInBounds j true) ((a.put oi.dst v).put oj.dst u) (upd F' i (s.R v)))) →
          stepL P md ops E w0 sp i oi (anyL P md ops E w0 sp Q fuel ((listed.setIfInBounds j true).setIfInBounds i true)) (a.put oj.dst u) F' := by
        intro u F' hc hq hl
        unfold stepL at H ⊢
        rw [wanted_put oi a oj.dst u p3, execOp_put oi hsi a oj.dst u p3, hsw]
        by_cases hw : Region.wanted oi (yielded ops a.tmps) = true
        · simp only [hw, if_true] at H ⊢
          cases hs : sp i with
          | none =>
            simp only [hs] at H
            obtain ⟨v, hv, hk⟩ := H
            refine ⟨v, fun W hW => hv W (hc W hW), ?_⟩
            rw [← Act.put_comm a v u p2]
            exact hq v F' (.inl hs) rfl hk
          | some s =>
            simp only [hs] at H
            obtain ⟨hv, hk⟩ := H
            refine ⟨fun W hW => hv W (hc W hW), fun v hT hx => ?_⟩
            rw [← Act.put_comm a v u p2]
            obtain ⟨hx', hl'⟩ := hl v s hs hx
            exact hl' (hk v hT hx')
        · simp only [hw] at H ⊢
          rw [← Act.put_comm a undef u p2]
          exact hq undef F' (.inr (by simpa using hw)) rfl H
      -- one value of i at the least, with a world
      have some_i : ∃ v G, (G = F ∨ ∃ s, sp i = some s ∧ G = upd F i (s.R v)) ∧ anyL P md ops E w0 sp Q (fuel + 1) (listed.setIfInBounds i true) (a.put oi.dst v) G := by
        unfold stepL at H
        by_cases hw : Region.wanted oi (yielded ops a.tmps) = true
        · simp only [hw, if_true] at H
          cases hs : sp i with
          | none => simp only [hs] at H; obtain ⟨v, _, hk⟩ := H; exact ⟨_, _, .inl rfl, hk⟩
          | some s =>
            simp only [hs] at H
            obtain ⟨hv, hk⟩ := H
            have h3 := hv W hW.cls
            generalize (execOp a.eval oi).run P W = r at h3
            cases r with
            | ok n W' =>
              cases n <;> simp only [looseAt] at h3
              case value v => exact ⟨_, _, .inr ⟨s, rfl, rfl⟩, hk v h3.1 ⟨_, (hW.step hE hF h3.2.1).upd h3.2.2⟩⟩
              case skip => exact ⟨_, _, .inr ⟨s, rfl, rfl⟩, hk undef h3.1 ⟨_, (hW.step hE hF h3.2.1).upd h3.2.2⟩⟩
              case enter f args =>
                obtain ⟨e, W'', v, _, hT, he, hr⟩ := calls_some h3
                exact ⟨_, _, .inr ⟨s, rfl, rfl⟩, hk v hT ⟨_, (hW.step hE hF he).upd hr⟩⟩
            | halt x W' => simp only [looseAt] at h3
        · simp only [hw] at H
          exact ⟨_, _, .inl rfl, H⟩
      have clsj : ∀ (v : Value) (G : Nat → World → Prop), (G = F ∨ ∃ s, sp i = some s ∧ G = upd F i (s.R v)) → ∀ W, Cls md ops E w0 j F W → Cls md ops E w0 j G W := by
        rintro v G (rfl | ⟨s, _, rfl⟩) W h
        · exact h
        · exact (cls_upd hdep W).2 h
      have stepj : ∀ (v : Value) (G : Nat → World → Prop), anyL P md ops E w0 sp Q (fuel + 1) (listed.setIfInBounds i true) (a.put oi.dst v) G →
          stepL P md ops E w0 sp j oj (anyL P md ops E w0 sp Q fuel ((listed.setIfInBounds i true).setIfInBounds j true)) (a.put oi.dst v) G := by
        intro v G h
        have := h.2 j hjr
        unfold opL at this
        simpa only [hoj] using this
      obtain ⟨v0, G0, hG0, h0⟩ := some_i
      have h0j := stepj v0 G0 h0
      unfold stepL at h0j ⊢
      rw [wanted_put oj a oi.dst v0 p1, execOp_put oj hsj a oi.dst v0 p1] at h0j
      by_cases hw : Region.wanted oj (yielded ops a.tmps) = true
      · simp only [hw, if_true] at h0j ⊢
        cases hs : sp j with
        | none =>
          simp only [hs] at h0j
          obtain ⟨u, hu, _⟩ := h0j
          have hu' : ∀ W, Cls md ops E w0 j F W → (execOp a.eval oj).run P W = .ok (.value u) W := fun W h => hu W (clsj v0 G0 hG0 W h)
          have key : ∀ (v : Value) (G : Nat → World → Prop), (G = F ∨ ∃ s, sp i = some s ∧ G = upd F i (s.R v)) → anyL P md ops E w0 sp Q (fuel + 1) (listed.setIfInBounds i true) (a.put oi.dst v) G →
              anyL P md ops E w0 sp Q fuel ((listed.setIfInBounds i true).setIfInBounds j true) ((a.put oi.dst v).put oj.dst u) G := by
            intro v G hG h
            have hj2 := stepj v G h
            unfold stepL at hj2
            rw [wanted_put oj a oi.dst v p1, execOp_put oj hsj a oi.dst v p1] at hj2
            simp only [hw, if_true, hs] at hj2
            obtain ⟨u2, hu2, hk2⟩ := hj2
            have e1 := hu2 W (clsj v G hG W hW.cls)
            rw [hu' W hW.cls] at e1
            injection e1 with e1 _
            injection e1 with e1
            subst e1
            exact hk2
          refine ⟨u, hu', ih (listed.setIfInBounds j true) (a.put oj.dst u) F hcl2 hF ⟨W, hW⟩ hfree' hr2 (again u F (fun _ h => h) ?_ ?_)⟩
          · intro v G _ hG h
            subst hG
            exact key v _ (.inl rfl) h
          · intro v s hsi hx
            exact ⟨hx, fun h => key v _ (.inr ⟨s, hsi, rfl⟩) h⟩
        | some s =>
          simp only [hs] at h0j
          obtain ⟨hv0, _⟩ := h0j
          refine ⟨fun W h => hv0 W (clsj v0 G0 hG0 W h), fun u hT hx => ih (listed.setIfInBounds j true) (a.put oj.dst u) _ hcl2 (hF.upd (hR j s hs u)) hx hfree' hr2 (again u _ (fun W h => (cls_upd hdep2 W).1 h) ?_ ?_)⟩
          · intro v G _ hG h
            subst hG
            have hj2 := stepj v F h
            unfold stepL at hj2
            rw [wanted_put oj a oi.dst v p1, execOp_put oj hsj a oi.dst v p1] at hj2
            simp only [hw, if_true, hs] at hj2
            exact hj2.2 u hT hx
          · intro v t ht hx2
            obtain ⟨W2, hW2⟩ := hx2
            refine ⟨⟨W2, hW2.1, fun n => ⟨(hW2.2 n).1.1, (hW2.2 n).2⟩⟩, fun h => ?_⟩
            have hj2 := stepj v _ h
            unfold stepL at hj2
            rw [wanted_put oj a oi.dst v p1, execOp_put oj hsj a oi.dst v p1] at hj2
            simp only [hw, if_true, hs] at hj2
            have := hj2.2 u hT ⟨W2, by rw [upd_comm]; exact hW2⟩
            rwa [upd_comm] at this
      · simp only [hw]
        have key : ∀ (v : Value) (G : Nat → World → Prop), anyL P md ops E w0 sp Q (fuel + 1) (listed.setIfInBounds i true) (a.put oi.dst v) G →
            anyL P md ops E w0 sp Q fuel ((listed.setIfInBounds i true).setIfInBounds j true) ((a.put oi.dst v).put oj.dst undef) G := by
          intro v G h
          have hj2 := stepj v G h
          unfold stepL at hj2
          rw [wanted_put oj a oi.dst v p1] at hj2
          rwa [if_neg hw] at hj2
        refine ih (listed.setIfInBounds j true) (a.put oj.dst undef) F hcl2 hF ⟨W, hW⟩ hfree' hr2 (again undef F (fun _ h => h) ?_ ?_)
        · intro v G _ hG h
          subst hG
          exact key v _ h
        · intro v s _ hx
          exact ⟨hx, fun h => key v _ h⟩

theorem anyL_lex (hE : ∀ a b c, E a b → E b c → E a c) (hR : ∀ j s, sp j = some s → ∀ v W W', s.R v W → E W W' → s.R v W') (hs : Region.noSelect ops = true) :
    ∀ (l : List Oper) (k : Nat) (listed : Array Bool) (a : Act) (F : Nat → World → Prop), (∀ j, l[j]? = ops[k + j]?) → Closed md ops listed → StF E F → (∃ W, All E w0 F W) →
    Region.lexFrom md ops l.length k listed = true → lexL P md ops E w0 sp Q k l a F → anyL P md ops E w0 sp Q l.length listed a F
  | [], _, _, _, _, _, _, _, _, hB, h => ⟨by simpa [Region.lexFrom] using hB, h⟩
  | o :: l, k, listed, a, F, hl, hcl, hF, hex, hB, h => by
    have h0 : ops[k]? = some o := by simpa using (hl 0).symm
    simp only [List.length_cons, Region.lexFrom, Bool.and_eq_true] at hB
    obtain ⟨⟨hr, hf⟩, hB'⟩ := hB
    have hr' : k ∈ Region.ready md ops listed := by simpa using hr
    have hl' : ∀ j, l[j]? = ops[k + 1 + j]? := fun j => by have := hl (j + 1); simpa [Nat.add_assoc, Nat.add_comm 1 j] using this
    refine anyL_first hE hR h0 (Region.noSelect_spec hs) l.length listed a F hcl hF hex (Region.free_spec h0 hf) hr' ?_
    unfold lexL at h
    unfold stepL at h ⊢
    by_cases hw : Region.wanted o (yielded ops a.tmps) = true
    · simp only [hw, if_true] at h ⊢
      cases hsp : sp k with
      | none =>
        simp only [hsp] at h
        obtain ⟨v, hv, hk⟩ := h
        exact ⟨v, hv, anyL_lex hE hR hs l (k + 1) _ _ F hl' (hcl.set hr') hF hex hB' hk⟩
      | some s =>
        simp only [hsp] at h
        exact ⟨h.1, fun v hT hx => anyL_lex hE hR hs l (k + 1) _ _ _ hl' (hcl.set hr') (hF.upd (hR k s hsp v)) hx hB' (h.2 v hT hx)⟩
    · rw [if_neg hw] at h ⊢
      exact anyL_lex hE hR hs l (k + 1) _ _ F hl' (hcl.set hr') hF hex hB' h

/-- A region that draws its order, walked once in the order of the text. -/
theorem wp_region_lex {id : Nat} {a : Act} {w : World} {l : List Oper} (E : World → World → Prop) (sp : Nat → Option Loose) (hm : P.follows .mixedOrders = true) (hB : Region.lexB .any l.toArray = true) (h0 : ∀ a, E a a) (hE : ∀ a b c, E a b → E b c → E a c)
    (hR : ∀ j s, sp j = some s → ∀ v W W', s.R v W → E W W' → s.R v W')
    (h : lexL P .any l.toArray E w.drew sp Q 0 l a (fun _ _ => True)) : (Code.region id l.toArray true).wp P Q a w := by
  simp only [Region.lexB, Bool.and_eq_true] at hB
  refine wp_region_any hm (any_of hE hR _ _ _ (fun _ _ => True) _ (fun _ _ _ _ _ => trivial) (w0 := w.drew) (E := E) (sp := sp) ⟨h0 _, fun _ => trivial⟩ ?_)
  have := anyL_lex (md := .any) (Q := Q) (P := P) (w0 := w.drew) hE hR hB.1 l 0 (Array.replicate l.toArray.size false) a (fun _ _ => True) (by simp)
    (fun k o _ hk => by
      exfalso
      rcases Nat.lt_or_ge k l.length with h | h
      · simp [h] at hk
      · simp [h] at hk) (fun _ _ _ _ _ => trivial) ⟨w.drew, h0 _, fun _ => trivial⟩ (by simpa using hB.2) h
  simpa using this
/-- As anyL; behind the first n operations: L. -/
def anyT (P : Program) (md : Region.Mode) (ops : Array Oper) (E : World → World → Prop) (w0 : World) (sp : Nat → Option Loose) (n : Nat) (L : Array Bool → Act → (Nat → World → Prop) → Prop) : Nat → Array Bool → Act → (Nat → World → Prop) → Prop
  | 0, listed, a, F => L listed a F
  | fuel + 1, listed, a, F => Region.ready md ops listed ≠ [] ∧ ∀ j ∈ Region.ready md ops listed, j < n ∧ opL P md ops E w0 sp j (anyT P md ops E w0 sp n L fuel (listed.setIfInBounds j true)) a F
theorem any_ofT {n g : Nat} {L : Array Bool → Act → (Nat → World → Prop) → Prop} (hL : ∀ listed a F W, L listed a F → All E w0 F W → wpAny P md ops Q g listed a W) (hE : ∀ a b c, E a b → E b c → E a c) (hR : ∀ j s, sp j = some s → ∀ v W W', s.R v W → E W W' → s.R v W') :
    ∀ (fuel : Nat) (listed : Array Bool) (a : Act) (F : Nat → World → Prop) (W : World), StF E F → All E w0 F W → anyT P md ops E w0 sp n L fuel listed a F → wpAny P md ops Q (fuel + g) listed a W
  | 0, _, _, _, W, _, hW, h => by rw [Nat.zero_add]; exact hL _ _ _ _ h hW
  | fuel + 1, listed, a, F, W, hF, hW, h => by
    rw [show fuel + 1 + g = (fuel + g) + 1 by omega]
    refine ⟨fun h0 => absurd h0 h.1, fun j hj => ?_⟩
    have h1 := (h.2 j hj).2
    unfold opL at h1
    unfold wpOp
    cases ho : ops[j]? with
    | none => simp only [ho] at h1 ⊢; exact any_ofT hL hE hR fuel _ _ _ _ hF hW h1
    | some o =>
      simp only [ho] at h1 ⊢
      unfold stepL at h1
      by_cases hw : Region.wanted o (yielded ops a.tmps) = true
      · simp only [hw, if_true] at h1 ⊢
        refine .inl ?_
        unfold Oper.wp
        cases hs : sp j with
        | none =>
          simp only [hs] at h1
          obtain ⟨v, hv, hk⟩ := h1
          rw [hv W hW.cls]
          exact any_ofT hL hE hR fuel _ _ _ _ hF hW hk
        | some s =>
          simp only [hs] at h1
          obtain ⟨hv, hk⟩ := h1
          have h2 := hv W hW.cls
          have hFs : ∀ v, StF E (upd F j (s.R v)) := fun v => hF.upd (hR j s hs v)
          generalize (execOp a.eval o).run P W = r at h2 ⊢
          cases r with
          | ok n W' =>
            cases n <;> simp only [looseAt] at h2 <;> simp only [Oper.upon]
            case value v =>
              obtain ⟨hT, he, hr⟩ := h2
              have hA := (hW.step hE hF he).upd (j := j) (r := s.R v) hr
              exact any_ofT hL hE hR fuel _ _ _ _ (hFs v) hA (hk v hT ⟨_, hA⟩)
            case skip =>
              obtain ⟨hT, he, hr⟩ := h2
              have hA := (hW.step hE hF he).upd (j := j) (r := s.R undef) hr
              exact any_ofT hL hE hR fuel _ _ _ _ (hFs undef) hA (hk undef hT ⟨_, hA⟩)
            case enter f args =>
              refine h2.mono fun e W'' ⟨v, hev, hT, he, hr⟩ => ?_
              subst hev
              have hA := (hW.step hE hF he).upd (j := j) (r := s.R v) hr
              exact any_ofT hL hE hR fuel _ _ _ _ (hFs v) hA (hk v hT ⟨_, hA⟩)
          | halt x W' => simp only [looseAt] at h2
      · simp only [hw] at h1 ⊢
        exact any_ofT hL hE hR fuel _ _ _ _ hF hW h1

/-- An operation that may be taken first. -/
theorem anyT_first {n : Nat} {L : Array Bool → Act → (Nat → World → Prop) → Prop} (hs0 : Region.sinkB md ops n = true) (hc0 : Region.chainB md ops n = true) (hn0 : n < ops.size) (hdone : ∀ listed a F, L listed a F → ∀ j ∈ Region.ready md ops listed, n ≤ j) (hE : ∀ a b c, E a b → E b c → E a c) (hR : ∀ j s, sp j = some s → ∀ v W W', s.R v W → E W W' → s.R v W') {i : Nat} {oi : Oper} (hin : i < n) (hi : ops[i]? = some oi) (hsel : ∀ (j : Nat) (o : Oper) cs b, ops[j]? = some o → o.op ≠ .select cs b) :
    ∀ (fuel : Nat) (listed : Array Bool) (a : Act) (F : Nat → World → Prop), HeadInv md ops n listed → StF E F → (∃ W, All E w0 F W) →
      (∀ j oj, ops[j]? = some oj → j ≠ i → listed.getD j true = false → (∀ e ∈ oj.after, Region.binds md e = true → e.on ≠ i) → oi.apart ops oj = true) →
      i ∈ Region.ready md ops listed →
      stepL P md ops E w0 sp i oi (anyT P md ops E w0 sp n L fuel (listed.setIfInBounds i true)) a F → anyT P md ops E w0 sp n L (fuel + 1) listed a F := by
  intro fuel
  induction fuel with
  | zero =>
    intro listed a F hcl hF hex hfree hr H
    refine ⟨fun h => (by rw [h] at hr; cases hr), fun j hj => ?_⟩
    have hjn : j < n := by
      rcases Nat.lt_or_ge j n with h | h
      · exact h
      · exact absurd hj (tail_waits hs0 hc0 hn0 hcl _ i rfl hin (mem_ready.1 hr).1 j h)
    refine ⟨hjn, ?_⟩
    by_cases hji : j = i
    · subst hji
      unfold opL
      simp only [hi]
      exact H
    · exfalso
      have h1 := ready_mono hj hji
      have h2 : ∃ a F, L (listed.setIfInBounds i true) a F := by
        unfold stepL at H
        by_cases hw : Region.wanted oi (yielded ops a.tmps) = true
        · simp only [hw, if_true] at H
          cases hs : sp i with
          | none => simp only [hs] at H; obtain ⟨v, _, hk⟩ := H; exact ⟨_, _, hk⟩
          | some s =>
            simp only [hs] at H
            obtain ⟨hv, hk⟩ := H
            obtain ⟨W, hW⟩ := hex
            have h3 := hv W hW.cls
            generalize (execOp a.eval oi).run P W = r at h3
            cases r with
            | ok n W' =>
              cases n <;> simp only [looseAt] at h3
              case value v => exact ⟨_, _, hk v h3.1 ⟨_, (hW.step hE hF h3.2.1).upd h3.2.2⟩⟩
              case skip => exact ⟨_, _, hk undef h3.1 ⟨_, (hW.step hE hF h3.2.1).upd h3.2.2⟩⟩
              case enter f args =>
                obtain ⟨e, W'', v, _, hT, he, hr⟩ := calls_some h3
                exact ⟨_, _, hk v hT ⟨_, (hW.step hE hF he).upd hr⟩⟩
            | halt x W' => simp only [looseAt] at h3
        · simp only [hw] at H
          exact ⟨_, _, H⟩
      obtain ⟨_, _, h2⟩ := h2
      have := hdone _ _ _ h2 j h1
      omega
  | succ fuel ih =>
    intro listed a F hcl hF hex hfree hr H
    refine ⟨fun h => (by rw [h] at hr; cases hr), fun j hj => ?_⟩
    have hjn : j < n := by
      rcases Nat.lt_or_ge j n with h | h
      · exact h
      · exact absurd hj (tail_waits hs0 hc0 hn0 hcl _ i rfl hin (mem_ready.1 hr).1 j h)
    refine ⟨hjn, ?_⟩
    by_cases hji : j = i
    · subst hji
      unfold opL
      simp only [hi]
      exact H
    · obtain ⟨hjun, oj, hoj, hall⟩ := mem_ready.1 hj
      have hiun := (mem_ready.1 hr).1
      have hnot : ∀ e ∈ oj.after, Region.binds md e = true → e.on ≠ i := fun e he hb heq => by
        have h1 := hall e he hb
        rw [heq] at h1
        rcases Nat.lt_or_ge i listed.size with h' | h'
        · simp [h'] at hiun h1; rw [hiun] at h1; cases h1
        · simp [Array.getElem?_eq_none h'] at h1
      have hap := hfree j oj hoj hji hjun hnot
      obtain ⟨p1, p2, p3⟩ := Oper.apart_spec hap
      have hsi : ∀ cs b, oi.op ≠ .select cs b := fun cs b => hsel i oi cs b hi
      have hsj : ∀ cs b, oj.op ≠ .select cs b := fun cs b => hsel j oj cs b hoj
      have hdep : dep md ops j i = false := not_dep hcl.closed hj hiun
      have hdep2 : dep md ops i j = false := not_dep hcl.closed hr hjun
      have hcl2 := hcl.set hj hjn
      have hfree' : ∀ k ok, ops[k]? = some ok → k ≠ i → (listed.setIfInBounds j true).getD k true = false →
          (∀ e ∈ ok.after, Region.binds md e = true → e.on ≠ i) → oi.apart ops ok = true := fun k ok hk hki hun hno => by
        refine hfree k ok hk hki ?_ hno
        by_cases hjk : j = k
        · subst hjk; exact hjun
        · rw [getD_set_ne true hjk] at hun; exact hun
      have hr2 := ready_mono hr (Ne.symm hji)
      have hjr := ready_mono hj hji
      -- what i's step says, at each of its values: j's step behind it
      have hsw : (listed.setIfInBounds j true).setIfInBounds i true = (listed.setIfInBounds i true).setIfInBounds j true := Array.setIfInBounds_comm _ _ hji
      obtain ⟨W, hW⟩ := hex
      unfold opL
      simp only [hoj]
      -- i's step anew, behind j's value u and facts F'
      have again : ∀ (u : Value) (F' : Nat → World → Prop), (∀ W, Cls md ops E w0 i F' W → Cls md ops E w0 i F W) → 
          (∀ v G, (sp i = none ∨ Region.wanted oi (yielded ops a.tmps) = false) → G = F' → anyT P md ops E w0 sp n L (fuel + 1) (listed.setIfInBounds i true) (a.put oi.dst v) F → anyT P md ops E w0 sp n L fuel ((listed.setIfInBounds i true).setIfInBounds j true) ((a.put oi.dst v).put oj.dst u) G) →
          (∀ v s, sp i = some s → (∃ W, All E w0 (upd F' i (s.R v)) W) → (∃ W, All E w0 (upd F i (s.R v)) W) ∧ (anyT P md ops E w0 sp n L (fuel + 1) (listed.setIfInBounds i true) (a.put oi.dst v) (upd F i (s.R v)) → anyT P md ops E w0 sp n L fuel ((listed.setIfInBounds i true).setIfInBounds j true) ((a.put oi.dst v).put oj.dst u) (upd F' i (s.R v)))) →
          stepL P md ops E w0 sp i oi (anyT P md ops E w0 sp n L fuel ((listed.setIfInBounds j true).setIfInBounds i true)) (a.put oj.dst u) F' := by
        intro u F' hc hq hl
        unfold stepL at H ⊢
        rw [wanted_put oi a oj.dst u p3, execOp_put oi hsi a oj.dst u p3, hsw]
        by_cases hw : Region.wanted oi (yielded ops a.tmps) = true
        · simp only [hw, if_true] at H ⊢
          cases hs : sp i with
          | none =>
            simp only [hs] at H
            obtain ⟨v, hv, hk⟩ := H
            refine ⟨v, fun W hW => hv W (hc W hW), ?_⟩
            rw [← Act.put_comm a v u p2]
            exact hq v F' (.inl hs) rfl hk
          | some s =>
            simp only [hs] at H
            obtain ⟨hv, hk⟩ := H
            refine ⟨fun W hW => hv W (hc W hW), fun v hT hx => ?_⟩
            rw [← Act.put_comm a v u p2]
            obtain ⟨hx', hl'⟩ := hl v s hs hx
            exact hl' (hk v hT hx')
        · simp only [hw] at H ⊢
          rw [← Act.put_comm a undef u p2]
          exact hq undef F' (.inr (by simpa using hw)) rfl H
      -- one value of i at the least, with a world
      have some_i : ∃ v G, (G = F ∨ ∃ s, sp i = some s ∧ G = upd F i (s.R v)) ∧ anyT P md ops E w0 sp n L (fuel + 1) (listed.setIfInBounds i true) (a.put oi.dst v) G := by
        unfold stepL at H
        by_cases hw : Region.wanted oi (yielded ops a.tmps) = true
        · simp only [hw, if_true] at H
          cases hs : sp i with
          | none => simp only [hs] at H; obtain ⟨v, _, hk⟩ := H; exact ⟨_, _, .inl rfl, hk⟩
          | some s =>
            simp only [hs] at H
            obtain ⟨hv, hk⟩ := H
            have h3 := hv W hW.cls
            generalize (execOp a.eval oi).run P W = r at h3
            cases r with
            | ok n W' =>
              cases n <;> simp only [looseAt] at h3
              case value v => exact ⟨_, _, .inr ⟨s, rfl, rfl⟩, hk v h3.1 ⟨_, (hW.step hE hF h3.2.1).upd h3.2.2⟩⟩
              case skip => exact ⟨_, _, .inr ⟨s, rfl, rfl⟩, hk undef h3.1 ⟨_, (hW.step hE hF h3.2.1).upd h3.2.2⟩⟩
              case enter f args =>
                obtain ⟨e, W'', v, _, hT, he, hr⟩ := calls_some h3
                exact ⟨_, _, .inr ⟨s, rfl, rfl⟩, hk v hT ⟨_, (hW.step hE hF he).upd hr⟩⟩
            | halt x W' => simp only [looseAt] at h3
        · simp only [hw] at H
          exact ⟨_, _, .inl rfl, H⟩
      have clsj : ∀ (v : Value) (G : Nat → World → Prop), (G = F ∨ ∃ s, sp i = some s ∧ G = upd F i (s.R v)) → ∀ W, Cls md ops E w0 j F W → Cls md ops E w0 j G W := by
        rintro v G (rfl | ⟨s, _, rfl⟩) W h
        · exact h
        · exact (cls_upd hdep W).2 h
      have stepj : ∀ (v : Value) (G : Nat → World → Prop), anyT P md ops E w0 sp n L (fuel + 1) (listed.setIfInBounds i true) (a.put oi.dst v) G →
          stepL P md ops E w0 sp j oj (anyT P md ops E w0 sp n L fuel ((listed.setIfInBounds i true).setIfInBounds j true)) (a.put oi.dst v) G := by
        intro v G h
        have := (h.2 j hjr).2
        unfold opL at this
        simpa only [hoj] using this
      obtain ⟨v0, G0, hG0, h0⟩ := some_i
      have h0j := stepj v0 G0 h0
      unfold stepL at h0j ⊢
      rw [wanted_put oj a oi.dst v0 p1, execOp_put oj hsj a oi.dst v0 p1] at h0j
      by_cases hw : Region.wanted oj (yielded ops a.tmps) = true
      · simp only [hw, if_true] at h0j ⊢
        cases hs : sp j with
        | none =>
          simp only [hs] at h0j
          obtain ⟨u, hu, _⟩ := h0j
          have hu' : ∀ W, Cls md ops E w0 j F W → (execOp a.eval oj).run P W = .ok (.value u) W := fun W h => hu W (clsj v0 G0 hG0 W h)
          have key : ∀ (v : Value) (G : Nat → World → Prop), (G = F ∨ ∃ s, sp i = some s ∧ G = upd F i (s.R v)) → anyT P md ops E w0 sp n L (fuel + 1) (listed.setIfInBounds i true) (a.put oi.dst v) G →
              anyT P md ops E w0 sp n L fuel ((listed.setIfInBounds i true).setIfInBounds j true) ((a.put oi.dst v).put oj.dst u) G := by
            intro v G hG h
            have hj2 := stepj v G h
            unfold stepL at hj2
            rw [wanted_put oj a oi.dst v p1, execOp_put oj hsj a oi.dst v p1] at hj2
            simp only [hw, if_true, hs] at hj2
            obtain ⟨u2, hu2, hk2⟩ := hj2
            have e1 := hu2 W (clsj v G hG W hW.cls)
            rw [hu' W hW.cls] at e1
            injection e1 with e1 _
            injection e1 with e1
            subst e1
            exact hk2
          refine ⟨u, hu', ih (listed.setIfInBounds j true) (a.put oj.dst u) F hcl2 hF ⟨W, hW⟩ hfree' hr2 (again u F (fun _ h => h) ?_ ?_)⟩
          · intro v G _ hG h
            subst hG
            exact key v _ (.inl rfl) h
          · intro v s hsi hx
            exact ⟨hx, fun h => key v _ (.inr ⟨s, hsi, rfl⟩) h⟩
        | some s =>
          simp only [hs] at h0j
          obtain ⟨hv0, _⟩ := h0j
          refine ⟨fun W h => hv0 W (clsj v0 G0 hG0 W h), fun u hT hx => ih (listed.setIfInBounds j true) (a.put oj.dst u) _ hcl2 (hF.upd (hR j s hs u)) hx hfree' hr2 (again u _ (fun W h => (cls_upd hdep2 W).1 h) ?_ ?_)⟩
          · intro v G _ hG h
            subst hG
            have hj2 := stepj v F h
            unfold stepL at hj2
            rw [wanted_put oj a oi.dst v p1, execOp_put oj hsj a oi.dst v p1] at hj2
            simp only [hw, if_true, hs] at hj2
            exact hj2.2 u hT hx
          · intro v t ht hx2
            obtain ⟨W2, hW2⟩ := hx2
            refine ⟨⟨W2, hW2.1, fun n => ⟨(hW2.2 n).1.1, (hW2.2 n).2⟩⟩, fun h => ?_⟩
            have hj2 := stepj v _ h
            unfold stepL at hj2
            rw [wanted_put oj a oi.dst v p1, execOp_put oj hsj a oi.dst v p1] at hj2
            simp only [hw, if_true, hs] at hj2
            have := hj2.2 u hT ⟨W2, by rw [upd_comm]; exact hW2⟩
            rwa [upd_comm] at this
      · simp only [hw]
        have key : ∀ (v : Value) (G : Nat → World → Prop), anyT P md ops E w0 sp n L (fuel + 1) (listed.setIfInBounds i true) (a.put oi.dst v) G →
            anyT P md ops E w0 sp n L fuel ((listed.setIfInBounds i true).setIfInBounds j true) ((a.put oi.dst v).put oj.dst undef) G := by
          intro v G h
          have hj2 := stepj v G h
          unfold stepL at hj2
          rw [wanted_put oj a oi.dst v p1] at hj2
          rwa [if_neg hw] at hj2
        refine ih (listed.setIfInBounds j true) (a.put oj.dst undef) F hcl2 hF ⟨W, hW⟩ hfree' hr2 (again undef F (fun _ h => h) ?_ ?_)
        · intro v G _ hG h
          subst hG
          exact key v _ h
        · intro v s _ hx
          exact ⟨hx, fun h => key v _ h⟩


/-- The lexical walk of the first operations; behind them: R. -/
def lexT (P : Program) (md : Region.Mode) (ops : Array Oper) (E : World → World → Prop) (w0 : World) (sp : Nat → Option Loose) (R : Act → World → Prop) : Nat → List Oper → Act → (Nat → World → Prop) → Prop
  | _, [], a, F => ∀ W, All E w0 F W → R a W
  | k, o :: rest, a, F => stepL P md ops E w0 sp k o (lexT P md ops E w0 sp R (k + 1) rest) a F
theorem anyT_lex {n g : Nat} {R : Act → World → Prop} (hE : ∀ a b c, E a b → E b c → E a c) (hR : ∀ j s, sp j = some s → ∀ v W W', s.R v W → E W W' → s.R v W') (hs : Region.noSelect ops = true)
    (hs0 : Region.sinkB md ops n = true) (hc0 : Region.chainB md ops n = true) (hn0 : n < ops.size) :
    ∀ (l : List Oper) (k : Nat) (listed : Array Bool) (a : Act) (F : Nat → World → Prop), (∀ j, j < l.length → l[j]? = ops[k + j]?) → k + l.length = n → HeadInv md ops n listed → StF E F → (∃ W, All E w0 F W) →
    Region.lexHead md ops g l.length k listed = true → lexT P md ops E w0 sp R k l a F → anyT P md ops E w0 sp n (fun listed a F => Region.seqB md ops g n listed = true ∧ ∀ W, All E w0 F W → R a W) l.length listed a F
  | [], k, listed, a, F, _, hk, _, _, _, hB, h => by
    have : k = n := by simpa using hk
    subst this
    exact ⟨by simpa [Region.lexHead] using hB, h⟩
  | o :: l, k, listed, a, F, hl, hk, hcl, hF, hex, hB, h => by
    have h0 : ops[k]? = some o := by simpa using (hl 0 (by simp)).symm
    simp only [List.length_cons, Region.lexHead, Bool.and_eq_true] at hB
    obtain ⟨⟨hr, hf⟩, hB'⟩ := hB
    have hkn : k < n := by simp only [List.length_cons] at hk; omega
    have hr' : k ∈ Region.ready md ops listed := by simpa using hr
    have hl' : ∀ j, j < l.length → l[j]? = ops[k + 1 + j]? := fun j hj => by have := hl (j + 1) (by simp; omega); simpa [Nat.add_assoc, Nat.add_comm 1 j] using this
    have hk' : k + 1 + l.length = n := by simp only [List.length_cons] at hk; omega
    refine anyT_first hs0 hc0 hn0 (fun listed' a' F' hL => seqB_ready hL.1) hE hR hkn h0 (Region.noSelect_spec hs) l.length listed a F hcl hF hex (Region.free_spec h0 hf) hr' ?_
    unfold lexT at h
    unfold stepL at h ⊢
    by_cases hw : Region.wanted o (yielded ops a.tmps) = true
    · simp only [hw, if_true] at h ⊢
      cases hsp : sp k with
      | none =>
        simp only [hsp] at h
        obtain ⟨v, hv, hk⟩ := h
        exact ⟨v, hv, anyT_lex hE hR hs hs0 hc0 hn0 l (k + 1) _ _ F hl' hk' (hcl.set hr' hkn) hF hex hB' hk⟩
      | some s =>
        simp only [hsp] at h
        exact ⟨h.1, fun v hT hx => anyT_lex hE hR hs hs0 hc0 hn0 l (k + 1) _ _ _ hl' hk' (hcl.set hr' hkn) (hF.upd (hR k s hsp v)) hx hB' (h.2 v hT hx)⟩
    · rw [if_neg hw] at h ⊢
      exact anyT_lex hE hR hs hs0 hc0 hn0 l (k + 1) _ _ F hl' hk' (hcl.set hr' hkn) hF hex hB' h
/-- A region that draws its order, whose last operations come one behind the other. -/
theorem wp_region_lexT {id : Nat} {a : Act} {w : World} {l : List Oper} (n : Nat) (E : World → World → Prop) (sp : Nat → Option Loose) (hm : P.follows .mixedOrders = true) (hB : Region.lexTailB .any l.toArray n = true) (h0 : ∀ a, E a a) (hE : ∀ a b c, E a b → E b c → E a c)
    (hR : ∀ j s, sp j = some s → ∀ v W W', s.R v W → E W W' → s.R v W')
    (h : lexT P .any l.toArray E w.drew sp (wpList P l.toArray Q (l.drop n)) 0 (l.take n) a (fun _ _ => True)) : (Code.region id l.toArray true).wp P Q a w := by
  simp only [Region.lexTailB, Bool.and_eq_true, decide_eq_true_eq] at hB
  obtain ⟨⟨⟨⟨hsel, hn⟩, hs⟩, hc⟩, hlex⟩ := hB
  have hn' : n < l.length := by simpa using hn
  have htl : (l.take n).length = n := by simp; omega
  have hdl : (l.drop n).length = l.toArray.size - n := by simp
  have inv0 : HeadInv .any l.toArray n (Array.replicate l.toArray.size false) :=
    ⟨by simp, fun j oj _ hl => (by rw [getD_replicate_false] at hl; cases hl), fun t _ ht => getD_in (by simpa using ht) (getD_replicate_false _ _)⟩
  have H := anyT_lex (md := .any) (P := P) (w0 := w.drew) (g := l.toArray.size - n) hE hR hsel hs hc hn (l.take n) 0 _ a (fun _ _ => True) (fun j hj => by
    have hj' : j < n := by rw [htl] at hj; exact hj
    simp [hj']) (by simpa using htl) inv0 (fun _ _ _ _ _ => trivial) ⟨w.drew, h0 _, fun _ => trivial⟩ (by rw [htl]; exact hlex) h
  refine wp_region_any hm ?_
  have := any_ofT (Q := Q) (g := l.toArray.size - n) (fun listed a' F W hL hW => by
    have := wpAny_of_seq (md := .any) (Q' := Q) (l.drop n) n listed a' W (fun j => by simp [List.getElem?_drop]) (by rw [hdl]; exact hL.1) (hL.2 W hW)
    rwa [hdl] at this) hE hR _ _ _ _ w.drew (fun _ _ _ _ _ => trivial) ⟨h0 _, fun _ => trivial⟩ H
  rw [htl, show n + (l.toArray.size - n) = l.toArray.size by omega] at this
  exact this
theorem lexT_nil {R : Act → World → Prop} {F : Nat → World → Prop} {a : Act} {k : Nat} (h : ∀ W, All E w0 F W → R a W) : lexT P md ops E w0 sp R k [] a F := h
theorem lexT_skip {R : Act → World → Prop} {F : Nat → World → Prop} {a : Act} {k : Nat} {o : Oper} {rest : List Oper} (hw : Region.wanted o (yielded ops a.tmps) = false) (h : lexT P md ops E w0 sp R (k + 1) rest (a.put o.dst undef) F) : lexT P md ops E w0 sp R k (o :: rest) a F := by
  unfold lexT stepL
  rw [if_neg (by rw [hw]; exact Bool.false_ne_true)]
  exact h
theorem lexT_still {R : Act → World → Prop} {F : Nat → World → Prop} {a : Act} {k : Nat} {o : Oper} {rest : List Oper} (hw : Region.wanted o (yielded ops a.tmps) = true) (hs : sp k = none) (h : ∃ v, (∀ W, Cls md ops E w0 k F W → (execOp a.eval o).run P W = .ok (.value v) W) ∧ lexT P md ops E w0 sp R (k + 1) rest (a.put o.dst v) F) : lexT P md ops E w0 sp R k (o :: rest) a F := by
  unfold lexT stepL
  rw [if_pos hw]
  simp only [hs]
  exact h
theorem lexT_loose {R : Act → World → Prop} {F : Nat → World → Prop} {a : Act} {k : Nat} {o : Oper} {rest : List Oper} (hw : Region.wanted o (yielded ops a.tmps) = true) {s : Loose} (hs : sp k = some s) (hv : ∀ W, Cls md ops E w0 k F W → looseAt P E W s ((execOp a.eval o).run P W))
    (h : ∀ v, s.T v → lexT P md ops E w0 sp R (k + 1) rest (a.put o.dst v) (upd F k (s.R v))) : lexT P md ops E w0 sp R k (o :: rest) a F := by
  unfold lexT stepL
  rw [if_pos hw]
  simp only [hs]
  exact ⟨hv, fun v hT _ => h v hT⟩
variable {F : Nat → World → Prop} {a : Act} {o : Oper} {rest : List Oper} {k : Nat}
theorem lex_nil (h : ∀ W, All E w0 F W → Q .normal a W) : lexL P md ops E w0 sp Q k [] a F := h
theorem lex_skip (hw : Region.wanted o (yielded ops a.tmps) = false) (h : lexL P md ops E w0 sp Q (k + 1) rest (a.put o.dst undef) F) : lexL P md ops E w0 sp Q k (o :: rest) a F := by
  unfold lexL stepL
  rw [if_neg (by rw [hw]; exact Bool.false_ne_true)]
  exact h
theorem lex_still (hw : Region.wanted o (yielded ops a.tmps) = true) (hs : sp k = none) (h : ∃ v, (∀ W, Cls md ops E w0 k F W → (execOp a.eval o).run P W = .ok (.value v) W) ∧ lexL P md ops E w0 sp Q (k + 1) rest (a.put o.dst v) F) : lexL P md ops E w0 sp Q k (o :: rest) a F := by
  unfold lexL stepL
  rw [if_pos hw]
  simp only [hs]
  exact h
theorem lex_loose (hw : Region.wanted o (yielded ops a.tmps) = true) {s : Loose} (hs : sp k = some s) (hv : ∀ W, Cls md ops E w0 k F W → looseAt P E W s ((execOp a.eval o).run P W))
    (h : ∀ v, s.T v → lexL P md ops E w0 sp Q (k + 1) rest (a.put o.dst v) (upd F k (s.R v))) : lexL P md ops E w0 sp Q k (o :: rest) a F := by
  unfold lexL stepL
  rw [if_pos hw]
  simp only [hs]
  exact ⟨hv, fun v hT _ => h v hT⟩
theorem upd_here {j : Nat} {r : World → Prop} {W : World} (h : upd F j r j W) : r W := h.2 rfl
theorem upd_back {j n : Nat} {r : World → Prop} {W : World} (h : upd F j r n W) : F n W := h.1
/-- The loose operations, listed. -/
def spOf (L : List (Nat × Loose)) (j : Nat) : Option Loose := L.lookup j
def Loose.St (E : World → World → Prop) (s : Loose) : Prop := ∀ v W W', s.R v W → E W W' → s.R v W'
theorem spOf_mem {L : List (Nat × Loose)} {j : Nat} {s : Loose} (h : spOf L j = some s) : ∃ p ∈ L, p.2 = s := by
  unfold spOf at h
  induction L with
  | nil => cases h
  | cons p L ih =>
    obtain ⟨i, t⟩ := p
    rw [List.lookup_cons] at h
    split at h
    · cases h; exact ⟨_, List.mem_cons_self, rfl⟩
    · obtain ⟨q, hq, e⟩ := ih h; exact ⟨q, List.mem_cons_of_mem _ hq, e⟩
theorem st_nil {E : World → World → Prop} : ∀ p ∈ ([] : List (Nat × Loose)), p.2.St E := fun _ h => by cases h
theorem st_cons {E : World → World → Prop} {i : Nat} {s : Loose} {L : List (Nat × Loose)} (h : s.St E) (hL : ∀ p ∈ L, p.2.St E) : ∀ p ∈ (i, s) :: L, p.2.St E := fun p hp => by
  rcases List.mem_cons.1 hp with rfl | hp
  · exact h
  · exact hL p hp
/-- A region in which nothing old is written. -/
theorem wp_region_ext {id : Nat} {a : Act} {w : World} {l : List Oper} (L : List (Nat × Loose)) (hm : P.follows .mixedOrders = true) (hB : Region.lexB .any l.toArray = true)
    (hL : ∀ p ∈ L, p.2.St Base.Ext) (h : lexL P .any l.toArray Base.Ext w.drew (spOf L) Q 0 l a (fun _ _ => True)) : (Code.region id l.toArray true).wp P Q a w :=
  wp_region_lex Base.Ext (spOf L) hm hB Base.Ext.refl (fun _ _ _ => Base.Ext.trans) (fun _ _ hs v W W' hr he => by obtain ⟨p, hp, rfl⟩ := spOf_mem hs; exact hL p hp v W W' hr he) h
/-- A region in which nothing old is written but by its last operations, which come one behind the other. -/
theorem wp_region_tail {id : Nat} {a : Act} {w : World} {l : List Oper} (n : Nat) (L : List (Nat × Loose)) (hm : P.follows .mixedOrders = true) (hB : Region.lexTailB .any l.toArray n = true)
    (hL : ∀ p ∈ L, p.2.St Base.Ext) (h : lexT P .any l.toArray Base.Ext w.drew (spOf L) (wpList P l.toArray Q (l.drop n)) 0 (l.take n) a (fun _ _ => True)) : (Code.region id l.toArray true).wp P Q a w :=
  wp_region_lexT n Base.Ext (spOf L) hm hB Base.Ext.refl (fun _ _ _ => Base.Ext.trans) (fun _ _ hs v W W' hr he => by obtain ⟨p, hp, rfl⟩ := spOf_mem hs; exact hL p hp v W W' hr he) h
def Loose.const (u : Value) : Loose := ⟨fun v => v = u, fun _ _ => True⟩
theorem const_st {E : World → World → Prop} {u : Value} : (Loose.const u).St E := fun _ _ _ _ _ => trivial
/-- A value of which something is known. -/
def Loose.such (p : Value → Prop) : Loose := ⟨p, fun _ _ => True⟩
theorem such_st {E : World → World → Prop} {p : Value → Prop} : (Loose.such p).St E := fun _ _ _ _ _ => trivial
/-- A slice of numbers. -/
def Loose.nums (k : IntKind) (n : Nat) (xs : List Int) : Loose := ⟨fun v => ∃ A c, v = .slice A n c, fun v W => ∀ A c, v = .slice A n c → Base.Rd W k A n xs⟩
theorem nums_st {k : IntKind} {n : Nat} {xs : List Int} : (Loose.nums k n xs).St Base.Ext := fun _ _ _ h he A c e => (h A c e).ext he
theorem nums_mk {k : IntKind} {A : Option Addr} {n c : Nat} {xs : List Int} {W : World} (h : Base.Rd W k A n xs) : (Loose.nums k n xs).R (.slice A n c) W := fun _ _ e => by cases e; exact h
/-- A row that is newer than w0. -/
def Loose.row (w0 : World) (e : TypeId) (k : IntKind) (n : Nat) (xs : List Int) : Loose := ⟨fun v => ∃ A c, v = .slice A n c ∧ n ≤ c, fun v W => ∀ A c, v = .slice A n c → Base.New w0 W e 1 A n c (Base.nums k xs)⟩
theorem row_st {w0 : World} {e : TypeId} {k : IntKind} {n : Nat} {xs : List Int} : (Loose.row w0 e k n xs).St Base.Ext := fun _ _ _ h he A c e => (h A c e).extNew he
theorem row_mk {w0 : World} {e : TypeId} {k : IntKind} {A : Option Addr} {n c : Nat} {xs : List Int} {W : World} (h : Base.New w0 W e 1 A n c (Base.nums k xs)) : (Loose.row w0 e k n xs).R (.slice A n c) W := fun _ _ e => by cases e; exact h
/-- A literal of one element, laid in a block of its own: what its cells are. -/
def Loose.lit (p : List Value → World → Prop) : Loose := ⟨fun v => ∃ g, v = .slice (some ⟨g, 0, none⟩) 1 1, fun v W => ∀ g, v = .slice (some ⟨g, 0, none⟩) 1 1 → ∃ vs, p vs W ∧ ∀ j u, vs[j]? = some u → W.cell? ⟨g, j, none⟩ = some u⟩
theorem lit_st {p : List Value → World → Prop} (hp : ∀ vs W W', p vs W → Base.Ext W W' → p vs W') : (Loose.lit p).St Base.Ext := fun _ W W' h he g e => by
  obtain ⟨vs, h1, h2⟩ := h g e
  exact ⟨vs, hp vs W W' h1 he, fun j u hu => he.cell_ (h2 j u hu)⟩
theorem lit_mk {p : List Value → World → Prop} {W : World} {vs : List Value} {e : TypeId} (h : p vs (W.alloc (.cells vs.toArray e))) : (Loose.lit p).R (.slice (some ⟨W.heap.size, 0, none⟩) 1 1) (W.alloc (.cells vs.toArray e)) := fun g e' => by
  cases e'
  exact ⟨vs, h, fun j u hu => by
    have hb : (W.alloc (.cells vs.toArray e)).heap[W.heap.size]? = some (.cells vs.toArray e (0, 0)) := Base.at_new _ _
    have := World.news_of_block hb j u (by simpa using hu)
    have ha : (⟨W.heap.size, 0, none⟩ : Addr).add j = ⟨W.heap.size, j, none⟩ := by unfold Addr.add; split <;> simp_all
    rwa [ha] at this⟩
/-- Such a literal, of a row among plain cells. -/
def Loose.litR (pre : List Value) (w0 : World) (e : TypeId) (k : IntKind) (n : Nat) (xs : List Int) (post : List Value) : Loose :=
  Loose.lit fun vs W => ∃ A c, vs = pre ++ .slice A n c :: post ∧ Base.New w0 W e 1 A n c (Base.nums k xs)
theorem litR_st {pre : List Value} {w0 : World} {e : TypeId} {k : IntKind} {n : Nat} {xs : List Int} {post : List Value} : (Loose.litR pre w0 e k n xs post).St Base.Ext :=
  lit_st fun _ _ _ ⟨A, c, h1, h2⟩ he => ⟨A, c, h1, h2.extNew he⟩
/-- A row of bytes whose length is not told. -/
def Loose.rowE (w0 : World) (e : TypeId) (k : IntKind) (xs : List Int) : Loose := ⟨fun v => ∃ A n c, v = .slice A n c ∧ n ≤ c ∧ xs.length = n, fun v W => ∀ A n c, v = .slice A n c → Base.New w0 W e 1 A n c (Base.nums k xs)⟩
theorem rowE_st {w0 : World} {e : TypeId} {k : IntKind} {xs : List Int} : (Loose.rowE w0 e k xs).St Base.Ext := fun _ _ _ h he A n c e => (h A n c e).extNew he
theorem rowE_mk {w0 : World} {e : TypeId} {k : IntKind} {A : Option Addr} {n c : Nat} {xs : List Int} {W : World} (h : Base.New w0 W e 1 A n c (Base.nums k xs)) : (Loose.rowE w0 e k xs).R (.slice A n c) W := fun _ _ _ e => by cases e; exact h
/-- Nothing old is written but block r, once, from X to Y. -/
def St (r : Nat) (X Y : Option Obj) (a b : World) : Prop := Base.Chg (fun i => i = r) a b ∧ (b.heap[r]? = a.heap[r]? ∨ (a.heap[r]? = X ∧ b.heap[r]? = Y))
theorem St.refl (r : Nat) (X Y : Option Obj) (a : World) : St r X Y a a := ⟨Base.Chg.refl _ _, .inl rfl⟩
theorem St.trans {r : Nat} {X Y : Option Obj} {a b c : World} (h : St r X Y a b) (k : St r X Y b c) : St r X Y a c :=
  ⟨h.1.trans k.1, by
    rcases h.2 with h2 | ⟨h2, h3⟩ <;> rcases k.2 with k2 | ⟨k2, k3⟩
    · exact .inl (k2.trans h2)
    · exact .inr ⟨h2.symm.trans k2, k3⟩
    · exact .inr ⟨h2, k2.trans h3⟩
    · exact .inr ⟨h2, k3⟩⟩
theorem St.of_ext {r : Nat} {X Y : Option Obj} {a b : World} (h : Base.Ext a b) (hr : r < a.heap.size) : St r X Y a b := ⟨Base.Below.chg h, .inl (h.block r hr)⟩
theorem St.at_ {r : Nat} {X Y : Option Obj} {a b : World} (h : St r X Y a b) {i : Nat} {o : Obj} (hi : a.heap[i]? = some o) (hne : i ≠ r) : b.heap[i]? = some o := h.1.at_ hi hne
theorem St.mk_ {r : Nat} {X Y : Option Obj} {a b : World} (hc : Base.Chg (fun i => i = r) a b) (h : a.heap[r]? = X ∨ a.heap[r]? = Y) (hY : b.heap[r]? = Y) : St r X Y a b :=
  ⟨hc, h.elim (fun h => .inr ⟨h, hY⟩) fun h => .inl (hY.trans h.symm)⟩
theorem St.or_ {r : Nat} {X Y : Option Obj} {a b : World} (h : St r X Y a b) (hX : a.heap[r]? = X) : b.heap[r]? = X ∨ b.heap[r]? = Y := h.2.imp (fun h => h.trans hX) fun h => h.2
/-- The store has been done. -/
def Loose.stored (r : Nat) (Y : Option Obj) : Loose := ⟨fun v => v = undef, fun _ W => W.heap[r]? = Y⟩
theorem stored_st {r : Nat} {X Y : Option Obj} : (Loose.stored r Y).St (St r X Y) := fun _ W W' (h : W.heap[r]? = Y) he => by
  rcases he.2 with h2 | ⟨_, h3⟩
  · exact h2.trans h
  · exact h3
theorem const_stS {u : Value} {r : Nat} {X Y : Option Obj} : (Loose.const u).St (St r X Y) := fun _ _ _ _ _ => trivial
/-- A region that writes one old block, once. -/
theorem wp_region_st {id : Nat} {a : Act} {w : World} {l : List Oper} (r : Nat) (X Y : Option Obj) (L : List (Nat × Loose)) (hm : P.follows .mixedOrders = true) (hB : Region.lexB .any l.toArray = true)
    (hL : ∀ p ∈ L, p.2.St (St r X Y)) (h : lexL P .any l.toArray (St r X Y) w.drew (spOf L) Q 0 l a (fun _ _ => True)) : (Code.region id l.toArray true).wp P Q a w :=
  wp_region_lex (St r X Y) (spOf L) hm hB (St.refl r X Y) (fun _ _ _ => St.trans) (fun _ _ hs v W W' hr he => by obtain ⟨p, hp, rfl⟩ := spOf_mem hs; exact hL p hp v W W' hr he) h
end
end Go.Proofs.Ytipmkddcdnbihaa.Lex
