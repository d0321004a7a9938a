/- A region that draws its order, walked once in an order of one's own: first operations that hang on no world, then a head that writes nothing old, then a tail, one behind the other. No program in sight. -/
import Derived.Test.YtipmkddcdnbihaaLex
namespace Go.Proofs.Ytipmkddcdnbihaa.Lex

section
variable {P : Program} {ops : Array Oper} {md : Region.Mode} {E : World → World → Prop} {w0 : World} {sp : Nat → Option Loose} {Q : Exit → Act → World → Prop}

/-- The way on alone: no other exit. -/
def onlyN (Q : Exit → Act → World → Prop) : Exit → Act → World → Prop
  | .normal, a, w => Q .normal a w
  | _, _, _ => False
theorem onlyN_le (e : Exit) (a : Act) (w : World) (h : onlyN Q e a w) : Q e a w := by
  cases e <;> first | exact h | exact h.elim
theorem oper_monoQ {Q' : Exit → Act → World → Prop} {o : Oper} {a : Act} {w : World} {K : Act → World → Prop} (hq : ∀ e a w, Q e a w → Q' e a w) (hh : o.wp P a w K Q) : o.wp P a w K Q' := by
  unfold Oper.wp at *
  generalize (execOp a.eval o).run P w = r at *
  cases r with
  | ok n w' =>
    cases n <;> simp only [Oper.upon] at hh ⊢ <;> first
      | exact hh
      | exact Calls.mono hh (fun e w'' he => by cases e <;> first | exact he | exact hq _ _ _ he | (obtain ⟨a, w, h⟩ := he; exact ⟨a, w, hq _ _ _ h⟩))
  | halt x w' => cases x <;> simp only [Oper.upon] at hh ⊢ <;> first | exact hh | exact hq _ _ _ hh
theorem any_monoQ {Q' : Exit → Act → World → Prop} (hq : ∀ e a w, Q e a w → Q' e a w) : ∀ (fuel : Nat) (listed : Array Bool) (a : Act) (w : World), wpAny P md ops Q fuel listed a w → wpAny P md ops Q' fuel listed a w
  | 0, _, _, _, h => ⟨h.1, hq _ _ _ h.2⟩
  | fuel + 1, listed, a, w, h => ⟨fun h0 => hq _ _ _ (h.1 h0), fun j hj => by
    have h1 := h.2 j hj
    unfold wpOp at h1 ⊢
    split
    · rename_i ho
      simp only [ho] at h1
      exact any_monoQ hq fuel _ _ _ h1
    · rename_i o ho
      simp only [ho] at h1
      split
      · rename_i hw
        simp only [hw, if_true] at h1
        rcases h1 with h1 | ⟨h1, a', w', h2⟩
        · exact .inl (oper_monoQ hq (Oper.wp_mono (fun a w => any_monoQ hq fuel _ a w) h1))
        · exact .inr ⟨h1, a', w', hq _ _ _ h2⟩
      · rename_i hw
        simp only [hw] at h1
        exact any_monoQ hq fuel _ _ _ h1⟩

/-- An operation that hangs on no world may be taken first. -/
theorem any_first {i : Nat} {oi : Oper} {v : Value} (hi : ops[i]? = some oi) (hsel : ∀ (j : Nat) (o : Oper) cs b, ops[j]? = some o → o.op ≠ .select cs b) :
    ∀ (fuel : Nat) (listed : Array Bool) (a : Act) (W : World),
      (∀ j oj, ops[j]? = some oj → j ≠ i → listed.getD j true = false → (∀ e ∈ oj.after, Region.binds md e = true → e.on ≠ i) → oi.apart ops oj = true) →
      i ∈ Region.ready md ops listed → Region.wanted oi (yielded ops a.tmps) = true → (∀ W, (execOp a.eval oi).run P W = .ok (.value v) W) →
      wpAny P md ops (onlyN Q) fuel (listed.setIfInBounds i true) (a.put oi.dst v) W → wpAny P md ops (onlyN Q) (fuel + 1) listed a W := by
  intro fuel
  induction fuel with
  | zero =>
    intro listed a W hfree hr hw hy H
    refine ⟨fun h => (by rw [h] at hr; cases hr), fun j hj => ?_⟩
    by_cases hji : j = i
    · subst hji
      unfold wpOp
      simp only [hi, hw, if_true]
      refine .inl ?_
      unfold Oper.wp
      rw [hy W]
      exact H
    · have h1 := ready_mono hj hji
      rw [H.1] at h1
      cases h1
  | succ fuel ih =>
    intro listed a W hfree hr hw hy H
    refine ⟨fun h => (by rw [h] at hr; cases hr), fun j hj => ?_⟩
    by_cases hji : j = i
    · subst hji
      unfold wpOp
      simp only [hi, hw, if_true]
      refine .inl ?_
      unfold Oper.wp
      rw [hy W]
      exact H
    · obtain ⟨hjun, oj, hoj, hall⟩ := mem_ready.1 hj
      have hiun := (mem_ready.1 hr).1
      have hnot : ∀ e ∈ oj.after, Region.binds md e = true → e.on ≠ i := fun e he hb heq => by
        have h1 := hall e he hb
        rw [heq, getD_both hiun] at h1
        cases h1
      obtain ⟨p1, p2, p3⟩ := Oper.apart_spec (hfree j oj hoj hji hjun hnot)
      have hsi : ∀ cs b, oi.op ≠ .select cs b := fun cs b => hsel i oi cs b hi
      have hsj : ∀ cs b, oj.op ≠ .select cs b := fun cs b => hsel j oj cs b hoj
      have hfree' : ∀ k ok, ops[k]? = some ok → k ≠ i → (listed.setIfInBounds j true).getD k true = false →
          (∀ e ∈ ok.after, Region.binds md e = true → e.on ≠ i) → oi.apart ops ok = true := fun k ok hk hki hun hno => by
        refine hfree k ok hk hki ?_ hno
        by_cases hjk : j = k
        · subst hjk; exact hjun
        · rw [getD_set_ne true hjk] at hun; exact hun
      have hr2 := ready_mono hr (Ne.symm hji)
      have h1 := H.2 j (ready_mono hj hji)
      have step : ∀ u W', wpAny P md ops (onlyN Q) fuel ((listed.setIfInBounds i true).setIfInBounds j true) ((a.put oi.dst v).put oj.dst u) W' → wpAny P md ops (onlyN Q) (fuel + 1) (listed.setIfInBounds j true) (a.put oj.dst u) W' := fun u W' h => by
        refine ih (listed.setIfInBounds j true) (a.put oj.dst u) W' hfree' hr2 (by rw [wanted_put oi a oj.dst u p3]; exact hw) (fun W => by rw [execOp_put oi hsi a oj.dst u p3]; exact hy W) ?_
        rw [← Act.put_comm a v u p2, Array.setIfInBounds_comm _ _ hji]
        exact h
      have stepD : ∀ d W', wpAny P md ops (onlyN Q) fuel ((listed.setIfInBounds i true).setIfInBounds j true) ({ a.put oi.dst v with defers := d :: (a.put oi.dst v).defers }.put oj.dst undef) W' → wpAny P md ops (onlyN Q) (fuel + 1) (listed.setIfInBounds j true) ({ a with defers := d :: a.defers }.put oj.dst undef) W' := fun d W' h => by
        have e1 : ({ a.put oi.dst v with defers := d :: (a.put oi.dst v).defers } : Act) = ({ a with defers := d :: a.defers } : Act).put oi.dst v := by
          cases oi.dst <;> rfl
        rw [e1] at h
        refine ih (listed.setIfInBounds j true) _ W' hfree' hr2 (by rw [wanted_put oi _ oj.dst undef p3]; exact hw) (fun W => by rw [execOp_put oi hsi _ oj.dst undef p3]; exact hy W) ?_
        rw [← Act.put_comm _ v undef p2, Array.setIfInBounds_comm _ _ hji]
        exact h
      unfold wpOp at h1 ⊢
      simp only [hoj] at h1 ⊢
      rw [wanted_put oj a oi.dst v p1] at h1
      by_cases hwj : Region.wanted oj (yielded ops a.tmps) = true
      · simp only [hwj, if_true] at h1 ⊢
        rcases h1 with h1 | ⟨_, a', w', h2⟩
        · refine .inl ?_
          unfold Oper.wp at h1 ⊢
          rw [execOp_put oj hsj a oi.dst v p1] at h1
          generalize (execOp a.eval oj).run P W = r at h1 ⊢
          cases r with
          | ok n W' =>
            cases n <;> simp only [Oper.upon] at h1 ⊢ <;> first
              | exact step _ _ h1
              | exact stepD _ _ h1
              | exact Calls.mono h1 (fun e w'' he => by cases e <;> first | exact step _ _ he | exact he)
              | exact Rows.mono h1 (fun _ _ he => step _ _ he)
          | halt x W' => cases x <;> simp only [Oper.upon] at h1 ⊢ <;> first | exact h1 | exact h1.elim
        · exact h2.elim
      · simp only [hwj] at h1 ⊢
        exact step _ _ h1

/-- As anyL, over the operations that H allows; behind them: L. -/
def anyH (P : Program) (md : Region.Mode) (ops : Array Oper) (E : World → World → Prop) (w0 : World) (sp : Nat → Option Loose) (H : Nat → Bool) (L : Array Bool → Act → (Nat → World → Prop) → Prop) : Nat → Array Bool → Act → (Nat → World → Prop) → Prop
  | 0, listed, a, F => L listed a F
  | fuel + 1, listed, a, F => Region.ready md ops listed ≠ [] ∧ ∀ j ∈ Region.ready md ops listed, H j = true ∧ opL P md ops E w0 sp j (anyH P md ops E w0 sp H L fuel (listed.setIfInBounds j true)) a F
theorem any_ofH {H : Nat → Bool} {g : Nat} {L : Array Bool → Act → (Nat → World → Prop) → Prop} (hL : ∀ listed a F W, L listed a F → All E w0 F W → wpAny P md ops Q g listed a W) (hE : ∀ a b c, E a b → E b c → E a c) (hR : ∀ j s, sp j = some s → ∀ v W W', s.R v W → E W W' → s.R v W') :
    ∀ (fuel : Nat) (listed : Array Bool) (a : Act) (F : Nat → World → Prop) (W : World), StF E F → All E w0 F W → anyH P md ops E w0 sp H L fuel listed a F → wpAny P md ops Q (fuel + g) listed a W
  | 0, _, _, _, W, _, hW, h => by rw [Nat.zero_add]; exact hL _ _ _ _ h hW
  | fuel + 1, listed, a, F, W, hF, hW, h => by
    rw [show fuel + 1 + g = (fuel + g) + 1 by omega]
    refine ⟨fun h0 => absurd h0 h.1, fun j hj => ?_⟩
    have h1 := (h.2 j hj).2
    unfold opL at h1
    unfold wpOp
    cases ho : ops[j]? with
    | none => simp only [ho] at h1 ⊢; exact any_ofH hL hE hR fuel _ _ _ _ hF hW h1
    | some o =>
      simp only [ho] at h1 ⊢
      unfold stepL at h1
      by_cases hw : Region.wanted o (yielded ops a.tmps) = true
      · simp only [hw, if_true] at h1 ⊢
        refine .inl ?_
        unfold Oper.wp
        cases hs : sp j with
        | none =>
          simp only [hs] at h1
          obtain ⟨v, hv, hk⟩ := h1
          rw [hv W hW.cls]
          exact any_ofH hL hE hR fuel _ _ _ _ hF hW hk
        | some s =>
          simp only [hs] at h1
          obtain ⟨hv, hk⟩ := h1
          have h2 := hv W hW.cls
          have hFs : ∀ v, StF E (upd F j (s.R v)) := fun v => hF.upd (hR j s hs v)
          generalize (execOp a.eval o).run P W = r at h2 ⊢
          cases r with
          | ok n W' =>
            cases n <;> simp only [looseAt] at h2 <;> simp only [Oper.upon]
            case value v =>
              obtain ⟨hT, he, hr⟩ := h2
              have hA := (hW.step hE hF he).upd (j := j) (r := s.R v) hr
              exact any_ofH hL hE hR fuel _ _ _ _ (hFs v) hA (hk v hT ⟨_, hA⟩)
            case skip =>
              obtain ⟨hT, he, hr⟩ := h2
              have hA := (hW.step hE hF he).upd (j := j) (r := s.R undef) hr
              exact any_ofH hL hE hR fuel _ _ _ _ (hFs undef) hA (hk undef hT ⟨_, hA⟩)
            case enter f args =>
              refine h2.mono fun e W'' ⟨v, hev, hT, he, hr⟩ => ?_
              subst hev
              have hA := (hW.step hE hF he).upd (j := j) (r := s.R v) hr
              exact any_ofH hL hE hR fuel _ _ _ _ (hFs v) hA (hk v hT ⟨_, hA⟩)
          | halt x W' => simp only [looseAt] at h2
      · simp only [hw] at h1 ⊢
        exact any_ofH hL hE hR fuel _ _ _ _ hF hW h1

/-- An operation that may be taken first. -/
theorem anyH_first {H G : Nat → Bool} {L : Array Bool → Act → (Nat → World → Prop) → Prop} (hwait : ∀ listed, Closed md ops listed → (∃ h, G h = true ∧ listed.getD h true = false) → ∀ t ∈ Region.ready md ops listed, H t = true) (hdone : ∀ listed a F, L listed a F → ∀ j ∈ Region.ready md ops listed, H j = false) (hE : ∀ a b c, E a b → E b c → E a c) (hR : ∀ j s, sp j = some s → ∀ v W W', s.R v W → E W W' → s.R v W') {i : Nat} {oi : Oper} (hin : G i = true) (hi : ops[i]? = some oi) (hsel : ∀ (j : Nat) (o : Oper) cs b, ops[j]? = some o → o.op ≠ .select cs b) :
    ∀ (fuel : Nat) (listed : Array Bool) (a : Act) (F : Nat → World → Prop), Closed md ops listed → StF E F → (∃ W, All E w0 F W) →
      (∀ j oj, ops[j]? = some oj → j ≠ i → listed.getD j true = false → (∀ e ∈ oj.after, Region.binds md e = true → e.on ≠ i) → oi.apart ops oj = true) →
      i ∈ Region.ready md ops listed →
      stepL P md ops E w0 sp i oi (anyH P md ops E w0 sp H L fuel (listed.setIfInBounds i true)) a F → anyH P md ops E w0 sp H L (fuel + 1) listed a F := by
  intro fuel
  induction fuel with
  | zero =>
    intro listed a F hcl hF hex hfree hr HH
    refine ⟨fun h => (by rw [h] at hr; cases hr), fun j hj => ?_⟩
    have hjn : H j = true := hwait listed hcl ⟨i, hin, (mem_ready.1 hr).1⟩ j hj
    refine ⟨hjn, ?_⟩
    by_cases hji : j = i
    · subst hji
      unfold opL
      simp only [hi]
      exact HH
    · exfalso
      have h1 := ready_mono hj hji
      have h2 : ∃ a F, L (listed.setIfInBounds i true) a F := by
        unfold stepL at HH
        by_cases hw : Region.wanted oi (yielded ops a.tmps) = true
        · simp only [hw, if_true] at HH
          cases hs : sp i with
          | none => simp only [hs] at HH; obtain ⟨v, _, hk⟩ := HH; exact ⟨_, _, hk⟩
          | some s =>
            simp only [hs] at HH
            obtain ⟨hv, hk⟩ := HH
            obtain ⟨W, hW⟩ := hex
            have h3 := hv W hW.cls
            generalize (execOp a.eval oi).run P W = r at h3
            cases r with
            | ok n W' =>
              cases n <;> simp only [looseAt] at h3
              case value v => exact ⟨_, _, hk v h3.1 ⟨_, (hW.step hE hF h3.2.1).upd h3.2.2⟩⟩
              case skip => exact ⟨_, _, hk undef h3.1 ⟨_, (hW.step hE hF h3.2.1).upd h3.2.2⟩⟩
              case enter f args =>
                obtain ⟨e, W'', v, _, hT, he, hr⟩ := calls_some h3
                exact ⟨_, _, hk v hT ⟨_, (hW.step hE hF he).upd hr⟩⟩
            | halt x W' => simp only [looseAt] at h3
        · simp only [hw] at HH
          exact ⟨_, _, HH⟩
      obtain ⟨_, _, h2⟩ := h2
      have := hdone _ _ _ h2 j h1
      rw [hjn] at this
      cases this
  | succ fuel ih =>
    intro listed a F hcl hF hex hfree hr HH
    refine ⟨fun h => (by rw [h] at hr; cases hr), fun j hj => ?_⟩
    have hjn : H j = true := hwait listed hcl ⟨i, hin, (mem_ready.1 hr).1⟩ j hj
    refine ⟨hjn, ?_⟩
    by_cases hji : j = i
    · subst hji
      unfold opL
      simp only [hi]
      exact HH
    · obtain ⟨hjun, oj, hoj, hall⟩ := mem_ready.1 hj
      have hiun := (mem_ready.1 hr).1
      have hnot : ∀ e ∈ oj.after, Region.binds md e = true → e.on ≠ i := fun e he hb heq => by
        have h1 := hall e he hb
        rw [heq] at h1
        rcases Nat.lt_or_ge i listed.size with h' | h'
        · simp [h'] at hiun h1; rw [hiun] at h1; cases h1
        · simp [Array.getElem?_eq_none h'] at h1
      have hap := hfree j oj hoj hji hjun hnot
      obtain ⟨p1, p2, p3⟩ := Oper.apart_spec hap
      have hsi : ∀ cs b, oi.op ≠ .select cs b := fun cs b => hsel i oi cs b hi
      have hsj : ∀ cs b, oj.op ≠ .select cs b := fun cs b => hsel j oj cs b hoj
      have hdep : dep md ops j i = false := not_dep hcl hj hiun
      have hdep2 : dep md ops i j = false := not_dep hcl hr hjun
      have hcl2 := hcl.set hj
      have hfree' : ∀ k ok, ops[k]? = some ok → k ≠ i → (listed.setIfInBounds j true).getD k true = false →
          (∀ e ∈ ok.after, Region.binds md e = true → e.on ≠ i) → oi.apart ops ok = true := fun k ok hk hki hun hno => by
        refine hfree k ok hk hki ?_ hno
        by_cases hjk : j = k
        · subst hjk; exact hjun
        · rw [getD_set_ne true hjk] at hun; exact hun
      have hr2 := ready_mono hr (Ne.symm hji)
      have hjr := ready_mono hj hji
      -- what i's step says, at each of its values: j's step behind it
      have hsw : (listed.setIfInBounds j true).setIfInBounds i true = (listed.setIfInBounds i true).setIfInBounds j true := Array.setIfInBounds_comm _ _ hji
      obtain ⟨W, hW⟩ := hex
      unfold opL
      simp only [hoj]
      -- i's step anew, behind j's value u and facts F'
      have again : ∀ (u : Value) (F' : Nat → World → Prop), (∀ W, Cls md ops E w0 i F' W → Cls md ops E w0 i F W) → 
          (∀ v G, (sp i = none ∨ Region.wanted oi (yielded ops a.tmps) = false) → G = F' → anyH P md ops E w0 sp H L (fuel + 1) (listed.setIfInBounds i true) (a.put oi.dst v) F → anyH P md ops E w0 sp H L fuel ((listed.setIfInBounds i true).setIfInBounds j true) ((a.put oi.dst v).put oj.dst u) G) →
          (∀ v s, sp i = some s → (∃ W, All E w0 (upd F' i (s.R v)) W) → (∃ W, All E w0 (upd F i (s.R v)) W) ∧ (anyH P md ops E w0 sp H L (fuel + 1) (listed.setIfInBounds i true) (a.put oi.dst v) (upd F i (s.R v)) → anyH P md ops E w0 sp H L fuel ((listed.setIfInBounds i true).setIfInBounds j true) ((a.put oi.dst v).put oj.dst u) (upd F' i (s.R v)))) →
          stepL P md ops E w0 sp i oi (anyH P md ops E w0 sp H L fuel ((listed.setIfInBounds j true).setIfInBounds i true)) (a.put oj.dst u) F' := by
        intro u F' hc hq hl
        unfold stepL at HH ⊢
        rw [wanted_put oi a oj.dst u p3, execOp_put oi hsi a oj.dst u p3, hsw]
        by_cases hw : Region.wanted oi (yielded ops a.tmps) = true
        · simp only [hw, if_true] at HH ⊢
          cases hs : sp i with
          | none =>
            simp only [hs] at HH
            obtain ⟨v, hv, hk⟩ := HH
            refine ⟨v, fun W hW => hv W (hc W hW), ?_⟩
            rw [← Act.put_comm a v u p2]
            exact hq v F' (.inl hs) rfl hk
          | some s =>
            simp only [hs] at HH
            obtain ⟨hv, hk⟩ := HH
            refine ⟨fun W hW => hv W (hc W hW), fun v hT hx => ?_⟩
            rw [← Act.put_comm a v u p2]
            obtain ⟨hx', hl'⟩ := hl v s hs hx
            exact hl' (hk v hT hx')
        · simp only [hw] at HH ⊢
          rw [← Act.put_comm a undef u p2]
          exact hq undef F' (.inr (by simpa using hw)) rfl HH
      -- one value of i at the least, with a world
      have some_i : ∃ v G, (G = F ∨ ∃ s, sp i = some s ∧ G = upd F i (s.R v)) ∧ anyH P md ops E w0 sp H L (fuel + 1) (listed.setIfInBounds i true) (a.put oi.dst v) G := by
        unfold stepL at HH
        by_cases hw : Region.wanted oi (yielded ops a.tmps) = true
        · simp only [hw, if_true] at HH
          cases hs : sp i with
          | none => simp only [hs] at HH; obtain ⟨v, _, hk⟩ := HH; exact ⟨_, _, .inl rfl, hk⟩
          | some s =>
            simp only [hs] at HH
            obtain ⟨hv, hk⟩ := HH
            have h3 := hv W hW.cls
            generalize (execOp a.eval oi).run P W = r at h3
            cases r with
            | ok n W' =>
              cases n <;> simp only [looseAt] at h3
              case value v => exact ⟨_, _, .inr ⟨s, rfl, rfl⟩, hk v h3.1 ⟨_, (hW.step hE hF h3.2.1).upd h3.2.2⟩⟩
              case skip => exact ⟨_, _, .inr ⟨s, rfl, rfl⟩, hk undef h3.1 ⟨_, (hW.step hE hF h3.2.1).upd h3.2.2⟩⟩
              case enter f args =>
                obtain ⟨e, W'', v, _, hT, he, hr⟩ := calls_some h3
                exact ⟨_, _, .inr ⟨s, rfl, rfl⟩, hk v hT ⟨_, (hW.step hE hF he).upd hr⟩⟩
            | halt x W' => simp only [looseAt] at h3
        · simp only [hw] at HH
          exact ⟨_, _, .inl rfl, HH⟩
      have clsj : ∀ (v : Value) (G : Nat → World → Prop), (G = F ∨ ∃ s, sp i = some s ∧ G = upd F i (s.R v)) → ∀ W, Cls md ops E w0 j F W → Cls md ops E w0 j G W := by
        rintro v G (rfl | ⟨s, _, rfl⟩) W h
        · exact h
        · exact (cls_upd hdep W).2 h
      have stepj : ∀ (v : Value) (G : Nat → World → Prop), anyH P md ops E w0 sp H L (fuel + 1) (listed.setIfInBounds i true) (a.put oi.dst v) G →
          stepL P md ops E w0 sp j oj (anyH P md ops E w0 sp H L fuel ((listed.setIfInBounds i true).setIfInBounds j true)) (a.put oi.dst v) G := by
        intro v G h
        have := (h.2 j hjr).2
        unfold opL at this
        simpa only [hoj] using this
      obtain ⟨v0, G0, hG0, h0⟩ := some_i
      have h0j := stepj v0 G0 h0
      unfold stepL at h0j ⊢
      rw [wanted_put oj a oi.dst v0 p1, execOp_put oj hsj a oi.dst v0 p1] at h0j
      by_cases hw : Region.wanted oj (yielded ops a.tmps) = true
      · simp only [hw, if_true] at h0j ⊢
        cases hs : sp j with
        | none =>
          simp only [hs] at h0j
          obtain ⟨u, hu, _⟩ := h0j
          have hu' : ∀ W, Cls md ops E w0 j F W → (execOp a.eval oj).run P W = .ok (.value u) W := fun W h => hu W (clsj v0 G0 hG0 W h)
          have key : ∀ (v : Value) (G : Nat → World → Prop), (G = F ∨ ∃ s, sp i = some s ∧ G = upd F i (s.R v)) → anyH P md ops E w0 sp H L (fuel + 1) (listed.setIfInBounds i true) (a.put oi.dst v) G →
              anyH P md ops E w0 sp H L fuel ((listed.setIfInBounds i true).setIfInBounds j true) ((a.put oi.dst v).put oj.dst u) G := by
            intro v G hG h
            have hj2 := stepj v G h
            unfold stepL at hj2
            rw [wanted_put oj a oi.dst v p1, execOp_put oj hsj a oi.dst v p1] at hj2
            simp only [hw, if_true, hs] at hj2
            obtain ⟨u2, hu2, hk2⟩ := hj2
            have e1 := hu2 W (clsj v G hG W hW.cls)
            rw [hu' W hW.cls] at e1
            injection e1 with e1 _
            injection e1 with e1
            subst e1
            exact hk2
          refine ⟨u, hu', ih (listed.setIfInBounds j true) (a.put oj.dst u) F hcl2 hF ⟨W, hW⟩ hfree' hr2 (again u F (fun _ h => h) ?_ ?_)⟩
          · intro v G _ hG h
            subst hG
            exact key v _ (.inl rfl) h
          · intro v s hsi hx
            exact ⟨hx, fun h => key v _ (.inr ⟨s, hsi, rfl⟩) h⟩
        | some s =>
          simp only [hs] at h0j
          obtain ⟨hv0, _⟩ := h0j
          refine ⟨fun W h => hv0 W (clsj v0 G0 hG0 W h), fun u hT hx => ih (listed.setIfInBounds j true) (a.put oj.dst u) _ hcl2 (hF.upd (hR j s hs u)) hx hfree' hr2 (again u _ (fun W h => (cls_upd hdep2 W).1 h) ?_ ?_)⟩
          · intro v G _ hG h
            subst hG
            have hj2 := stepj v F h
            unfold stepL at hj2
            rw [wanted_put oj a oi.dst v p1, execOp_put oj hsj a oi.dst v p1] at hj2
            simp only [hw, if_true, hs] at hj2
            exact hj2.2 u hT hx
          · intro v t ht hx2
            obtain ⟨W2, hW2⟩ := hx2
            refine ⟨⟨W2, hW2.1, fun n => ⟨(hW2.2 n).1.1, (hW2.2 n).2⟩⟩, fun h => ?_⟩
            have hj2 := stepj v _ h
            unfold stepL at hj2
            rw [wanted_put oj a oi.dst v p1, execOp_put oj hsj a oi.dst v p1] at hj2
            simp only [hw, if_true, hs] at hj2
            have := hj2.2 u hT ⟨W2, by rw [upd_comm]; exact hW2⟩
            rwa [upd_comm] at this
      · simp only [hw]
        have key : ∀ (v : Value) (G : Nat → World → Prop), anyH P md ops E w0 sp H L (fuel + 1) (listed.setIfInBounds i true) (a.put oi.dst v) G →
            anyH P md ops E w0 sp H L fuel ((listed.setIfInBounds i true).setIfInBounds j true) ((a.put oi.dst v).put oj.dst undef) G := by
          intro v G h
          have hj2 := stepj v G h
          unfold stepL at hj2
          rw [wanted_put oj a oi.dst v p1] at hj2
          rwa [if_neg hw] at hj2
        refine ih (listed.setIfInBounds j true) (a.put oj.dst undef) F hcl2 hF ⟨W, hW⟩ hfree' hr2 (again undef F (fun _ h => h) ?_ ?_)
        · intro v G _ hG h
          subst hG
          exact key v _ h
        · intro v s _ hx
          exact ⟨hx, fun h => key v _ h⟩



/-- Operations by their places. -/
def pick (l : List Oper) : List Nat → List (Nat × Oper)
  | [] => []
  | k :: ks => match l[k]? with
    | some o => (k, o) :: pick l ks
    | none => pick l ks
def ordFrom (md : Region.Mode) (ops : Array Oper) : List Nat → Array Bool → (Array Bool → Bool) → Bool
  | [], listed, K => K listed
  | k :: ks, listed, K => (Region.ready md ops listed).contains k && Region.free md ops listed k && ordFrom md ops ks (listed.setIfInBounds k true) K
def seqO (md : Region.Mode) (ops : Array Oper) : List Nat → Array Bool → Bool
  | [], listed => (Region.ready md ops listed).isEmpty
  | k :: ks, listed => decide (Region.ready md ops listed = [k]) && seqO md ops ks (listed.setIfInBounds k true)
def sinkO (md : Region.Mode) (ops : Array Oper) (t : Nat) : List Nat → Bool
  | [] => true
  | h :: rest => (rest.any (fun j => Region.waitsFor md ops j h) || Region.waitsFor md ops t h) && sinkO md ops t rest
def sinkAll (md : Region.Mode) (ops : Array Oper) : List Nat → List Nat → Bool
  | _, [] => true
  | hd, t :: ts => sinkO md ops t hd && sinkAll md ops (hd ++ [t]) ts
def ordB (md : Region.Mode) (ops : Array Oper) (pre hd tl : List Nat) : Bool :=
  Region.noSelect ops && ((List.range ops.size).all fun i => (pre ++ hd).contains i || tl.contains i) && (tl.all fun t => !(pre ++ hd).contains t && decide (t < ops.size)) && decide (pre.length + hd.length + tl.length = ops.size) && sinkAll md ops hd tl
    && ordFrom md ops pre (Array.replicate ops.size false) (fun listed => ordFrom md ops hd listed (seqO md ops tl))

theorem sinkO_spec {t : Nat} {listed : Array Bool} (hc : Closed md ops listed) (ht : t ∈ Region.ready md ops listed) : ∀ (hd : List Nat), sinkO md ops t hd = true → ∀ h ∈ hd, listed.getD h false = true
  | [], _, h, hh => by cases hh
  | k :: rest, hs, h, hh => by
    simp only [sinkO, Bool.and_eq_true, Bool.or_eq_true] at hs
    have ih := sinkO_spec hc ht rest hs.2
    rcases List.mem_cons.1 hh with rfl | hh
    · rcases hs.1 with h1 | h1
      · obtain ⟨j, hj, hw⟩ := List.any_eq_true.1 h1
        obtain ⟨oj, hoj, e, he, hb, hon⟩ := Region.waitsFor_spec hw
        rw [← hon]
        exact hc j oj hoj (ih j hj) e he hb
      · obtain ⟨ot, hot, e, he, hb, hon⟩ := Region.waitsFor_spec h1
        obtain ⟨_, o', ho', hall⟩ := mem_ready.1 ht
        rw [hot] at ho'
        cases ho'
        rw [← hon]
        exact hall e he hb
    · exact ih h hh
theorem sinkAll_spec {t : Nat} {listed : Array Bool} (hc : Closed md ops listed) (ht : t ∈ Region.ready md ops listed) : ∀ (tl hd : List Nat), sinkAll md ops hd tl = true → t ∈ tl → ∀ h ∈ hd, listed.getD h false = true
  | [], _, _, h => by cases h
  | k :: ts, hd, hs, hm => by
    simp only [sinkAll, Bool.and_eq_true] at hs
    rcases List.mem_cons.1 hm with rfl | hm
    · exact sinkO_spec hc ht hd hs.1
    · intro h hh
      exact sinkAll_spec hc ht ts (hd ++ [k]) hs.2 hm h (List.mem_append_left _ hh)

/-- The first operations, that hang on no world. -/
def preL (P : Program) (ops : Array Oper) : List (Nat × Oper) → (Act → Prop) → Act → Prop
  | [], K, a => K a
  | (_, o) :: rest, K, a => ∃ v, (Region.wanted o (yielded ops a.tmps) = true ∧ ∀ W, (execOp a.eval o).run P W = .ok (.value v) W) ∧ preL P ops rest K (a.put o.dst v)
def lexH (P : Program) (md : Region.Mode) (ops : Array Oper) (E : World → World → Prop) (w0 : World) (sp : Nat → Option Loose) (R : Act → World → Prop) : List (Nat × Oper) → Act → (Nat → World → Prop) → Prop
  | [], a, F => ∀ W, All E w0 F W → R a W
  | (k, o) :: rest, a, F => stepL P md ops E w0 sp k o (lexH P md ops E w0 sp R rest) a F
theorem any_seqO {Q' : Exit → Act → World → Prop} {l : List Oper} (hl : l.toArray = ops) : ∀ (tl : List Nat) (listed : Array Bool) (a : Act) (w : World), (∀ t ∈ tl, t < ops.size) → seqO md ops tl listed = true → wpList P ops Q' ((pick l tl).map (·.2)) a w → wpAny P md ops Q' tl.length listed a w
  | [], _, _, _, _, hB, h => ⟨by simpa [seqO] using hB, h⟩
  | k :: tl, listed, a, w, hlt, hB, h => by
    simp only [seqO, Bool.and_eq_true, decide_eq_true_eq] at hB
    obtain ⟨o, h0⟩ : ∃ o, l[k]? = some o := ⟨_, List.getElem?_eq_getElem (by have := hlt k List.mem_cons_self; rw [← hl] at this; simpa using this)⟩
    have h0' : ops[k]? = some o := by rw [← hl]; simpa using h0
    simp only [pick, h0, List.map_cons] at h
    refine ⟨fun h1 => (by rw [hB.1] at h1; cases h1), fun i hi => ?_⟩
    rw [hB.1] at hi
    have hik : i = k := by simpa using hi
    subst hik
    have hw : wpOp P ops Q' i (wpList P ops Q' ((pick l tl).map (·.2))) a w := by unfold wpOp; simp only [h0']; exact h
    exact wpOp_mono (fun a' w' h' => any_seqO hl tl _ a' w' (fun t ht => hlt t (List.mem_cons_of_mem _ ht)) hB.2 h') hw
theorem anyH_lex {l : List Oper} (hl : l.toArray = ops) {H G : Nat → Bool} {K : Array Bool → Bool} {R : Act → World → Prop} (hwait : ∀ listed, Closed md ops listed → (∃ h, G h = true ∧ listed.getD h true = false) → ∀ t ∈ Region.ready md ops listed, H t = true)
    (hdone : ∀ listed, K listed = true → ∀ j ∈ Region.ready md ops listed, H j = false) (hE : ∀ a b c, E a b → E b c → E a c) (hR : ∀ j s, sp j = some s → ∀ v W W', s.R v W → E W W' → s.R v W') (hs : Region.noSelect ops = true) :
    ∀ (hd : List Nat) (listed : Array Bool) (a : Act) (F : Nat → World → Prop), (∀ h ∈ hd, G h = true ∧ h < ops.size) → Closed md ops listed → StF E F → (∃ W, All E w0 F W) →
    ordFrom md ops hd listed K = true → lexH P md ops E w0 sp R (pick l hd) a F → anyH P md ops E w0 sp H (fun listed a F => K listed = true ∧ ∀ W, All E w0 F W → R a W) hd.length listed a F
  | [], listed, a, F, _, _, _, _, hB, h => ⟨by simpa [ordFrom] using hB, h⟩
  | k :: hd, listed, a, F, hG, hcl, hF, hex, hB, h => by
    obtain ⟨hGk, hlt⟩ := hG k List.mem_cons_self
    obtain ⟨o, h0⟩ : ∃ o, l[k]? = some o := ⟨_, List.getElem?_eq_getElem (by rw [← hl] at hlt; simpa using hlt)⟩
    have h0' : ops[k]? = some o := by rw [← hl]; simpa using h0
    simp only [ordFrom, Bool.and_eq_true] at hB
    obtain ⟨⟨hr, hf⟩, hB'⟩ := hB
    have hr' : k ∈ Region.ready md ops listed := by simpa using hr
    have hG' : ∀ h ∈ hd, G h = true ∧ h < ops.size := fun h hh => hG h (List.mem_cons_of_mem _ hh)
    simp only [pick, h0] at h
    refine anyH_first (G := G) hwait (fun listed' a' F' hL => hdone listed' hL.1) hE hR hGk h0' (Region.noSelect_spec hs) hd.length listed a F hcl hF hex (Region.free_spec h0' hf) hr' ?_
    unfold lexH at h
    unfold stepL at h ⊢
    by_cases hw : Region.wanted o (yielded ops a.tmps) = true
    · simp only [hw, if_true] at h ⊢
      cases hsp : sp k with
      | none =>
        simp only [hsp] at h
        obtain ⟨v, hv, hk⟩ := h
        exact ⟨v, hv, anyH_lex hl hwait hdone hE hR hs hd _ _ F hG' (hcl.set hr') hF hex hB' hk⟩
      | some s =>
        simp only [hsp] at h
        exact ⟨h.1, fun v hT hx => anyH_lex hl hwait hdone hE hR hs hd _ _ _ hG' (hcl.set hr') (hF.upd (hR k s hsp v)) hx hB' (h.2 v hT hx)⟩
    · rw [if_neg hw] at h ⊢
      exact anyH_lex hl hwait hdone hE hR hs hd _ _ F hG' (hcl.set hr') hF hex hB' h
theorem any_pre {l : List Oper} (hl : l.toArray = ops) (hs : Region.noSelect ops = true) {K : Array Bool → Bool} {R : Act → Prop} {g : Nat} {W : World} : ∀ (pre : List Nat) (listed : Array Bool) (a : Act), (∀ k ∈ pre, k < ops.size) → Closed md ops listed → ordFrom md ops pre listed K = true → preL P ops (pick l pre) R a →
    (∀ listed a, Closed md ops listed → K listed = true → R a → wpAny P md ops (onlyN Q) g listed a W) → wpAny P md ops (onlyN Q) (g + pre.length) listed a W
  | [], listed, a, _, hcl, hB, h, hk => hk listed a hcl (by simpa [ordFrom] using hB) h
  | k :: pre, listed, a, hlt, hcl, hB, h, hk => by
    obtain ⟨o, h0⟩ : ∃ o, l[k]? = some o := ⟨_, List.getElem?_eq_getElem (by have := hlt k List.mem_cons_self; rw [← hl] at this; simpa using this)⟩
    have h0' : ops[k]? = some o := by rw [← hl]; simpa using h0
    simp only [ordFrom, Bool.and_eq_true] at hB
    obtain ⟨⟨hr, hf⟩, hB'⟩ := hB
    have hr' : k ∈ Region.ready md ops listed := by simpa using hr
    simp only [pick, h0, preL] at h
    obtain ⟨v, ⟨hw, hy⟩, h⟩ := h
    rw [List.length_cons, ← Nat.add_assoc]
    exact any_first h0' (Region.noSelect_spec hs) (g + pre.length) listed a W (Region.free_spec h0' hf) hr' hw hy (any_pre hl hs pre _ _ (fun t ht => hlt t (List.mem_cons_of_mem _ ht)) (hcl.set hr') hB' h hk)

/-- A region that draws its order, in an order of one's own. -/
theorem wp_region_ordE {id : Nat} {a : Act} {w : World} {l : List Oper} (pre hd tl : List Nat) (E : World → World → Prop) (sp : Nat → Option Loose) (hm : P.follows .mixedOrders = true) (hB : ordB .any l.toArray pre hd tl = true) (h0 : ∀ a, E a a) (hE : ∀ a b c, E a b → E b c → E a c)
    (hR : ∀ j s, sp j = some s → ∀ v W W', s.R v W → E W W' → s.R v W')
    (h : preL P l.toArray (pick l pre) (fun a => lexH P .any l.toArray E w.drew sp (wpList P l.toArray (onlyN Q) ((pick l tl).map (·.2))) (pick l hd) a (fun _ _ => True)) a) : (Code.region id l.toArray true).wp P Q a w := by
  simp only [ordB, Bool.and_eq_true, decide_eq_true_eq] at hB
  obtain ⟨⟨⟨⟨⟨hsel, hall⟩, hdis⟩, hlen⟩, hsink⟩, hord⟩ := hB
  have hcl0 : Closed .any l.toArray (Array.replicate l.toArray.size false) := fun k o _ hk => by
    exfalso
    rcases Nat.lt_or_ge k l.length with h | h
    · simp [h] at hk
    · simp [h] at hk
  refine wp_region_any hm (any_monoQ onlyN_le _ _ _ _ ?_)
  have sub : ∀ (ks : List Nat) (listed : Array Bool) (K : Array Bool → Bool), ordFrom .any l.toArray ks listed K = true → ∀ k ∈ ks, k < l.toArray.size := by
    intro ks
    induction ks with
    | nil => intro _ _ _ k hk; cases hk
    | cons x ks ih =>
      intro listed K hB k hk
      simp only [ordFrom, Bool.and_eq_true] at hB
      rcases List.mem_cons.1 hk with rfl | hk
      · have hr : k ∈ Region.ready .any l.toArray listed := by simpa using hB.1.1
        obtain ⟨_, o, ho, _⟩ := mem_ready.1 hr
        exact (Array.getElem?_eq_some_iff.1 ho).1
      · exact ih _ _ hB.2 k hk
  have := any_pre (Q := Q) (P := P) (md := .any) (ops := l.toArray) rfl hsel (g := hd.length + tl.length) (W := w.drew) pre _ a (sub _ _ _ hord) hcl0 hord h (fun listed a hcl hK hR' => by
    have hsub := sub _ _ _ hK
    have hnt : ∀ t ∈ tl, ¬ (pre ++ hd).contains t = true := fun t ht => by
      have := List.all_eq_true.1 hdis t ht
      simp only [Bool.and_eq_true] at this
      simpa using this.1
    have H := anyH_lex (md := .any) (ops := l.toArray) (P := P) (w0 := w.drew) (l := l) rfl (H := fun i => (pre ++ hd).contains i) (G := fun i => hd.contains i) (K := seqO .any l.toArray tl) (R := wpList P l.toArray (onlyN Q) ((pick l tl).map (·.2)))
      (fun listed' hcl' ⟨h', hG, hun⟩ t ht => by
        obtain ⟨_, ot, hot, _⟩ := mem_ready.1 ht
        have h1 := List.all_eq_true.1 hall t (List.mem_range.2 (Array.getElem?_eq_some_iff.1 hot).1)
        simp only [Bool.or_eq_true] at h1
        rcases h1 with h1 | h1
        · exact h1
        · have h2 := sinkAll_spec hcl' ht tl hd hsink (by simpa using h1) h' (by simpa using hG)
          rw [getD_both hun] at h2
          cases h2)
      (fun listed' hK' j hj => by
        cases tl with
        | nil => simp only [seqO, List.isEmpty_iff] at hK'; rw [hK'] at hj; cases hj
        | cons t tl =>
          simp only [seqO, Bool.and_eq_true, decide_eq_true_eq] at hK'
          rw [hK'.1] at hj
          have : j = t := by simpa using hj
          subst this
          simpa using hnt j List.mem_cons_self) hE hR hsel hd listed a (fun _ _ => True) (fun h hh => ⟨by simpa using hh, hsub h hh⟩) hcl (fun _ _ _ _ _ => trivial) ⟨w.drew, h0 _, fun _ => trivial⟩ hK hR'
    exact any_ofH (Q := onlyN Q) (g := tl.length) (fun listed' a' F W hL hW => any_seqO rfl tl listed' a' W (fun t ht => by
      have := List.all_eq_true.1 hdis t ht
      simp only [Bool.and_eq_true, decide_eq_true_eq] at this
      exact this.2) hL.1 (hL.2 W hW)) hE hR hd.length listed a (fun _ _ => True) w.drew (fun _ _ _ _ _ => trivial) ⟨h0 _, fun _ => trivial⟩ H)
  rw [show hd.length + tl.length + pre.length = l.toArray.size by omega] at this
  exact this
/-- .. in which nothing old is written but by its tail. -/
theorem wp_region_ord {id : Nat} {a : Act} {w : World} {l : List Oper} (pre hd tl : List Nat) (L : List (Nat × Loose)) (hm : P.follows .mixedOrders = true) (hB : ordB .any l.toArray pre hd tl = true) (hL : ∀ p ∈ L, p.2.St Base.Ext)
    (h : preL P l.toArray (pick l pre) (fun a => lexH P .any l.toArray Base.Ext w.drew (spOf L) (wpList P l.toArray (onlyN Q) ((pick l tl).map (·.2))) (pick l hd) a (fun _ _ => True)) a) : (Code.region id l.toArray true).wp P Q a w :=
  wp_region_ordE pre hd tl Base.Ext (spOf L) hm hB Base.Ext.refl (fun _ _ _ => Base.Ext.trans) (fun _ _ hs v W W' hr he => by obtain ⟨p, hp, rfl⟩ := spOf_mem hs; exact hL p hp v W W' hr he) h
theorem preL_nil {K : Act → Prop} {a : Act} (h : K a) : preL P ops [] K a := h
theorem preL_cons {K : Act → Prop} {a : Act} {k : Nat} {o : Oper} {rest : List (Nat × Oper)} (hw : Region.wanted o (yielded ops a.tmps) = true) (h : ∃ v, (∀ W, (execOp a.eval o).run P W = .ok (.value v) W) ∧ preL P ops rest K (a.put o.dst v)) : preL P ops ((k, o) :: rest) K a := by
  obtain ⟨v, h1, h2⟩ := h
  exact ⟨v, ⟨hw, h1⟩, h2⟩
variable {R : Act → World → Prop} {F : Nat → World → Prop} {a : Act} {o : Oper} {rest : List (Nat × Oper)} {k : Nat}
theorem lexH_nil (h : ∀ W, All E w0 F W → R a W) : lexH P md ops E w0 sp R [] a F := h
theorem lexH_skip (hw : Region.wanted o (yielded ops a.tmps) = false) (h : lexH P md ops E w0 sp R rest (a.put o.dst undef) F) : lexH P md ops E w0 sp R ((k, o) :: rest) a F := by
  unfold lexH stepL
  rw [if_neg (by rw [hw]; exact Bool.false_ne_true)]
  exact h
theorem lexH_still (hw : Region.wanted o (yielded ops a.tmps) = true) (hs : sp k = none) (h : ∃ v, (∀ W, Cls md ops E w0 k F W → (execOp a.eval o).run P W = .ok (.value v) W) ∧ lexH P md ops E w0 sp R rest (a.put o.dst v) F) : lexH P md ops E w0 sp R ((k, o) :: rest) a F := by
  unfold lexH stepL
  rw [if_pos hw]
  simp only [hs]
  exact h
theorem lexH_loose (hw : Region.wanted o (yielded ops a.tmps) = true) {s : Loose} (hs : sp k = some s) (hv : ∀ W, Cls md ops E w0 k F W → looseAt P E W s ((execOp a.eval o).run P W))
    (h : ∀ v, s.T v → lexH P md ops E w0 sp R rest (a.put o.dst v) (upd F k (s.R v))) : lexH P md ops E w0 sp R ((k, o) :: rest) a F := by
  unfold lexH stepL
  rw [if_pos hw]
  simp only [hs]
  exact ⟨hv, fun v hT _ => h v hT⟩
end
end Go.Proofs.Ytipmkddcdnbihaa.Lex
