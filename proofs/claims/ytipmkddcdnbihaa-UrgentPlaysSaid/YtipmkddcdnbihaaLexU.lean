/- A region that draws its order, walked once in an order of one's own: what an operation that calls nothing leaves is known without a word said ahead. No program in sight. -/
import Derived.Test.YtipmkddcdnbihaaOrd
namespace Go.Proofs.Ytipmkddcdnbihaa.Lex

section
variable {P : Program} {ops : Array Oper} {md : Region.Mode} {E : World → World → Prop} {w0 : World} {sp : Nat → Option Loose} {Q : Exit → Act → World → Prop}

/-- What is known behind an operation that calls nothing: it has run, in a world in which it could come up. -/
def factU (P : Program) (md : Region.Mode) (ops : Array Oper) (E : World → World → Prop) (w0 : World) (j : Nat) (F : Nat → World → Prop) (m : Sem Next) (v : Value) (W : World) : Prop :=
  ∃ W0 W1, Cls md ops E w0 j F W0 ∧ (m.run P W0 = .ok (.value v) W1 ∨ (m.run P W0 = .ok .skip W1 ∧ v = undef)) ∧ E W1 W
def specU (P : Program) (md : Region.Mode) (ops : Array Oper) (E : World → World → Prop) (w0 : World) (sp : Nat → Option Loose) (j : Nat) (F : Nat → World → Prop) (m : Sem Next) : Loose :=
  match sp j with
  | some s => s
  | none => ⟨fun _ => True, factU P md ops E w0 j F m⟩
def progU (P : Program) (E : World → World → Prop) (sp : Nat → Option Loose) (j : Nat) (m : Sem Next) (W : World) : Prop :=
  match sp j with
  | some s => looseAt P E W s (m.run P W)
  | none => match m.run P W with
    | .ok (.value _) W' => E W W'
    | .ok .skip W' => E W W'
    | _ => False
theorem specU_upd {j i : Nat} {F : Nat → World → Prop} {r : World → Prop} {m : Sem Next} (h : dep md ops j i = false) : specU P md ops E w0 sp j (upd F i r) m = specU P md ops E w0 sp j F m := by
  have hc : Cls md ops E w0 j (upd F i r) = Cls md ops E w0 j F := funext fun W => propext (cls_upd h W)
  unfold specU factU
  rw [hc]
theorem specU_st (hE : ∀ a b c, E a b → E b c → E a c) (hR : ∀ j s, sp j = some s → ∀ v W W', s.R v W → E W W' → s.R v W') (j : Nat) (F : Nat → World → Prop) (m : Sem Next) : ∀ v W W', (specU P md ops E w0 sp j F m).R v W → E W W' → (specU P md ops E w0 sp j F m).R v W' := by
  unfold specU
  cases hs : sp j with
  | some s => exact hR j s hs
  | none => exact fun v W W' ⟨W0, W1, h1, h2, h3⟩ he => ⟨W0, W1, h1, h2, hE _ _ _ h3 he⟩
theorem progU_loose (h0 : ∀ a, E a a) {j : Nat} {F : Nat → World → Prop} {m : Sem Next} {W : World} (hc : Cls md ops E w0 j F W) (h : progU P E sp j m W) : looseAt P E W (specU P md ops E w0 sp j F m) (m.run P W) := by
  unfold progU at h
  unfold specU
  cases hs : sp j with
  | some s => simpa only [hs] using h
  | none =>
    simp only [hs] at h ⊢
    generalize hr : m.run P W = r at h
    cases r with
    | ok n W' =>
      cases n <;> simp only at h
      case value v => exact ⟨trivial, h, W, W', hc, .inl hr, h0 _⟩
      case skip => exact ⟨trivial, h, W, W', hc, .inr ⟨hr, rfl⟩, h0 _⟩
    | halt x W' => exact h.elim
def stepU (P : Program) (md : Region.Mode) (ops : Array Oper) (E : World → World → Prop) (w0 : World) (sp : Nat → Option Loose) (j : Nat) (o : Oper) (K : Act → (Nat → World → Prop) → Prop) (a : Act) (F : Nat → World → Prop) : Prop :=
  if Region.wanted o (yielded ops a.tmps) = true then
    (∀ W, Cls md ops E w0 j F W → progU P E sp j (execOp a.eval o) W) ∧ ∀ v, (specU P md ops E w0 sp j F (execOp a.eval o)).T v → (∃ W, All E w0 (upd F j ((specU P md ops E w0 sp j F (execOp a.eval o)).R v)) W) → K (a.put o.dst v) (upd F j ((specU P md ops E w0 sp j F (execOp a.eval o)).R v))
  else K (a.put o.dst undef) F
def opU (P : Program) (md : Region.Mode) (ops : Array Oper) (E : World → World → Prop) (w0 : World) (sp : Nat → Option Loose) (j : Nat) (K : Act → (Nat → World → Prop) → Prop) (a : Act) (F : Nat → World → Prop) : Prop :=
  match ops[j]? with
  | none => K a F
  | some o => stepU P md ops E w0 sp j o K a F
def anyU (P : Program) (md : Region.Mode) (ops : Array Oper) (E : World → World → Prop) (w0 : World) (sp : Nat → Option Loose) (H : Nat → Bool) (L : Array Bool → Act → (Nat → World → Prop) → Prop) : Nat → Array Bool → Act → (Nat → World → Prop) → Prop
  | 0, listed, a, F => L listed a F
  | fuel + 1, listed, a, F => Region.ready md ops listed ≠ [] ∧ ∀ j ∈ Region.ready md ops listed, H j = true ∧ opU P md ops E w0 sp j (anyU P md ops E w0 sp H L fuel (listed.setIfInBounds j true)) a F
theorem any_ofU {H : Nat → Bool} {g : Nat} {L : Array Bool → Act → (Nat → World → Prop) → Prop} (hL : ∀ listed a F W, L listed a F → All E w0 F W → wpAny P md ops Q g listed a W) (h0 : ∀ a, E a a) (hE : ∀ a b c, E a b → E b c → E a c) (hR : ∀ j s, sp j = some s → ∀ v W W', s.R v W → E W W' → s.R v W') :
    ∀ (fuel : Nat) (listed : Array Bool) (a : Act) (F : Nat → World → Prop) (W : World), StF E F → All E w0 F W → anyU P md ops E w0 sp H L fuel listed a F → wpAny P md ops Q (fuel + g) listed a W
  | 0, _, _, _, W, _, hW, h => by rw [Nat.zero_add]; exact hL _ _ _ _ h hW
  | fuel + 1, listed, a, F, W, hF, hW, h => by
    rw [show fuel + 1 + g = (fuel + g) + 1 by omega]
    refine ⟨fun h0 => absurd h0 h.1, fun j hj => ?_⟩
    have h1 := (h.2 j hj).2
    unfold opU at h1
    unfold wpOp
    cases ho : ops[j]? with
    | none => simp only [ho] at h1 ⊢; exact any_ofU hL h0 hE hR fuel _ _ _ _ hF hW h1
    | some o =>
      simp only [ho] at h1 ⊢
      unfold stepU at h1
      by_cases hw : Region.wanted o (yielded ops a.tmps) = true
      · simp only [hw, if_true] at h1 ⊢
        refine .inl ?_
        unfold Oper.wp
        obtain ⟨hv, hk⟩ := h1
        have h2 := progU_loose (md := md) (ops := ops) h0 hW.cls (hv W hW.cls)
        have hFs : ∀ v, StF E (upd F j ((specU P md ops E w0 sp j F (execOp a.eval o)).R v)) := fun v => hF.upd (specU_st hE hR j F _ v)
        generalize specU P md ops E w0 sp j F (execOp a.eval o) = s at h2 hk hFs
        generalize (execOp a.eval o).run P W = r at h2 ⊢
        cases r with
        | ok n W' =>
          cases n <;> simp only [looseAt] at h2 <;> simp only [Oper.upon]
          case value v =>
            obtain ⟨hT, he, hr⟩ := h2
            have hA := (hW.step hE hF he).upd (j := j) (r := s.R v) hr
            exact any_ofU hL h0 hE hR fuel _ _ _ _ (hFs v) hA (hk v hT ⟨_, hA⟩)
          case skip =>
            obtain ⟨hT, he, hr⟩ := h2
            have hA := (hW.step hE hF he).upd (j := j) (r := s.R undef) hr
            exact any_ofU hL h0 hE hR fuel _ _ _ _ (hFs undef) hA (hk undef hT ⟨_, hA⟩)
          case enter f args =>
            refine h2.mono fun e W'' ⟨v, hev, hT, he, hr⟩ => ?_
            subst hev
            have hA := (hW.step hE hF he).upd (j := j) (r := s.R v) hr
            exact any_ofU hL h0 hE hR fuel _ _ _ _ (hFs v) hA (hk v hT ⟨_, hA⟩)
        | halt x W' => simp only [looseAt] at h2
      · simp only [hw] at h1 ⊢
        exact any_ofU hL h0 hE hR fuel _ _ _ _ hF hW h1

/-- An operation has a value at the least. -/
theorem stepU_some (h0 : ∀ a, E a a) (hE : ∀ a b c, E a b → E b c → E a c) {i : Nat} {oi : Oper} {a : Act} {F : Nat → World → Prop} {K : Act → (Nat → World → Prop) → Prop} (hF : StF E F) (hex : ∃ W, All E w0 F W) (h : stepU P md ops E w0 sp i oi K a F) :
    ∃ v G, (G = F ∨ ∃ r, G = upd F i r) ∧ K (a.put oi.dst v) G := by
  unfold stepU at h
  by_cases hw : Region.wanted oi (yielded ops a.tmps) = true
  · simp only [hw, if_true] at h
    obtain ⟨hv, hk⟩ := h
    obtain ⟨W, hW⟩ := hex
    have h3 := progU_loose (md := md) (ops := ops) h0 hW.cls (hv W hW.cls)
    generalize specU P md ops E w0 sp i F (execOp a.eval oi) = s at h3 hk
    generalize (execOp a.eval oi).run P W = r at h3
    cases r with
    | ok n W' =>
      cases n <;> simp only [looseAt] at h3
      case value v => exact ⟨_, _, .inr ⟨_, rfl⟩, hk v h3.1 ⟨_, (hW.step hE hF h3.2.1).upd h3.2.2⟩⟩
      case skip => exact ⟨_, _, .inr ⟨_, rfl⟩, hk undef h3.1 ⟨_, (hW.step hE hF h3.2.1).upd h3.2.2⟩⟩
      case enter f args =>
        obtain ⟨e, W'', v, _, hT, he, hr⟩ := calls_some h3
        exact ⟨_, _, .inr ⟨_, rfl⟩, hk v hT ⟨_, (hW.step hE hF he).upd hr⟩⟩
    | halt x W' => simp only [looseAt] at h3
  · simp only [hw] at h
    exact ⟨_, _, .inl rfl, h⟩

/-- An operation that may be taken first. -/
theorem anyU_first {H G : Nat → Bool} {L : Array Bool → Act → (Nat → World → Prop) → Prop} (hwait : ∀ listed, Closed md ops listed → (∃ h, G h = true ∧ listed.getD h true = false) → ∀ t ∈ Region.ready md ops listed, H t = true) (hdone : ∀ listed a F, L listed a F → ∀ j ∈ Region.ready md ops listed, H j = false) (h0 : ∀ a, E a a) (hE : ∀ a b c, E a b → E b c → E a c) (hR : ∀ j s, sp j = some s → ∀ v W W', s.R v W → E W W' → s.R v W') {i : Nat} {oi : Oper} (hin : G i = true) (hi : ops[i]? = some oi) (hsel : ∀ (j : Nat) (o : Oper) cs b, ops[j]? = some o → o.op ≠ .select cs b) :
    ∀ (fuel : Nat) (listed : Array Bool) (a : Act) (F : Nat → World → Prop), Closed md ops listed → StF E F → (∃ W, All E w0 F W) →
      (∀ j oj, ops[j]? = some oj → j ≠ i → listed.getD j true = false → (∀ e ∈ oj.after, Region.binds md e = true → e.on ≠ i) → oi.apart ops oj = true) →
      i ∈ Region.ready md ops listed →
      stepU P md ops E w0 sp i oi (anyU P md ops E w0 sp H L fuel (listed.setIfInBounds i true)) a F → anyU P md ops E w0 sp H L (fuel + 1) listed a F := by
  intro fuel
  induction fuel with
  | zero =>
    intro listed a F hcl hF hex hfree hr HH
    refine ⟨fun h => (by rw [h] at hr; cases hr), fun j hj => ?_⟩
    have hjn : H j = true := hwait listed hcl ⟨i, hin, (mem_ready.1 hr).1⟩ j hj
    refine ⟨hjn, ?_⟩
    by_cases hji : j = i
    · subst hji
      unfold opU
      simp only [hi]
      exact HH
    · exfalso
      have h1 := ready_mono hj hji
      obtain ⟨_, _, _, h2⟩ := stepU_some h0 hE hF hex HH
      have := hdone _ _ _ h2 j h1
      rw [hjn] at this
      cases this
  | succ fuel ih =>
    intro listed a F hcl hF hex hfree hr HH
    refine ⟨fun h => (by rw [h] at hr; cases hr), fun j hj => ?_⟩
    have hjn : H j = true := hwait listed hcl ⟨i, hin, (mem_ready.1 hr).1⟩ j hj
    refine ⟨hjn, ?_⟩
    by_cases hji : j = i
    · subst hji
      unfold opU
      simp only [hi]
      exact HH
    · obtain ⟨hjun, oj, hoj, hall⟩ := mem_ready.1 hj
      have hiun := (mem_ready.1 hr).1
      have hnot : ∀ e ∈ oj.after, Region.binds md e = true → e.on ≠ i := fun e he hb heq => by
        have h1 := hall e he hb
        rw [heq] at h1
        rcases Nat.lt_or_ge i listed.size with h' | h'
        · simp [h'] at hiun h1; rw [hiun] at h1; cases h1
        · simp [Array.getElem?_eq_none h'] at h1
      have hap := hfree j oj hoj hji hjun hnot
      obtain ⟨p1, p2, p3⟩ := Oper.apart_spec hap
      have hsi : ∀ cs b, oi.op ≠ .select cs b := fun cs b => hsel i oi cs b hi
      have hsj : ∀ cs b, oj.op ≠ .select cs b := fun cs b => hsel j oj cs b hoj
      have hdep : dep md ops j i = false := not_dep hcl hj hiun
      have hdep2 : dep md ops i j = false := not_dep hcl hr hjun
      have hcl2 := hcl.set hj
      have hfree' : ∀ k ok, ops[k]? = some ok → k ≠ i → (listed.setIfInBounds j true).getD k true = false →
          (∀ e ∈ ok.after, Region.binds md e = true → e.on ≠ i) → oi.apart ops ok = true := fun k ok hk hki hun hno => by
        refine hfree k ok hk hki ?_ hno
        by_cases hjk : j = k
        · subst hjk; exact hjun
        · rw [getD_set_ne true hjk] at hun; exact hun
      have hr2 := ready_mono hr (Ne.symm hji)
      have hjr := ready_mono hj hji
      have hsw : (listed.setIfInBounds j true).setIfInBounds i true = (listed.setIfInBounds i true).setIfInBounds j true := Array.setIfInBounds_comm _ _ hji
      unfold opU
      simp only [hoj]
      -- i's step anew, behind j's value u and facts F'
      have again : ∀ (u : Value) (F' : Nat → World → Prop), (F' = F ∨ ∃ r, F' = upd F j r) →
          (anyU P md ops E w0 sp H L (fuel + 1) (listed.setIfInBounds i true) (a.put oi.dst undef) F → anyU P md ops E w0 sp H L fuel ((listed.setIfInBounds i true).setIfInBounds j true) ((a.put oi.dst undef).put oj.dst u) F') →
          (∀ v r, (∃ W, All E w0 (upd F' i r) W) → (∃ W, All E w0 (upd F i r) W) ∧ (anyU P md ops E w0 sp H L (fuel + 1) (listed.setIfInBounds i true) (a.put oi.dst v) (upd F i r) → anyU P md ops E w0 sp H L fuel ((listed.setIfInBounds i true).setIfInBounds j true) ((a.put oi.dst v).put oj.dst u) (upd F' i r))) →
          stepU P md ops E w0 sp i oi (anyU P md ops E w0 sp H L fuel ((listed.setIfInBounds j true).setIfInBounds i true)) (a.put oj.dst u) F' := by
        intro u F' hF' hq hl
        have hS : specU P md ops E w0 sp i F' (execOp a.eval oi) = specU P md ops E w0 sp i F (execOp a.eval oi) := by
          rcases hF' with rfl | ⟨r, rfl⟩
          · rfl
          · exact specU_upd hdep2
        have hc : ∀ W, Cls md ops E w0 i F' W → Cls md ops E w0 i F W := by
          rcases hF' with rfl | ⟨r, rfl⟩
          · exact fun _ h => h
          · exact fun W h => (cls_upd hdep2 W).1 h
        unfold stepU at HH ⊢
        rw [wanted_put oi a oj.dst u p3, execOp_put oi hsi a oj.dst u p3, hsw, hS]
        by_cases hw : Region.wanted oi (yielded ops a.tmps) = true
        · simp only [hw, if_true] at HH ⊢
          obtain ⟨hv, hk⟩ := HH
          refine ⟨fun W hW => hv W (hc W hW), fun v hT hx => ?_⟩
          rw [← Act.put_comm a v u p2]
          obtain ⟨hx', hl'⟩ := hl v _ hx
          exact hl' (hk v hT hx')
        · simp only [hw] at HH ⊢
          rw [← Act.put_comm a undef u p2]
          exact hq HH
      have stepj : ∀ (v : Value) (G : Nat → World → Prop), anyU P md ops E w0 sp H L (fuel + 1) (listed.setIfInBounds i true) (a.put oi.dst v) G →
          stepU P md ops E w0 sp j oj (anyU P md ops E w0 sp H L fuel ((listed.setIfInBounds i true).setIfInBounds j true)) (a.put oi.dst v) G := by
        intro v G h
        have := (h.2 j hjr).2
        unfold opU at this
        simpa only [hoj] using this
      obtain ⟨v0, G0, hG0, hh0⟩ := stepU_some h0 hE hF hex HH
      have h0j := stepj v0 G0 hh0
      have hSj : ∀ r, specU P md ops E w0 sp j (upd F i r) (execOp a.eval oj) = specU P md ops E w0 sp j F (execOp a.eval oj) := fun r => specU_upd hdep
      have clsj : ∀ W, Cls md ops E w0 j F W → Cls md ops E w0 j G0 W := by
        rcases hG0 with rfl | ⟨r, rfl⟩
        · exact fun _ h => h
        · exact fun W h => (cls_upd hdep W).2 h
      unfold stepU at h0j ⊢
      rw [wanted_put oj a oi.dst v0 p1, execOp_put oj hsj a oi.dst v0 p1] at h0j
      by_cases hw : Region.wanted oj (yielded ops a.tmps) = true
      · simp only [hw, if_true] at h0j ⊢
        obtain ⟨hv0, _⟩ := h0j
        refine ⟨fun W h => hv0 W (clsj W h), fun u hT hx => ih (listed.setIfInBounds j true) (a.put oj.dst u) _ hcl2 (hF.upd (specU_st hE hR j F _ u)) hx hfree' hr2 (again u _ (.inr ⟨_, rfl⟩) ?_ ?_)⟩
        · intro h
          have hj2 := stepj undef F h
          unfold stepU at hj2
          rw [wanted_put oj a oi.dst undef p1, execOp_put oj hsj a oi.dst undef p1] at hj2
          simp only [hw, if_true] at hj2
          exact hj2.2 u hT hx
        · intro v r hx2
          obtain ⟨W2, hW2⟩ := hx2
          refine ⟨⟨W2, hW2.1, fun n => ⟨(hW2.2 n).1.1, (hW2.2 n).2⟩⟩, fun h => ?_⟩
          have hj2 := stepj v _ h
          unfold stepU at hj2
          rw [wanted_put oj a oi.dst v p1, execOp_put oj hsj a oi.dst v p1, hSj] at hj2
          simp only [hw, if_true] at hj2
          have := hj2.2 u hT ⟨W2, by rw [upd_comm]; exact hW2⟩
          rwa [upd_comm] at this
      · simp only [hw]
        have key : ∀ (v : Value) (G : Nat → World → Prop), anyU P md ops E w0 sp H L (fuel + 1) (listed.setIfInBounds i true) (a.put oi.dst v) G →
            anyU P md ops E w0 sp H L fuel ((listed.setIfInBounds i true).setIfInBounds j true) ((a.put oi.dst v).put oj.dst undef) G := by
          intro v G h
          have hj2 := stepj v G h
          unfold stepU at hj2
          rw [wanted_put oj a oi.dst v p1] at hj2
          rwa [if_neg hw] at hj2
        refine ih (listed.setIfInBounds j true) (a.put oj.dst undef) F hcl2 hF hex hfree' hr2 (again undef F (.inl rfl) ?_ ?_)
        · exact fun h => key undef _ h
        · exact fun v r hx => ⟨hx, fun h => key v _ h⟩
def lexU (P : Program) (md : Region.Mode) (ops : Array Oper) (E : World → World → Prop) (w0 : World) (sp : Nat → Option Loose) (R : Act → World → Prop) : List (Nat × Oper) → Act → (Nat → World → Prop) → Prop
  | [], a, F => ∀ W, All E w0 F W → R a W
  | (k, o) :: rest, a, F => stepU P md ops E w0 sp k o (lexU P md ops E w0 sp R rest) a F
theorem anyU_lex {l : List Oper} (hl : l.toArray = ops) {H G : Nat → Bool} {K : Array Bool → Bool} {R : Act → World → Prop} (hwait : ∀ listed, Closed md ops listed → (∃ h, G h = true ∧ listed.getD h true = false) → ∀ t ∈ Region.ready md ops listed, H t = true)
    (hdone : ∀ listed, K listed = true → ∀ j ∈ Region.ready md ops listed, H j = false) (h0 : ∀ a, E a a) (hE : ∀ a b c, E a b → E b c → E a c) (hR : ∀ j s, sp j = some s → ∀ v W W', s.R v W → E W W' → s.R v W') (hs : Region.noSelect ops = true) :
    ∀ (hd : List Nat) (listed : Array Bool) (a : Act) (F : Nat → World → Prop), (∀ h ∈ hd, G h = true ∧ h < ops.size) → Closed md ops listed → StF E F → (∃ W, All E w0 F W) →
    ordFrom md ops hd listed K = true → lexU P md ops E w0 sp R (pick l hd) a F → anyU P md ops E w0 sp H (fun listed a F => K listed = true ∧ ∀ W, All E w0 F W → R a W) hd.length listed a F
  | [], listed, a, F, _, _, _, _, hB, h => ⟨by simpa [ordFrom] using hB, h⟩
  | k :: hd, listed, a, F, hG, hcl, hF, hex, hB, h => by
    obtain ⟨hGk, hlt⟩ := hG k List.mem_cons_self
    obtain ⟨o, ho⟩ : ∃ o, l[k]? = some o := ⟨_, List.getElem?_eq_getElem (by rw [← hl] at hlt; simpa using hlt)⟩
    have ho' : ops[k]? = some o := by rw [← hl]; simpa using ho
    simp only [ordFrom, Bool.and_eq_true] at hB
    obtain ⟨⟨hr, hf⟩, hB'⟩ := hB
    have hr' : k ∈ Region.ready md ops listed := by simpa using hr
    have hG' : ∀ h ∈ hd, G h = true ∧ h < ops.size := fun h hh => hG h (List.mem_cons_of_mem _ hh)
    simp only [pick, ho] at h
    refine anyU_first (G := G) hwait (fun listed' a' F' hL => hdone listed' hL.1) h0 hE hR hGk ho' (Region.noSelect_spec hs) hd.length listed a F hcl hF hex (Region.free_spec ho' hf) hr' ?_
    unfold lexU at h
    unfold stepU at h ⊢
    by_cases hw : Region.wanted o (yielded ops a.tmps) = true
    · simp only [hw, if_true] at h ⊢
      exact ⟨h.1, fun v hT hx => anyU_lex hl hwait hdone h0 hE hR hs hd _ _ _ hG' (hcl.set hr') (hF.upd (specU_st hE hR k F _ v)) hx hB' (h.2 v hT hx)⟩
    · rw [if_neg hw] at h ⊢
      exact anyU_lex hl hwait hdone h0 hE hR hs hd _ _ F hG' (hcl.set hr') hF hex hB' h

/-- A region that draws its order, in an order of one's own: a head, then a tail. -/
theorem wp_region_uE {id : Nat} {a : Act} {w : World} {l : List Oper} (hd tl : List Nat) (E : World → World → Prop) (sp : Nat → Option Loose) (hm : P.follows .mixedOrders = true) (hB : ordB .any l.toArray [] hd tl = true) (h0 : ∀ a, E a a) (hE : ∀ a b c, E a b → E b c → E a c)
    (hR : ∀ j s, sp j = some s → ∀ v W W', s.R v W → E W W' → s.R v W')
    (h : lexU P .any l.toArray E w.drew sp (wpList P l.toArray (onlyN Q) ((pick l tl).map (·.2))) (pick l hd) a (fun _ _ => True)) : (Code.region id l.toArray true).wp P Q a w := by
  simp only [ordB, Bool.and_eq_true, decide_eq_true_eq] at hB
  obtain ⟨⟨⟨⟨⟨hsel, hall⟩, hdis⟩, hlen⟩, hsink⟩, hord⟩ := hB
  have hcl0 : Closed .any l.toArray (Array.replicate l.toArray.size false) := fun k o _ hk => by
    exfalso
    rcases Nat.lt_or_ge k l.length with h | h
    · simp [h] at hk
    · simp [h] at hk
  refine wp_region_any hm (any_monoQ onlyN_le _ _ _ _ ?_)
  have sub : ∀ (ks : List Nat) (listed : Array Bool) (K : Array Bool → Bool), ordFrom .any l.toArray ks listed K = true → ∀ k ∈ ks, k < l.toArray.size := by
    intro ks
    induction ks with
    | nil => intro _ _ _ k hk; cases hk
    | cons x ks ih =>
      intro listed K hB k hk
      simp only [ordFrom, Bool.and_eq_true] at hB
      rcases List.mem_cons.1 hk with rfl | hk
      · have hr : k ∈ Region.ready .any l.toArray listed := by simpa using hB.1.1
        obtain ⟨_, o, ho, _⟩ := mem_ready.1 hr
        exact (Array.getElem?_eq_some_iff.1 ho).1
      · exact ih _ _ hB.2 k hk
  simp only [ordFrom] at hord
  have hsub := sub _ _ _ hord
  have hnt : ∀ t ∈ tl, ¬ ([] ++ hd).contains t = true := fun t ht => by
    have := List.all_eq_true.1 hdis t ht
    simp only [Bool.and_eq_true] at this
    simpa using this.1
  have HX := anyU_lex (md := .any) (ops := l.toArray) (P := P) (w0 := w.drew) (l := l) rfl (H := fun i => ([] ++ hd).contains i) (G := fun i => hd.contains i) (K := seqO .any l.toArray tl) (R := wpList P l.toArray (onlyN Q) ((pick l tl).map (·.2)))
    (fun listed' hcl' ⟨h', hG, hun⟩ t ht => by
      obtain ⟨_, ot, hot, _⟩ := mem_ready.1 ht
      have h1 := List.all_eq_true.1 hall t (List.mem_range.2 (Array.getElem?_eq_some_iff.1 hot).1)
      simp only [Bool.or_eq_true] at h1
      rcases h1 with h1 | h1
      · exact h1
      · have h2 := sinkAll_spec hcl' ht tl hd hsink (by simpa using h1) h' (by simpa using hG)
        rw [getD_both hun] at h2
        cases h2)
    (fun listed' hK' j hj => by
      cases tl with
      | nil => simp only [seqO, List.isEmpty_iff] at hK'; rw [hK'] at hj; cases hj
      | cons t tl =>
        simp only [seqO, Bool.and_eq_true, decide_eq_true_eq] at hK'
        rw [hK'.1] at hj
        have : j = t := by simpa using hj
        subst this
        simpa using hnt j List.mem_cons_self) h0 hE hR hsel hd _ a (fun _ _ => True) (fun h hh => ⟨by simpa using hh, hsub h hh⟩) hcl0 (fun _ _ _ _ _ => trivial) ⟨w.drew, h0 _, fun _ => trivial⟩ hord h
  have := any_ofU (Q := onlyN Q) (g := tl.length) (fun listed' a' F W hL hW => any_seqO rfl tl listed' a' W (fun t ht => by
    have := List.all_eq_true.1 hdis t ht
    simp only [Bool.and_eq_true, decide_eq_true_eq] at this
    exact this.2) hL.1 (hL.2 W hW)) h0 hE hR hd.length _ a (fun _ _ => True) w.drew (fun _ _ _ _ _ => trivial) ⟨h0 _, fun _ => trivial⟩ HX
  rw [show hd.length + tl.length = l.toArray.size by simp at hlen ⊢; omega] at this
  exact this
/-- .. in which nothing old is written but by its tail. -/
theorem wp_region_u {id : Nat} {a : Act} {w : World} {l : List Oper} (hd tl : List Nat) (L : List (Nat × Loose)) (hm : P.follows .mixedOrders = true) (hB : ordB .any l.toArray [] hd tl = true) (hL : ∀ p ∈ L, p.2.St Base.Ext)
    (h : lexU P .any l.toArray Base.Ext w.drew (spOf L) (wpList P l.toArray (onlyN Q) ((pick l tl).map (·.2))) (pick l hd) a (fun _ _ => True)) : (Code.region id l.toArray true).wp P Q a w :=
  wp_region_uE hd tl Base.Ext (spOf L) hm hB Base.Ext.refl (fun _ _ _ => Base.Ext.trans) (fun _ _ hs v W W' hr he => by obtain ⟨p, hp, rfl⟩ := spOf_mem hs; exact hL p hp v W W' hr he) h
variable {R : Act → World → Prop} {F : Nat → World → Prop} {a : Act} {o : Oper} {rest : List (Nat × Oper)} {k : Nat}
theorem upd_le {F F' : Nat → World → Prop} {j : Nat} {r r' : World → Prop} (h : ∀ n W, F' n W → F n W) (hr : ∀ W, r' W → r W) : ∀ n W, upd F' j r' n W → upd F j r n W := fun n W hu => ⟨h n W hu.1, fun e => hr W (hu.2 e)⟩
/-- Whoever knows more goes the same way. -/
theorem lexU_mono : ∀ (l : List (Nat × Oper)) (a : Act) (F F' : Nat → World → Prop), (∀ n W, F' n W → F n W) → lexU P md ops E w0 sp R l a F → lexU P md ops E w0 sp R l a F'
  | [], a, F, F', hle, h => fun W hW => h W ⟨hW.1, fun n => hle n W (hW.2 n)⟩
  | (k, o) :: rest, a, F, F', hle, h => by
    unfold lexU stepU at h ⊢
    by_cases hw : Region.wanted o (yielded ops a.tmps) = true
    · simp only [hw, if_true] at h ⊢
      have hcl : ∀ W, Cls md ops E w0 k F' W → Cls md ops E w0 k F W := fun W hc => ⟨hc.1, fun j hj => hle j W (hc.2 j hj)⟩
      have hT : ∀ v, (specU P md ops E w0 sp k F' (execOp a.eval o)).T v → (specU P md ops E w0 sp k F (execOp a.eval o)).T v := by
        unfold specU
        cases sp k with
        | some s => exact fun _ h => h
        | none => exact fun _ h => h
      have hRle : ∀ v W, (specU P md ops E w0 sp k F' (execOp a.eval o)).R v W → (specU P md ops E w0 sp k F (execOp a.eval o)).R v W := by
        unfold specU
        cases sp k with
        | some s => exact fun _ _ h => h
        | none => exact fun v W ⟨W0, W1, h1, h2, h3⟩ => ⟨W0, W1, hcl W0 h1, h2, h3⟩
      exact ⟨fun W hc => h.1 W (hcl W hc), fun v hv ⟨W, hx⟩ => lexU_mono rest _ _ _ (upd_le hle (hRle v)) (h.2 v (hT v hv) ⟨W, hx.1, fun n => upd_le hle (hRle v) n W (hx.2 n)⟩)⟩
    · rw [if_neg hw] at h ⊢
      exact lexU_mono rest _ _ _ hle h
theorem lexU_nil (h : ∀ W, All E w0 F W → R a W) : lexU P md ops E w0 sp R [] a F := h
theorem lexU_skip (hw : Region.wanted o (yielded ops a.tmps) = false) (h : lexU P md ops E w0 sp R rest (a.put o.dst undef) F) : lexU P md ops E w0 sp R ((k, o) :: rest) a F := by
  unfold lexU stepU
  rw [if_neg (by rw [hw]; exact Bool.false_ne_true)]
  exact h
/-- A value of which something is told now. -/
theorem lexU_such (hw : Region.wanted o (yielded ops a.tmps) = true) (hs : sp k = none) (s : Loose) (hst : ∀ v W W', s.R v W → E W W' → s.R v W')
    (hv : ∀ W, Cls md ops E w0 k F W → match (execOp a.eval o).run P W with | .ok (.value v) W' => s.T v ∧ E W W' ∧ s.R v W' | .ok .skip W' => s.T undef ∧ E W W' ∧ s.R undef W' | _ => False)
    (h : ∀ v, s.T v → lexU P md ops E w0 sp R rest (a.put o.dst v) (upd F k (s.R v))) : lexU P md ops E w0 sp R ((k, o) :: rest) a F := by
  unfold lexU stepU
  rw [if_pos hw]
  have hfact : ∀ v W, factU P md ops E w0 k F (execOp a.eval o) v W → s.T v ∧ s.R v W := fun v W ⟨W0, W1, h1, h2, h3⟩ => by
    have := hv W0 h1
    rcases h2 with h2 | ⟨h2, rfl⟩
    · rw [h2] at this
      exact ⟨this.1, hst _ _ _ this.2.2 h3⟩
    · rw [h2] at this
      exact ⟨this.1, hst _ _ _ this.2.2 h3⟩
  refine ⟨fun W hc => ?_, fun v _ hx => ?_⟩
  · unfold progU
    simp only [hs]
    have := hv W hc
    generalize (execOp a.eval o).run P W = r at this ⊢
    cases r with
    | ok n W' => cases n <;> simp only at this ⊢ <;> first | exact this.2.1 | exact this
    | halt x W' => exact this
  · have e : specU P md ops E w0 sp k F (execOp a.eval o) = ⟨fun _ => True, factU P md ops E w0 k F (execOp a.eval o)⟩ := by unfold specU; simp only [hs]
    rw [e] at hx ⊢
    obtain ⟨W, hx⟩ := hx
    exact lexU_mono rest _ _ _ (upd_le (fun _ _ h => h) fun W h => (hfact v W h).2) (h v (hfact v W ((hx.2 k).2 rfl)).1)
theorem lexU_still (hw : Region.wanted o (yielded ops a.tmps) = true) (hs : sp k = none) (h0 : ∀ a, E a a) (h : ∃ v, (∀ W, Cls md ops E w0 k F W → (execOp a.eval o).run P W = .ok (.value v) W) ∧ lexU P md ops E w0 sp R rest (a.put o.dst v) F) : lexU P md ops E w0 sp R ((k, o) :: rest) a F := by
  obtain ⟨v, hv, hk⟩ := h
  refine lexU_such hw hs ⟨fun u => u = v, fun _ _ => True⟩ (fun _ _ _ _ _ => trivial) (fun W hc => ?_) fun u hu => ?_
  · rw [hv W hc]
    exact ⟨rfl, h0 _, trivial⟩
  · have hu : u = v := hu
    subst hu
    exact lexU_mono rest _ _ _ (fun n W h => h.1) hk
theorem lexU_loose (hw : Region.wanted o (yielded ops a.tmps) = true) {s : Loose} (hs : sp k = some s) (hv : ∀ W, Cls md ops E w0 k F W → looseAt P E W s ((execOp a.eval o).run P W))
    (h : ∀ v, s.T v → lexU P md ops E w0 sp R rest (a.put o.dst v) (upd F k (s.R v))) : lexU P md ops E w0 sp R ((k, o) :: rest) a F := by
  unfold lexU stepU
  rw [if_pos hw]
  have e : specU P md ops E w0 sp k F (execOp a.eval o) = s := by unfold specU; simp only [hs]
  rw [e]
  refine ⟨fun W hc => ?_, fun v hT _ => h v hT⟩
  unfold progU
  simp only [hs]
  exact hv W hc
end
end Go.Proofs.Ytipmkddcdnbihaa.Lex
