/- A region that draws its order and holds a chain of calls that write, each of them behind the one ahead (w.Num(..).Num(..)): the rest only reads, and the chain goes through its stages, in whatever order. No program in sight. -/
import Derived.Test.YtipmkddcdnbihaaLexU
namespace Go.Proofs.Ytipmkddcdnbihaa.Lex
/-- What is told ahead: calls that are contracts (s); what the rest leaves (E0); the chain's operations, what each answers, and its stages. -/
structure SpC where
  s : Nat → Option Loose
  E0 : World → World → Prop
  ch : List Nat
  cv : Nat → Value
  Inv : Nat → World → Prop
structure OkC (E : World → World → Prop) (sp : SpC) : Prop where
  h0 : ∀ a, E a a
  hE : ∀ a b c, E a b → E b c → E a c
  hR : ∀ j s, sp.s j = some s → ∀ v W W', s.R v W → E W W' → s.R v W'
  h01 : ∀ a b, sp.E0 a b → E a b
  hI : ∀ k a b, sp.E0 a b → sp.Inv k a → sp.Inv k b
def posC : List Nat → Nat → Option Nat
  | [], _ => none
  | c :: cs, j => if c = j then some 0 else (posC cs j).map (· + 1)
theorem posC_some' : ∀ (ch : List Nat) (j i : Nat), posC ch j = some i → ch[i]? = some j
  | [], j, i, h => by cases h
  | c :: cs, j, i, h => by
    unfold posC at h
    split at h
    · cases h; rename_i e; subst e; rfl
    · obtain ⟨k, hk, rfl⟩ := Option.map_eq_some_iff.1 h
      exact posC_some' cs j k hk
theorem posC_some {ch : List Nat} {j i : Nat} (h : posC ch j = some i) : ch[i]? = some j := posC_some' ch j i h
theorem posC_none' : ∀ (ch : List Nat) (j : Nat), posC ch j = none → ∀ (m c : Nat), ch[m]? = some c → c ≠ j
  | [], j, _, m, c, h => by simp at h
  | d :: cs, j, h, m, c, hc => by
    unfold posC at h
    split at h
    · cases h
    · rename_i e
      cases m with
      | zero => simp at hc; subst hc; exact e
      | succ m => exact posC_none' cs j (Option.map_eq_none_iff.1 h) m c hc
theorem posC_none {ch : List Nat} {j : Nat} (h : posC ch j = none) : ∀ (m c : Nat), ch[m]? = some c → c ≠ j := posC_none' ch j h
def linkC (md : Region.Mode) (ops : Array Oper) (ch : List Nat) : Bool := decide ch.Nodup && (List.range ch.length).all fun m => match ch[m]?, ch[m + 1]? with
  | some c, some c' => (match ops[c']? with | some o => o.after.any fun e => Region.binds md e && decide (e.on = c) | none => false)
  | _, _ => true
/-- The chain's first k operations have been taken. -/
def exC (ch : List Nat) (listed : Array Bool) (k : Nat) : Prop := ∀ m c, ch[m]? = some c → listed.getD c false = decide (m < k)
def StC (sp : SpC) (listed : Array Bool) (W : World) : Prop := ∀ k, k ≤ sp.ch.length → exC sp.ch listed k → sp.Inv k W
section
variable {md : Region.Mode} {ops : Array Oper}
theorem linkC_spec {ch : List Nat} (h : linkC md ops ch = true) {m c c' : Nat} (hc : ch[m]? = some c) (hc' : ch[m + 1]? = some c') : ∃ o, ops[c']? = some o ∧ ∃ e ∈ o.after, Region.binds md e = true ∧ e.on = c := by
  simp only [linkC, Bool.and_eq_true] at h
  have h1 := List.all_eq_true.1 h.2 m (List.mem_range.2 (List.getElem?_eq_some_iff.1 hc).1)
  simp only [hc, hc'] at h1
  cases ho : ops[c']? with
  | none => simp only [ho] at h1; cases h1
  | some o =>
    simp only [ho, Array.any_eq_true, Bool.and_eq_true, decide_eq_true_eq] at h1
    obtain ⟨i, hi, h2, h3⟩ := h1
    exact ⟨o, rfl, _, Array.getElem_mem hi, h2, h3⟩
theorem linkC_down {ch : List Nat} (h : linkC md ops ch = true) {listed : Array Bool} (hcl : Closed md ops listed) : ∀ (d m c c' : Nat), ch[m]? = some c → ch[m + d]? = some c' → listed.getD c' false = true → listed.getD c false = true
  | 0, m, c, c', hc, hc', hl => by rw [Nat.add_zero, hc] at hc'; cases hc'; exact hl
  | d + 1, m, c, c', hc, hc', hl => by
    obtain ⟨c1, h1⟩ : ∃ c1, ch[m + d]? = some c1 := ⟨_, List.getElem?_eq_getElem (by have := (List.getElem?_eq_some_iff.1 hc').1; omega)⟩
    obtain ⟨o, ho, e, he, hb, hon⟩ := linkC_spec h h1 hc'
    exact linkC_down h hcl d m c c1 hc h1 (hon ▸ hcl c' o ho hl e he hb)
/-- Where one of the chain comes up, those ahead of it have been taken, and none behind. -/
theorem chain_ex {ch : List Nat} (h : linkC md ops ch = true) {listed : Array Bool} (hcl : Closed md ops listed) {i j : Nat} (hi : ch[i]? = some j) (hj : j ∈ Region.ready md ops listed) : exC ch listed i := by
  obtain ⟨hun, oj, hoj, hall⟩ := mem_ready.1 hj
  have hunF : listed.getD j false = false := getD_both hun
  intro m c hc
  by_cases hm : m < i
  · simp only [hm, decide_true]
    obtain ⟨c1, h1⟩ : ∃ c1, ch[m + (i - 1 - m)]? = some c1 := ⟨_, List.getElem?_eq_getElem (by have := (List.getElem?_eq_some_iff.1 hi).1; omega)⟩
    obtain ⟨o, ho, e, he, hb, hon⟩ := linkC_spec h h1 (c' := j) (by rw [show m + (i - 1 - m) + 1 = i by omega]; exact hi)
    rw [hoj] at ho
    cases ho
    exact linkC_down h hcl _ m c c1 hc h1 (hon ▸ hall e he hb)
  · simp only [hm, decide_false]
    cases hl : listed.getD c false with
    | false => rfl
    | true =>
      have := linkC_down h hcl (m - i) i j c hi (by rw [show i + (m - i) = m by omega]; exact hc) hl
      rw [hunF] at this
      cases this
theorem ex_set_other {ch : List Nat} {listed : Array Bool} {j k : Nat} (hn : posC ch j = none) (h : exC ch (listed.setIfInBounds j true) k) : exC ch listed k := fun m c hc => by
  have := h m c hc
  rwa [getD_set_ne false (Ne.symm (posC_none hn m c hc))] at this
theorem ex_set_own {ch : List Nat} (hl : linkC md ops ch = true) {listed : Array Bool} {i j k : Nat} (hi : ch[i]? = some j) (hk : k ≤ ch.length) (hlt : j < listed.size) (hx : exC ch listed i) (h : exC ch (listed.setIfInBounds j true) k) : k = i + 1 := by
  have h1 := h i j hi
  have hil := (List.getElem?_eq_some_iff.1 hi).1
  have hj : (listed.setIfInBounds j true).getD j false = true := by simp [hlt]
  rw [hj] at h1
  have hik : i < k := of_decide_eq_true h1.symm
  by_cases he : k = i + 1
  · exact he
  exfalso
  obtain ⟨c, hc⟩ : ∃ c, ch[i + 1]? = some c := ⟨_, List.getElem?_eq_getElem (by omega)⟩
  have h2 := h (i + 1) c hc
  have hne : j ≠ c := fun e => by
    subst e
    simp only [linkC, Bool.and_eq_true, decide_eq_true_eq] at hl
    have h3 := (List.getElem?_eq_some_iff.1 hi).2
    have h4 := (List.getElem?_eq_some_iff.1 hc).2
    exact (List.pairwise_iff_getElem.1 hl.1 i (i + 1) hil (List.getElem?_eq_some_iff.1 hc).1 (Nat.lt_succ_self i)) (h3.trans h4.symm)
  rw [getD_set_ne false hne, hx (i + 1) c hc] at h2
  simp only [show ¬ i + 1 < i by omega, decide_false] at h2
  have := of_decide_eq_false h2.symm
  omega
end

section
variable {P : Program} {ops : Array Oper} {md : Region.Mode} {E : World → World → Prop} {w0 : World} {sp : SpC} {Q : Exit → Act → World → Prop}

/-- What is known behind an operation that calls nothing: it has run, in a world in which it could come up. -/
def factC (P : Program) (md : Region.Mode) (ops : Array Oper) (E : World → World → Prop) (w0 : World) (j : Nat) (F : Nat → World → Prop) (m : Sem Next) (v : Value) (W : World) : Prop :=
  ∃ W0 W1, Cls md ops E w0 j F W0 ∧ (m.run P W0 = .ok (.value v) W1 ∨ (m.run P W0 = .ok .skip W1 ∧ v = undef)) ∧ E W1 W
def chainAt (P : Program) (E : World → World → Prop) (I : World → Prop) (u : Value) (W : World) : Result Next → Prop
  | .ok (.value v) W' => v = u ∧ E W W' ∧ I W'
  | .ok .skip W' => u = undef ∧ E W W' ∧ I W'
  | .ok (.enter f args) W' => Calls P f args W' fun e W'' => e = .returned u ∧ E W W'' ∧ I W''
  | _ => False
def specC (P : Program) (md : Region.Mode) (ops : Array Oper) (E : World → World → Prop) (w0 : World) (sp : SpC) (j : Nat) (F : Nat → World → Prop) (m : Sem Next) : Loose :=
  match posC sp.ch j with
  | some _ => ⟨fun v => v = sp.cv j, fun _ _ => True⟩
  | none => match sp.s j with
    | some s => s
    | none => ⟨fun _ => True, factC P md ops E w0 j F m⟩
def progC (P : Program) (E : World → World → Prop) (sp : SpC) (j : Nat) (m : Sem Next) (W : World) : Prop :=
  match posC sp.ch j with
  | some i => sp.Inv i W → chainAt P E (sp.Inv (i + 1)) (sp.cv j) W (m.run P W)
  | none => match sp.s j with
    | some s => looseAt P sp.E0 W s (m.run P W)
    | none => match m.run P W with
      | .ok (.value _) W' => sp.E0 W W'
      | .ok .skip W' => sp.E0 W W'
      | _ => False
theorem specC_upd {j i : Nat} {F : Nat → World → Prop} {r : World → Prop} {m : Sem Next} (h : dep md ops j i = false) : specC P md ops E w0 sp j (upd F i r) m = specC P md ops E w0 sp j F m := by
  have hc : Cls md ops E w0 j (upd F i r) = Cls md ops E w0 j F := funext fun W => propext (cls_upd h W)
  unfold specC factC
  rw [hc]
theorem specC_st (ok : OkC E sp) (j : Nat) (F : Nat → World → Prop) (m : Sem Next) : ∀ v W W', (specC P md ops E w0 sp j F m).R v W → E W W' → (specC P md ops E w0 sp j F m).R v W' := by
  unfold specC
  cases posC sp.ch j with
  | some i => exact fun _ _ _ _ _ => trivial
  | none =>
    cases hs : sp.s j with
    | some s => exact ok.hR j s hs
    | none => exact fun v W W' ⟨W0, W1, h1, h2, h3⟩ he => ⟨W0, W1, h1, h2, ok.hE _ _ _ h3 he⟩
theorem progC_loose (ok : OkC E sp) {j : Nat} {F : Nat → World → Prop} {m : Sem Next} {W : World} (hp : posC sp.ch j = none) (hc : Cls md ops E w0 j F W) (h : progC P E sp j m W) : looseAt P sp.E0 W (specC P md ops E w0 sp j F m) (m.run P W) := by
  unfold progC at h
  unfold specC
  simp only [hp] at h ⊢
  cases hs : sp.s j with
  | some s => simpa only [hs] using h
  | none =>
    simp only [hs] at h ⊢
    generalize hr : m.run P W = r at h
    cases r with
    | ok n W' =>
      cases n <;> simp only at h
      case value v => exact ⟨trivial, h, W, W', hc, .inl hr, ok.h0 _⟩
      case skip => exact ⟨trivial, h, W, W', hc, .inr ⟨hr, rfl⟩, ok.h0 _⟩
    | halt x W' => exact h.elim
def stepC (P : Program) (md : Region.Mode) (ops : Array Oper) (E : World → World → Prop) (w0 : World) (sp : SpC) (j : Nat) (o : Oper) (K : Act → (Nat → World → Prop) → Prop) (a : Act) (F : Nat → World → Prop) : Prop :=
  if Region.wanted o (yielded ops a.tmps) = true then
    (∀ W, Cls md ops E w0 j F W → progC P E sp j (execOp a.eval o) W) ∧ ∀ v, (specC P md ops E w0 sp j F (execOp a.eval o)).T v → (∃ W, All E w0 (upd F j ((specC P md ops E w0 sp j F (execOp a.eval o)).R v)) W) → K (a.put o.dst v) (upd F j ((specC P md ops E w0 sp j F (execOp a.eval o)).R v))
  else posC sp.ch j = none ∧ K (a.put o.dst undef) F
def opC (P : Program) (md : Region.Mode) (ops : Array Oper) (E : World → World → Prop) (w0 : World) (sp : SpC) (j : Nat) (K : Act → (Nat → World → Prop) → Prop) (a : Act) (F : Nat → World → Prop) : Prop :=
  match ops[j]? with
  | none => K a F
  | some o => stepC P md ops E w0 sp j o K a F
def anyC (P : Program) (md : Region.Mode) (ops : Array Oper) (E : World → World → Prop) (w0 : World) (sp : SpC) (H : Nat → Bool) (L : Array Bool → Act → (Nat → World → Prop) → Prop) : Nat → Array Bool → Act → (Nat → World → Prop) → Prop
  | 0, listed, a, F => L listed a F
  | fuel + 1, listed, a, F => Region.ready md ops listed ≠ [] ∧ ∀ j ∈ Region.ready md ops listed, H j = true ∧ opC P md ops E w0 sp j (anyC P md ops E w0 sp H L fuel (listed.setIfInBounds j true)) a F
theorem any_ofC {H : Nat → Bool} {g : Nat} {L : Array Bool → Act → (Nat → World → Prop) → Prop} (hL : ∀ listed a F W, L listed a F → All E w0 F W → StC sp listed W → wpAny P md ops Q g listed a W) (ok : OkC E sp) (hl : linkC md ops sp.ch = true) :
    ∀ (fuel : Nat) (listed : Array Bool) (a : Act) (F : Nat → World → Prop) (W : World), Closed md ops listed → listed.size = ops.size → StC sp listed W → StF E F → All E w0 F W → anyC P md ops E w0 sp H L fuel listed a F → wpAny P md ops Q (fuel + g) listed a W
  | 0, _, _, _, W, _, _, hS, _, hW, h => by rw [Nat.zero_add]; exact hL _ _ _ _ h hW hS
  | fuel + 1, listed, a, F, W, hcl, hsz, hS, hF, hW, h => by
    rw [show fuel + 1 + g = (fuel + g) + 1 by omega]
    refine ⟨fun h0 => absurd h0 h.1, fun j hj => ?_⟩
    have hcl2 := hcl.set hj
    have hsz2 : (listed.setIfInBounds j true).size = ops.size := by simpa using hsz
    have h1 := (h.2 j hj).2
    obtain ⟨_, o, ho, _⟩ := mem_ready.1 hj
    have hjl : j < listed.size := by rw [hsz]; exact (Array.getElem?_eq_some_iff.1 ho).1
    unfold opC at h1
    unfold wpOp
    simp only [ho] at h1 ⊢
    unfold stepC at h1
    by_cases hw : Region.wanted o (yielded ops a.tmps) = true
    · simp only [hw, if_true] at h1 ⊢
      refine .inl ?_
      unfold Oper.wp
      obtain ⟨hv, hk⟩ := h1
      cases hp : posC sp.ch j with
      | none =>
        have hS2 : ∀ W', sp.E0 W W' → StC sp (listed.setIfInBounds j true) W' := fun W' he k hkl hx => ok.hI k _ _ he (hS k hkl (ex_set_other hp hx))
        have h2 := progC_loose (md := md) (ops := ops) ok hp hW.cls (hv W hW.cls)
        have hFs : ∀ v, StF E (upd F j ((specC P md ops E w0 sp j F (execOp a.eval o)).R v)) := fun v => hF.upd (specC_st ok j F _ v)
        generalize specC P md ops E w0 sp j F (execOp a.eval o) = s at h2 hk hFs
        generalize (execOp a.eval o).run P W = r at h2 ⊢
        cases r with
        | ok n W' =>
          cases n <;> simp only [looseAt] at h2 <;> simp only [Oper.upon]
          case value v =>
            obtain ⟨hT, he, hr⟩ := h2
            have hA := (hW.step ok.hE hF (ok.h01 _ _ he)).upd (j := j) (r := s.R v) hr
            exact any_ofC hL ok hl fuel _ _ _ _ hcl2 hsz2 (hS2 _ he) (hFs v) hA (hk v hT ⟨_, hA⟩)
          case skip =>
            obtain ⟨hT, he, hr⟩ := h2
            have hA := (hW.step ok.hE hF (ok.h01 _ _ he)).upd (j := j) (r := s.R undef) hr
            exact any_ofC hL ok hl fuel _ _ _ _ hcl2 hsz2 (hS2 _ he) (hFs undef) hA (hk undef hT ⟨_, hA⟩)
          case enter f args =>
            refine h2.mono fun e W'' ⟨v, hev, hT, he, hr⟩ => ?_
            subst hev
            have hA := (hW.step ok.hE hF (ok.h01 _ _ he)).upd (j := j) (r := s.R v) hr
            exact any_ofC hL ok hl fuel _ _ _ _ hcl2 hsz2 (hS2 _ he) (hFs v) hA (hk v hT ⟨_, hA⟩)
        | halt x W' => simp only [looseAt] at h2
      | some i =>
        have hi := posC_some hp
        have hx0 := chain_ex hl hcl hi hj
        have hil : i ≤ sp.ch.length := Nat.le_of_lt (List.getElem?_eq_some_iff.1 hi).1
        have h2 := hv W hW.cls
        unfold progC at h2
        simp only [hp] at h2
        replace h2 := h2 (hS i hil hx0)
        have hS2 : ∀ W', sp.Inv (i + 1) W' → StC sp (listed.setIfInBounds j true) W' := fun W' hI k hkl hx => by
          rw [ex_set_own hl hi hkl hjl hx0 hx]
          exact hI
        have hsp : specC P md ops E w0 sp j F (execOp a.eval o) = ⟨fun v => v = sp.cv j, fun _ _ => True⟩ := by unfold specC; simp only [hp]
        rw [hsp] at hk
        have hFs : StF E (upd F j fun _ => True) := hF.upd fun _ _ _ _ => trivial
        generalize (execOp a.eval o).run P W = r at h2 ⊢
        cases r with
        | ok n W' =>
          cases n <;> simp only [chainAt] at h2 <;> simp only [Oper.upon]
          case value v =>
            obtain ⟨rfl, he, hI⟩ := h2
            have hA := (hW.step ok.hE hF he).upd (j := j) (r := fun _ => True) trivial
            exact any_ofC hL ok hl fuel _ _ _ _ hcl2 hsz2 (hS2 _ hI) hFs hA (hk _ rfl ⟨_, hA⟩)
          case skip =>
            obtain ⟨hu, he, hI⟩ := h2
            have hA := (hW.step ok.hE hF he).upd (j := j) (r := fun _ => True) trivial
            exact any_ofC hL ok hl fuel _ _ _ _ hcl2 hsz2 (hS2 _ hI) hFs hA (hk _ hu.symm ⟨_, hA⟩)
          case enter f args =>
            refine h2.mono fun e W'' ⟨hev, he, hI⟩ => ?_
            subst hev
            have hA := (hW.step ok.hE hF he).upd (j := j) (r := fun _ => True) trivial
            exact any_ofC hL ok hl fuel _ _ _ _ hcl2 hsz2 (hS2 _ hI) hFs hA (hk _ rfl ⟨_, hA⟩)
        | halt x W' => simp only [chainAt] at h2
    · simp only [hw] at h1 ⊢
      have h1 : posC sp.ch j = none ∧ anyC P md ops E w0 sp H L fuel (listed.setIfInBounds j true) (a.put o.dst undef) F := h1
      exact any_ofC hL ok hl fuel _ _ _ _ hcl2 hsz2 (fun k hkl hx => hS k hkl (ex_set_other h1.1 hx)) hF hW h1.2

/-- An operation has a value at the least. -/
theorem stepC_some (ok : OkC E sp) {i : Nat} {oi : Oper} {a : Act} {F : Nat → World → Prop} {K : Act → (Nat → World → Prop) → Prop} (hF : StF E F) (hex : ∃ W, All E w0 F W) (h : stepC P md ops E w0 sp i oi K a F) :
    ∃ v G, (G = F ∨ ∃ r, G = upd F i r) ∧ K (a.put oi.dst v) G := by
  unfold stepC at h
  by_cases hw : Region.wanted oi (yielded ops a.tmps) = true
  · simp only [hw, if_true] at h
    obtain ⟨hv, hk⟩ := h
    obtain ⟨W, hW⟩ := hex
    cases hp : posC sp.ch i with
    | some m =>
      have hsp : specC P md ops E w0 sp i F (execOp a.eval oi) = ⟨fun v => v = sp.cv i, fun _ _ => True⟩ := by unfold specC; simp only [hp]
      rw [hsp] at hk
      exact ⟨_, _, .inr ⟨_, rfl⟩, hk _ rfl ⟨W, hW.upd trivial⟩⟩
    | none =>
      have h3 := progC_loose (md := md) (ops := ops) ok hp hW.cls (hv W hW.cls)
      generalize specC P md ops E w0 sp i F (execOp a.eval oi) = s at h3 hk
      generalize (execOp a.eval oi).run P W = r at h3
      cases r with
      | ok n W' =>
        cases n <;> simp only [looseAt] at h3
        case value v => exact ⟨_, _, .inr ⟨_, rfl⟩, hk v h3.1 ⟨_, (hW.step ok.hE hF (ok.h01 _ _ h3.2.1)).upd h3.2.2⟩⟩
        case skip => exact ⟨_, _, .inr ⟨_, rfl⟩, hk undef h3.1 ⟨_, (hW.step ok.hE hF (ok.h01 _ _ h3.2.1)).upd h3.2.2⟩⟩
        case enter f args =>
          obtain ⟨e, W'', v, _, hT, he, hr⟩ := calls_some h3
          exact ⟨_, _, .inr ⟨_, rfl⟩, hk v hT ⟨_, (hW.step ok.hE hF (ok.h01 _ _ he)).upd hr⟩⟩
      | halt x W' => simp only [looseAt] at h3
  · simp only [hw] at h
    exact ⟨_, _, .inl rfl, h.2⟩

/-- An operation that may be taken first. -/
theorem anyC_first {H G : Nat → Bool} {L : Array Bool → Act → (Nat → World → Prop) → Prop} (hwait : ∀ listed, Closed md ops listed → (∃ h, G h = true ∧ listed.getD h true = false) → ∀ t ∈ Region.ready md ops listed, H t = true) (hdone : ∀ listed a F, L listed a F → ∀ j ∈ Region.ready md ops listed, H j = false) (ok : OkC E sp) {i : Nat} {oi : Oper} (hin : G i = true) (hi : ops[i]? = some oi) (hsel : ∀ (j : Nat) (o : Oper) cs b, ops[j]? = some o → o.op ≠ .select cs b) :
    ∀ (fuel : Nat) (listed : Array Bool) (a : Act) (F : Nat → World → Prop), Closed md ops listed → StF E F → (∃ W, All E w0 F W) →
      (∀ j oj, ops[j]? = some oj → j ≠ i → listed.getD j true = false → (∀ e ∈ oj.after, Region.binds md e = true → e.on ≠ i) → oi.apart ops oj = true) →
      i ∈ Region.ready md ops listed →
      stepC P md ops E w0 sp i oi (anyC P md ops E w0 sp H L fuel (listed.setIfInBounds i true)) a F → anyC P md ops E w0 sp H L (fuel + 1) listed a F := by
  intro fuel
  induction fuel with
  | zero =>
    intro listed a F hcl hF hex hfree hr HH
    refine ⟨fun h => (by rw [h] at hr; cases hr), fun j hj => ?_⟩
    have hjn : H j = true := hwait listed hcl ⟨i, hin, (mem_ready.1 hr).1⟩ j hj
    refine ⟨hjn, ?_⟩
    by_cases hji : j = i
    · subst hji
      unfold opC
      simp only [hi]
      exact HH
    · exfalso
      have h1 := ready_mono hj hji
      obtain ⟨_, _, _, h2⟩ := stepC_some ok hF hex HH
      have := hdone _ _ _ h2 j h1
      rw [hjn] at this
      cases this
  | succ fuel ih =>
    intro listed a F hcl hF hex hfree hr HH
    refine ⟨fun h => (by rw [h] at hr; cases hr), fun j hj => ?_⟩
    have hjn : H j = true := hwait listed hcl ⟨i, hin, (mem_ready.1 hr).1⟩ j hj
    refine ⟨hjn, ?_⟩
    by_cases hji : j = i
    · subst hji
      unfold opC
      simp only [hi]
      exact HH
    · obtain ⟨hjun, oj, hoj, hall⟩ := mem_ready.1 hj
      have hiun := (mem_ready.1 hr).1
      have hnot : ∀ e ∈ oj.after, Region.binds md e = true → e.on ≠ i := fun e he hb heq => by
        have h1 := hall e he hb
        rw [heq] at h1
        rcases Nat.lt_or_ge i listed.size with h' | h'
        · simp [h'] at hiun h1; rw [hiun] at h1; cases h1
        · simp [Array.getElem?_eq_none h'] at h1
      have hap := hfree j oj hoj hji hjun hnot
      obtain ⟨p1, p2, p3⟩ := Oper.apart_spec hap
      have hsi : ∀ cs b, oi.op ≠ .select cs b := fun cs b => hsel i oi cs b hi
      have hsj : ∀ cs b, oj.op ≠ .select cs b := fun cs b => hsel j oj cs b hoj
      have hdep : dep md ops j i = false := not_dep hcl hj hiun
      have hdep2 : dep md ops i j = false := not_dep hcl hr hjun
      have hcl2 := hcl.set hj
      have hfree' : ∀ k ok, ops[k]? = some ok → k ≠ i → (listed.setIfInBounds j true).getD k true = false →
          (∀ e ∈ ok.after, Region.binds md e = true → e.on ≠ i) → oi.apart ops ok = true := fun k ok hk hki hun hno => by
        refine hfree k ok hk hki ?_ hno
        by_cases hjk : j = k
        · subst hjk; exact hjun
        · rw [getD_set_ne true hjk] at hun; exact hun
      have hr2 := ready_mono hr (Ne.symm hji)
      have hjr := ready_mono hj hji
      have hsw : (listed.setIfInBounds j true).setIfInBounds i true = (listed.setIfInBounds i true).setIfInBounds j true := Array.setIfInBounds_comm _ _ hji
      unfold opC
      simp only [hoj]
      -- i's step anew, behind j's value u and facts F'
      have again : ∀ (u : Value) (F' : Nat → World → Prop), (F' = F ∨ ∃ r, F' = upd F j r) →
          (anyC P md ops E w0 sp H L (fuel + 1) (listed.setIfInBounds i true) (a.put oi.dst undef) F → anyC P md ops E w0 sp H L fuel ((listed.setIfInBounds i true).setIfInBounds j true) ((a.put oi.dst undef).put oj.dst u) F') →
          (∀ v r, (∃ W, All E w0 (upd F' i r) W) → (∃ W, All E w0 (upd F i r) W) ∧ (anyC P md ops E w0 sp H L (fuel + 1) (listed.setIfInBounds i true) (a.put oi.dst v) (upd F i r) → anyC P md ops E w0 sp H L fuel ((listed.setIfInBounds i true).setIfInBounds j true) ((a.put oi.dst v).put oj.dst u) (upd F' i r))) →
          stepC P md ops E w0 sp i oi (anyC P md ops E w0 sp H L fuel ((listed.setIfInBounds j true).setIfInBounds i true)) (a.put oj.dst u) F' := by
        intro u F' hF' hq hl
        have hS : specC P md ops E w0 sp i F' (execOp a.eval oi) = specC P md ops E w0 sp i F (execOp a.eval oi) := by
          rcases hF' with rfl | ⟨r, rfl⟩
          · rfl
          · exact specC_upd hdep2
        have hc : ∀ W, Cls md ops E w0 i F' W → Cls md ops E w0 i F W := by
          rcases hF' with rfl | ⟨r, rfl⟩
          · exact fun _ h => h
          · exact fun W h => (cls_upd hdep2 W).1 h
        unfold stepC at HH ⊢
        rw [wanted_put oi a oj.dst u p3, execOp_put oi hsi a oj.dst u p3, hsw, hS]
        by_cases hw : Region.wanted oi (yielded ops a.tmps) = true
        · simp only [hw, if_true] at HH ⊢
          obtain ⟨hv, hk⟩ := HH
          refine ⟨fun W hW => hv W (hc W hW), fun v hT hx => ?_⟩
          rw [← Act.put_comm a v u p2]
          obtain ⟨hx', hl'⟩ := hl v _ hx
          exact hl' (hk v hT hx')
        · rw [if_neg hw] at HH ⊢
          rw [← Act.put_comm a undef u p2]
          exact ⟨HH.1, hq HH.2⟩
      have stepj : ∀ (v : Value) (G : Nat → World → Prop), anyC P md ops E w0 sp H L (fuel + 1) (listed.setIfInBounds i true) (a.put oi.dst v) G →
          stepC P md ops E w0 sp j oj (anyC P md ops E w0 sp H L fuel ((listed.setIfInBounds i true).setIfInBounds j true)) (a.put oi.dst v) G := by
        intro v G h
        have := (h.2 j hjr).2
        unfold opC at this
        simpa only [hoj] using this
      obtain ⟨v0, G0, hG0, hh0⟩ := stepC_some ok hF hex HH
      have h0j := stepj v0 G0 hh0
      have hSj : ∀ r, specC P md ops E w0 sp j (upd F i r) (execOp a.eval oj) = specC P md ops E w0 sp j F (execOp a.eval oj) := fun r => specC_upd hdep
      have clsj : ∀ W, Cls md ops E w0 j F W → Cls md ops E w0 j G0 W := by
        rcases hG0 with rfl | ⟨r, rfl⟩
        · exact fun _ h => h
        · exact fun W h => (cls_upd hdep W).2 h
      unfold stepC at h0j ⊢
      rw [wanted_put oj a oi.dst v0 p1, execOp_put oj hsj a oi.dst v0 p1] at h0j
      by_cases hw : Region.wanted oj (yielded ops a.tmps) = true
      · simp only [hw, if_true] at h0j ⊢
        obtain ⟨hv0, _⟩ := h0j
        refine ⟨fun W h => hv0 W (clsj W h), fun u hT hx => ih (listed.setIfInBounds j true) (a.put oj.dst u) _ hcl2 (hF.upd (specC_st ok j F _ u)) hx hfree' hr2 (again u _ (.inr ⟨_, rfl⟩) ?_ ?_)⟩
        · intro h
          have hj2 := stepj undef F h
          unfold stepC at hj2
          rw [wanted_put oj a oi.dst undef p1, execOp_put oj hsj a oi.dst undef p1] at hj2
          simp only [hw, if_true] at hj2
          exact hj2.2 u hT hx
        · intro v r hx2
          obtain ⟨W2, hW2⟩ := hx2
          refine ⟨⟨W2, hW2.1, fun n => ⟨(hW2.2 n).1.1, (hW2.2 n).2⟩⟩, fun h => ?_⟩
          have hj2 := stepj v _ h
          unfold stepC at hj2
          rw [wanted_put oj a oi.dst v p1, execOp_put oj hsj a oi.dst v p1, hSj] at hj2
          simp only [hw, if_true] at hj2
          have := hj2.2 u hT ⟨W2, by rw [upd_comm]; exact hW2⟩
          rwa [upd_comm] at this
      · rw [if_neg hw] at h0j ⊢
        refine ⟨h0j.1, ?_⟩
        have key : ∀ (v : Value) (G : Nat → World → Prop), anyC P md ops E w0 sp H L (fuel + 1) (listed.setIfInBounds i true) (a.put oi.dst v) G →
            anyC P md ops E w0 sp H L fuel ((listed.setIfInBounds i true).setIfInBounds j true) ((a.put oi.dst v).put oj.dst undef) G := by
          intro v G h
          have hj2 := stepj v G h
          unfold stepC at hj2
          rw [wanted_put oj a oi.dst v p1] at hj2
          rw [if_neg hw] at hj2
          exact hj2.2
        refine ih (listed.setIfInBounds j true) (a.put oj.dst undef) F hcl2 hF hex hfree' hr2 (again undef F (.inl rfl) ?_ ?_)
        · exact fun h => key undef _ h
        · exact fun v r hx => ⟨hx, fun h => key v _ h⟩
def lexC (P : Program) (md : Region.Mode) (ops : Array Oper) (E : World → World → Prop) (w0 : World) (sp : SpC) (R : Act → World → Prop) : List (Nat × Oper) → Act → (Nat → World → Prop) → Prop
  | [], a, F => ∀ W, All E w0 F W → sp.Inv sp.ch.length W → R a W
  | (k, o) :: rest, a, F => stepC P md ops E w0 sp k o (lexC P md ops E w0 sp R rest) a F
theorem anyC_lex {l : List Oper} (hl : l.toArray = ops) {H G : Nat → Bool} {K : Array Bool → Bool} {R : Act → World → Prop} (hwait : ∀ listed, Closed md ops listed → (∃ h, G h = true ∧ listed.getD h true = false) → ∀ t ∈ Region.ready md ops listed, H t = true)
    (hdone : ∀ listed, K listed = true → ∀ j ∈ Region.ready md ops listed, H j = false) (ok : OkC E sp) (hs : Region.noSelect ops = true) :
    ∀ (hd : List Nat) (listed : Array Bool) (a : Act) (F : Nat → World → Prop), (∀ h ∈ hd, G h = true ∧ h < ops.size) → Closed md ops listed → StF E F → (∃ W, All E w0 F W) →
    ordFrom md ops hd listed K = true → lexC P md ops E w0 sp R (pick l hd) a F → anyC P md ops E w0 sp H (fun listed a F => K listed = true ∧ ∀ W, All E w0 F W → sp.Inv sp.ch.length W → R a W) hd.length listed a F
  | [], listed, a, F, _, _, _, _, hB, h => ⟨by simpa [ordFrom] using hB, h⟩
  | k :: hd, listed, a, F, hG, hcl, hF, hex, hB, h => by
    obtain ⟨hGk, hlt⟩ := hG k List.mem_cons_self
    obtain ⟨o, ho⟩ : ∃ o, l[k]? = some o := ⟨_, List.getElem?_eq_getElem (by rw [← hl] at hlt; simpa using hlt)⟩
    have ho' : ops[k]? = some o := by rw [← hl]; simpa using ho
    simp only [ordFrom, Bool.and_eq_true] at hB
    obtain ⟨⟨hr, hf⟩, hB'⟩ := hB
    have hr' : k ∈ Region.ready md ops listed := by simpa using hr
    have hG' : ∀ h ∈ hd, G h = true ∧ h < ops.size := fun h hh => hG h (List.mem_cons_of_mem _ hh)
    simp only [pick, ho] at h
    refine anyC_first (G := G) hwait (fun listed' a' F' hL => hdone listed' hL.1) ok hGk ho' (Region.noSelect_spec hs) hd.length listed a F hcl hF hex (Region.free_spec ho' hf) hr' ?_
    unfold lexC at h
    unfold stepC at h ⊢
    by_cases hw : Region.wanted o (yielded ops a.tmps) = true
    · simp only [hw, if_true] at h ⊢
      exact ⟨h.1, fun v hT hx => anyC_lex hl hwait hdone ok hs hd _ _ _ hG' (hcl.set hr') (hF.upd (specC_st ok k F _ v)) hx hB' (h.2 v hT hx)⟩
    · rw [if_neg hw] at h ⊢
      exact ⟨h.1, anyC_lex hl hwait hdone ok hs hd _ _ F hG' (hcl.set hr') hF hex hB' h.2⟩

def ordC (md : Region.Mode) (ops : Array Oper) (hd tl ch : List Nat) : Bool :=
  Region.noSelect ops && ((List.range ops.size).all fun i => ([] ++ hd).contains i || tl.contains i) && (tl.all fun t => !([] ++ hd).contains t && decide (t < ops.size)) && decide (hd.length + tl.length = ops.size) && sinkAll md ops hd tl
    && ordFrom md ops hd (Array.replicate ops.size false) (fun listed => seqO md ops tl listed && ch.all fun c => listed.getD c false) && linkC md ops ch
/-- A region that draws its order and holds a chain, in an order of one's own: a head, then a tail. -/
theorem wp_region_cE {id : Nat} {a : Act} {w : World} {l : List Oper} (hd tl : List Nat) (E : World → World → Prop) (sp : SpC) (hm : P.follows .mixedOrders = true) (hB : ordC .any l.toArray hd tl sp.ch = true) (ok : OkC E sp) (hst : sp.Inv 0 w.drew)
    (h : lexC P .any l.toArray E w.drew sp (wpList P l.toArray (onlyN Q) ((pick l tl).map (·.2))) (pick l hd) a (fun _ _ => True)) : (Code.region id l.toArray true).wp P Q a w := by
  simp only [ordC, Bool.and_eq_true, decide_eq_true_eq] at hB
  obtain ⟨⟨⟨⟨⟨⟨hsel, hall⟩, hdis⟩, hlen⟩, hsink⟩, hord⟩, hlink⟩ := hB
  have hcl0 : Closed .any l.toArray (Array.replicate l.toArray.size false) := fun k o _ hk => by
    exfalso
    rcases Nat.lt_or_ge k l.length with h | h
    · simp [h] at hk
    · simp [h] at hk
  refine wp_region_any hm (any_monoQ onlyN_le _ _ _ _ ?_)
  have sub : ∀ (ks : List Nat) (listed : Array Bool) (K : Array Bool → Bool), ordFrom .any l.toArray ks listed K = true → ∀ k ∈ ks, k < l.toArray.size := by
    intro ks
    induction ks with
    | nil => intro _ _ _ k hk; cases hk
    | cons x ks ih =>
      intro listed K hB k hk
      simp only [ordFrom, Bool.and_eq_true] at hB
      rcases List.mem_cons.1 hk with rfl | hk
      · have hr : k ∈ Region.ready .any l.toArray listed := by simpa using hB.1.1
        obtain ⟨_, o, ho, _⟩ := mem_ready.1 hr
        exact (Array.getElem?_eq_some_iff.1 ho).1
      · exact ih _ _ hB.2 k hk
  have hsub := sub _ _ _ hord
  have hnt : ∀ t ∈ tl, ¬ ([] ++ hd).contains t = true := fun t ht => by
    have := List.all_eq_true.1 hdis t ht
    simp only [Bool.and_eq_true] at this
    simpa using this.1
  have HX := anyC_lex (md := .any) (ops := l.toArray) (P := P) (w0 := w.drew) (l := l) rfl (H := fun i => ([] ++ hd).contains i) (G := fun i => hd.contains i) (K := fun listed => seqO .any l.toArray tl listed && sp.ch.all fun c => listed.getD c false) (R := wpList P l.toArray (onlyN Q) ((pick l tl).map (·.2)))
    (fun listed' hcl' ⟨h', hG, hun⟩ t ht => by
      obtain ⟨_, ot, hot, _⟩ := mem_ready.1 ht
      have h1 := List.all_eq_true.1 hall t (List.mem_range.2 (Array.getElem?_eq_some_iff.1 hot).1)
      simp only [Bool.or_eq_true] at h1
      rcases h1 with h1 | h1
      · exact h1
      · have h2 := sinkAll_spec hcl' ht tl hd hsink (by simpa using h1) h' (by simpa using hG)
        rw [getD_both hun] at h2
        cases h2)
    (fun listed' hK' j hj => by
      simp only [Bool.and_eq_true] at hK'
      obtain ⟨hK', _⟩ := hK'
      cases tl with
      | nil => simp only [seqO, List.isEmpty_iff] at hK'; rw [hK'] at hj; cases hj
      | cons t tl =>
        simp only [seqO, Bool.and_eq_true, decide_eq_true_eq] at hK'
        rw [hK'.1] at hj
        have : j = t := by simpa using hj
        subst this
        simpa using hnt j List.mem_cons_self) ok hsel hd _ a (fun _ _ => True) (fun h hh => ⟨by simpa using hh, hsub h hh⟩) hcl0 (fun _ _ _ _ _ => trivial) ⟨w.drew, ok.h0 _, fun _ => trivial⟩ hord h
  have := any_ofC (Q := onlyN Q) (g := tl.length) (fun listed' a' F W hL hW hS => any_seqO rfl tl listed' a' W (fun t ht => by
    have := List.all_eq_true.1 hdis t ht
    simp only [Bool.and_eq_true, decide_eq_true_eq] at this
    exact this.2) (by have := hL.1; simp only [Bool.and_eq_true] at this; exact this.1) (hL.2 W hW (hS _ (Nat.le_refl _) fun m c hc => by
      have h1 := hL.1
      simp only [Bool.and_eq_true] at h1
      rw [List.all_eq_true.1 h1.2 c (List.mem_of_getElem? hc)]
      simp [(List.getElem?_eq_some_iff.1 hc).1]))) ok hlink hd.length _ a (fun _ _ => True) w.drew hcl0 (by simp) (fun k hk hx => by
      have hk0 : k = 0 := by
        rcases Nat.eq_zero_or_pos k with h1 | h1
        · exact h1
        · obtain ⟨c, hc⟩ : ∃ c, sp.ch[0]? = some c := ⟨_, List.getElem?_eq_getElem (by omega)⟩
          have h2 := hx 0 c hc
          simp only [h1, decide_true] at h2
          rcases Nat.lt_or_ge c l.length with h3 | h3
          · simp [h3] at h2
          · simp [h3] at h2
      rw [hk0]
      exact hst) (fun _ _ _ _ _ => trivial) ⟨ok.h0 _, fun _ => trivial⟩ HX
  rw [show hd.length + tl.length = l.toArray.size by simp at hlen ⊢; omega] at this
  exact this
variable {R : Act → World → Prop} {F : Nat → World → Prop} {a : Act} {o : Oper} {rest : List (Nat × Oper)} {k : Nat}
/-- Whoever knows more goes the same way. -/
theorem lexC_mono : ∀ (l : List (Nat × Oper)) (a : Act) (F F' : Nat → World → Prop), (∀ n W, F' n W → F n W) → lexC P md ops E w0 sp R l a F → lexC P md ops E w0 sp R l a F'
  | [], a, F, F', hle, h => fun W hW => h W ⟨hW.1, fun n => hle n W (hW.2 n)⟩
  | (k, o) :: rest, a, F, F', hle, h => by
    unfold lexC stepC at h ⊢
    by_cases hw : Region.wanted o (yielded ops a.tmps) = true
    · simp only [hw, if_true] at h ⊢
      have hcl : ∀ W, Cls md ops E w0 k F' W → Cls md ops E w0 k F W := fun W hc => ⟨hc.1, fun j hj => hle j W (hc.2 j hj)⟩
      have hT : ∀ v, (specC P md ops E w0 sp k F' (execOp a.eval o)).T v → (specC P md ops E w0 sp k F (execOp a.eval o)).T v := by
        unfold specC
        cases posC sp.ch k with
        | some i => exact fun _ h => h
        | none =>
          cases sp.s k with
          | some s => exact fun _ h => h
          | none => exact fun _ h => h
      have hRle : ∀ v W, (specC P md ops E w0 sp k F' (execOp a.eval o)).R v W → (specC P md ops E w0 sp k F (execOp a.eval o)).R v W := by
        unfold specC
        cases posC sp.ch k with
        | some i => exact fun _ _ h => h
        | none =>
          cases sp.s k with
          | some s => exact fun _ _ h => h
          | none => exact fun v W ⟨W0, W1, h1, h2, h3⟩ => ⟨W0, W1, hcl W0 h1, h2, h3⟩
      exact ⟨fun W hc => h.1 W (hcl W hc), fun v hv ⟨W, hx⟩ => lexC_mono rest _ _ _ (upd_le hle (hRle v)) (h.2 v (hT v hv) ⟨W, hx.1, fun n => upd_le hle (hRle v) n W (hx.2 n)⟩)⟩
    · rw [if_neg hw] at h ⊢
      exact ⟨h.1, lexC_mono rest _ _ _ hle h.2⟩
theorem lexC_nil (h : ∀ W, All E w0 F W → sp.Inv sp.ch.length W → R a W) : lexC P md ops E w0 sp R [] a F := h
theorem lexC_skip (hw : Region.wanted o (yielded ops a.tmps) = false) (hp : posC sp.ch k = none) (h : lexC P md ops E w0 sp R rest (a.put o.dst undef) F) : lexC P md ops E w0 sp R ((k, o) :: rest) a F := by
  unfold lexC stepC
  rw [if_neg (by rw [hw]; exact Bool.false_ne_true)]
  exact ⟨hp, h⟩
/-- The chain's next one. -/
theorem lexC_chain {i : Nat} (hw : Region.wanted o (yielded ops a.tmps) = true) (hp : posC sp.ch k = some i) (hv : ∀ W, Cls md ops E w0 k F W → sp.Inv i W → chainAt P E (sp.Inv (i + 1)) (sp.cv k) W ((execOp a.eval o).run P W))
    (h : lexC P md ops E w0 sp R rest (a.put o.dst (sp.cv k)) F) : lexC P md ops E w0 sp R ((k, o) :: rest) a F := by
  unfold lexC stepC
  rw [if_pos hw]
  have e : specC P md ops E w0 sp k F (execOp a.eval o) = ⟨fun v => v = sp.cv k, fun _ _ => True⟩ := by unfold specC; simp only [hp]
  rw [e]
  refine ⟨fun W hc => ?_, fun v hT _ => ?_⟩
  · unfold progC
    simp only [hp]
    exact hv W hc
  · have hT : v = sp.cv k := hT
    subst hT
    exact lexC_mono rest _ _ _ (fun n W h => h.1) h
/-- A value of which something is told now. -/
theorem lexC_such (hw : Region.wanted o (yielded ops a.tmps) = true) (hp : posC sp.ch k = none) (hs : sp.s k = none) (s : Loose) (hst : ∀ v W W', s.R v W → E W W' → s.R v W')
    (hv : ∀ W, Cls md ops E w0 k F W → match (execOp a.eval o).run P W with | .ok (.value v) W' => s.T v ∧ sp.E0 W W' ∧ s.R v W' | .ok .skip W' => s.T undef ∧ sp.E0 W W' ∧ s.R undef W' | _ => False)
    (h : ∀ v, s.T v → lexC P md ops E w0 sp R rest (a.put o.dst v) (upd F k (s.R v))) : lexC P md ops E w0 sp R ((k, o) :: rest) a F := by
  unfold lexC stepC
  rw [if_pos hw]
  have hfact : ∀ v W, factC P md ops E w0 k F (execOp a.eval o) v W → s.T v ∧ s.R v W := fun v W ⟨W0, W1, h1, h2, h3⟩ => by
    have := hv W0 h1
    rcases h2 with h2 | ⟨h2, rfl⟩
    · rw [h2] at this
      exact ⟨this.1, hst _ _ _ this.2.2 h3⟩
    · rw [h2] at this
      exact ⟨this.1, hst _ _ _ this.2.2 h3⟩
  refine ⟨fun W hc => ?_, fun v _ hx => ?_⟩
  · unfold progC
    simp only [hp, hs]
    have := hv W hc
    generalize (execOp a.eval o).run P W = r at this ⊢
    cases r with
    | ok n W' => cases n <;> simp only at this ⊢ <;> first | exact this.2.1 | exact this
    | halt x W' => exact this
  · have e : specC P md ops E w0 sp k F (execOp a.eval o) = ⟨fun _ => True, factC P md ops E w0 k F (execOp a.eval o)⟩ := by unfold specC; simp only [hp, hs]
    rw [e] at hx ⊢
    obtain ⟨W, hx⟩ := hx
    exact lexC_mono rest _ _ _ (upd_le (fun _ _ h => h) fun W h => (hfact v W h).2) (h v (hfact v W ((hx.2 k).2 rfl)).1)
theorem lexC_still (hw : Region.wanted o (yielded ops a.tmps) = true) (hp : posC sp.ch k = none) (hs : sp.s k = none) (h00 : ∀ a, sp.E0 a a) (h : ∃ v, (∀ W, Cls md ops E w0 k F W → (execOp a.eval o).run P W = .ok (.value v) W) ∧ lexC P md ops E w0 sp R rest (a.put o.dst v) F) : lexC P md ops E w0 sp R ((k, o) :: rest) a F := by
  obtain ⟨v, hv, hk⟩ := h
  refine lexC_such hw hp hs ⟨fun u => u = v, fun _ _ => True⟩ (fun _ _ _ _ _ => trivial) (fun W hc => ?_) fun u hu => ?_
  · rw [hv W hc]
    exact ⟨rfl, h00 _, trivial⟩
  · have hu : u = v := hu
    subst hu
    exact lexC_mono rest _ _ _ (fun n W h => h.1) hk
theorem lexC_loose (hw : Region.wanted o (yielded ops a.tmps) = true) (hp : posC sp.ch k = none) {s : Loose} (hs : sp.s k = some s) (hv : ∀ W, Cls md ops E w0 k F W → looseAt P sp.E0 W s ((execOp a.eval o).run P W))
    (h : ∀ v, s.T v → lexC P md ops E w0 sp R rest (a.put o.dst v) (upd F k (s.R v))) : lexC P md ops E w0 sp R ((k, o) :: rest) a F := by
  unfold lexC stepC
  rw [if_pos hw]
  have e : specC P md ops E w0 sp k F (execOp a.eval o) = s := by unfold specC; simp only [hp, hs]
  rw [e]
  refine ⟨fun W hc => ?_, fun v hT _ => h v hT⟩
  unfold progC
  simp only [hp, hs]
  exact hv W hc
/-- Nothing but a chain and what reads: what the chain may write are the blocks of S. -/
theorem wp_region_c {id : Nat} {a : Act} {w : World} {l : List Oper} (hd tl : List Nat) (S : Nat → Prop) (ch : List Nat) (cv : Nat → Value) (Inv : Nat → World → Prop) (hm : P.follows .mixedOrders = true) (hB : ordC .any l.toArray hd tl ch = true) (hst : Inv 0 w.drew)
    (h : lexC P .any l.toArray (Base.Chg S) w.drew ⟨fun _ => none, Eq, ch, cv, Inv⟩ (wpList P l.toArray (onlyN Q) ((pick l tl).map (·.2))) (pick l hd) a (fun _ _ => True)) : (Code.region id l.toArray true).wp P Q a w :=
  wp_region_cE hd tl (Base.Chg S) ⟨fun _ => none, Eq, ch, cv, Inv⟩ hm hB ⟨Base.Chg.refl S, fun _ _ _ => Base.Chg.trans, fun _ _ h => (by cases h), fun a b h => h ▸ Base.Chg.refl S a, fun _ _ _ h hi => h ▸ hi⟩ hst h
end
end Go.Proofs.Ytipmkddcdnbihaa.Lex
