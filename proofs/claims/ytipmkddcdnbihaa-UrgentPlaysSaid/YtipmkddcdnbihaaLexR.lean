/- A region that draws its order and lays rows, some of which later operations of the region take over and write (append(append(x, ..), ..)): walked once, in an order of one's own. What an operation takes over nobody else reads. No program in sight. -/
import Derived.Test.YtipmkddcdnbihaaLexU
import Derived.Test.YtipmkddcdnbihaaVec
namespace Go.Proofs.Ytipmkddcdnbihaa.Lex
open Base
/-- What is known of a value, and what it reads as in a world, out of blocks f. -/
structure LooseR where
  T : Value → Prop
  R : Value → (Nat → Prop) → World → Prop
structure LooseR.Ok (lo : Nat → Prop) (s : LooseR) : Prop where
  ne : ∃ v, s.T v
  st : ∀ v f W W' S, s.R v f W → Chg S W W' → (∀ i, f i → ¬ S i) → (∀ i, S i → lo i) → s.R v f W'
/-- The worlds in which the region's operations may come up: what of the old may be written (lo) beside what is laid. -/
structure EnvR (E : World → World → Prop) (lo : Nat → Prop) (w0 : World) : Prop where
  refl : E w0 w0
  step : ∀ W W' S, E w0 W → Chg S W W' → (∀ i, S i → lo i) → E w0 W'
  new : ∀ W i, E w0 W → W.heap.size ≤ i → lo i
def updG (G : Nat → Nat → Prop) (j : Nat) (f : Nat → Prop) : Nat → Nat → Prop := fun n i => G n i ∨ (n = j ∧ f i)
/-- The blocks that operation j takes over. -/
def CF (L : List (Nat × Nat)) (j : Nat) (G : Nat → Nat → Prop) : Nat → Prop := fun i => ∃ d, (j, d) ∈ L ∧ G d i
/-- Nobody but j takes n's value over. -/
def freeB (L : List (Nat × Nat)) (n j : Nat) : Bool := L.all fun p => decide (p.2 ≠ n) || decide (p.1 = j)
def notC (L : List (Nat × Nat)) (n : Nat) : Bool := L.all fun p => decide (p.2 ≠ n)
def liveR (L : List (Nat × Nat)) (listed : Array Bool) (n : Nat) : Prop := ∀ p ∈ L, p.2 = n → listed.getD p.1 false = false
theorem freeB_spec {L : List (Nat × Nat)} {n j : Nat} (h : freeB L n j = true) {p : Nat × Nat} (hp : p ∈ L) (hn : p.2 = n) : p.1 = j := by
  have := List.all_eq_true.1 h p hp
  simp only [Bool.or_eq_true, decide_eq_true_eq] at this
  exact this.resolve_left fun k => k hn
theorem notC_live {L : List (Nat × Nat)} {n : Nat} {listed : Array Bool} (h : notC L n = true) : liveR L listed n := fun p hp hn => by
  have := List.all_eq_true.1 h p hp
  simp only [decide_eq_true_eq] at this
  exact absurd hn this
theorem updG_comm (G : Nat → Nat → Prop) (i j : Nat) (r s : Nat → Prop) : updG (updG G i r) j s = updG (updG G j s) i r := by
  funext n k
  simp only [updG, or_assoc]
  rw [or_comm (a := n = i ∧ r k)]
section
variable {P : Program} {ops : Array Oper} {md : Region.Mode} {E : World → World → Prop} {lo : Nat → Prop} {w0 : World} {L : List (Nat × Nat)} {sp : Nat → Option LooseR} {Q : Exit → Act → World → Prop}
/-- What operation j leans on: what it waits for, and what it takes over. -/
def depL (md : Region.Mode) (ops : Array Oper) (L : List (Nat × Nat)) (j n : Nat) : Bool := dep md ops j n || L.contains (j, n)
def ClsR (md : Region.Mode) (ops : Array Oper) (E : World → World → Prop) (w0 : World) (L : List (Nat × Nat)) (j : Nat) (F : Nat → World → Prop) (W : World) : Prop := E w0 W ∧ ∀ n, depL md ops L j n = true → freeB L n j = true → F n W
/-- What it leans on lies apart. -/
def ApR (md : Region.Mode) (ops : Array Oper) (L : List (Nat × Nat)) (j : Nat) (G : Nat → Nat → Prop) : Prop := ∀ n m i, depL md ops L j n = true → freeB L n j = true → depL md ops L j m = true → freeB L m j = true → n ≠ m → G n i → ¬ G m i
structure AllR (E : World → World → Prop) (lo : Nat → Prop) (w0 : World) (L : List (Nat × Nat)) (listed : Array Bool) (F : Nat → World → Prop) (G : Nat → Nat → Prop) (W : World) : Prop where
  old : E w0 W
  fact : ∀ n, liveR L listed n → F n W
  lo : ∀ n i, G n i → lo i ∧ i < W.heap.size
  apart : ∀ n m i, liveR L listed n → liveR L listed m → n ≠ m → G n i → ¬ G m i
def StFG (lo : Nat → Prop) (F : Nat → World → Prop) (G : Nat → Nat → Prop) : Prop := ∀ n W W' S, F n W → Chg S W W' → (∀ i, G n i → ¬ S i) → (∀ i, S i → lo i) → F n W'
theorem StFG.upd {F : Nat → World → Prop} {G : Nat → Nat → Prop} (h : StFG lo F G) {s : LooseR} (hs : s.Ok lo) {j : Nat} (v : Value) (f : Nat → Prop) : StFG lo (Lex.upd F j (s.R v f)) (updG G j f) :=
  fun n W W' S hf hc hg hS => ⟨h n W W' S hf.1 hc (fun i hi => hg i (.inl hi)) hS, fun e => hs.st v f W W' S (hf.2 e) hc (fun i hi => hg i (.inr ⟨e, hi⟩)) hS⟩
/-- What is taken over is waited for (or was there ahead), and by one alone. -/
structure OkL (md : Region.Mode) (ops : Array Oper) (L : List (Nat × Nat)) : Prop where
  dep : ∀ p ∈ L, ops.size ≤ p.2 ∨ dep md ops p.1 p.2 = true
  one : ∀ p ∈ L, freeB L p.2 p.1 = true
theorem OkL.not (hL : OkL md ops L) {k i : Nat} (hi : i < ops.size) (h : Lex.dep md ops k i = false) : (k, i) ∉ L := fun hm => by
  rcases hL.dep _ hm with h1 | h1
  · exact absurd hi (Nat.not_lt.2 h1)
  · rw [h] at h1
    cases h1
theorem OkL.depL (hL : OkL md ops L) {k i : Nat} (hi : i < ops.size) (h : Lex.dep md ops k i = false) : Lex.depL md ops L k i = false := by
  unfold Lex.depL
  rw [h, Bool.false_or]
  simpa using hL.not hi h
theorem apR_upd (hL : OkL md ops L) {k i : Nat} (hi : i < ops.size) {G : Nat → Nat → Prop} {f : Nat → Prop} (h : dep md ops k i = false) (ha : ApR md ops L k (updG G i f)) : ApR md ops L k G := fun n m b h1 h2 h3 h4 hne hg hg2 => ha n m b h1 h2 h3 h4 hne (.inl hg) (.inl hg2)
theorem apR_upd' (hL : OkL md ops L) {k i : Nat} (hi : i < ops.size) {G : Nat → Nat → Prop} {f : Nat → Prop} (h : dep md ops k i = false) (ha : ApR md ops L k G) : ApR md ops L k (updG G i f) := fun n m b h1 h2 h3 h4 hne hg hg2 => by
  have hd := hL.depL hi h
  refine ha n m b h1 h2 h3 h4 hne (hg.resolve_right fun k => ?_) (hg2.resolve_right fun k => ?_)
  · rw [k.1, hd] at h1
    cases h1
  · rw [k.1, hd] at h3
    cases h3
theorem clsR_upd (hL : OkL md ops L) {k i : Nat} (hi : i < ops.size) {F : Nat → World → Prop} {r : World → Prop} (h : dep md ops k i = false) (W : World) : ClsR md ops E w0 L k (upd F i r) W ↔ ClsR md ops E w0 L k F W :=
  ⟨fun hc => ⟨hc.1, fun j hj hf => (hc.2 j hj hf).1⟩, fun hc => ⟨hc.1, fun j hj hf => ⟨hc.2 j hj hf, fun e => by
    subst e
    unfold depL at hj
    rw [h, Bool.false_or] at hj
    exact absurd (by simpa using hj) (hL.not hi h)⟩⟩⟩
theorem CF_upd (hL : OkL md ops L) {k i : Nat} (hi : i < ops.size) {G : Nat → Nat → Prop} {f : Nat → Prop} (h : dep md ops k i = false) : CF L k (updG G i f) = CF L k G := by
  funext b
  refine propext ⟨fun ⟨d, hd, hg⟩ => ⟨d, hd, hg.resolve_right fun hh => ?_⟩, fun ⟨d, hd, hg⟩ => ⟨d, hd, .inl hg⟩⟩
  exact hL.not hi h (hh.1 ▸ hd)
def looseR (P : Program) (C : Nat → Prop) (W : World) (s : LooseR) : Result Next → Prop
  | .ok (.value v) W' => s.T v ∧ Chg C W W' ∧ ∃ f, s.R v f W' ∧ ∀ i, f i → (W.heap.size ≤ i ∧ i < W'.heap.size) ∨ C i
  | .ok (.enter f args) W' => Calls P f args W' fun e W'' => ∃ v, e = .returned v ∧ s.T v ∧ Chg C W W'' ∧ ∃ f, s.R v f W'' ∧ ∀ i, f i → (W.heap.size ≤ i ∧ i < W''.heap.size) ∨ C i
  | _ => False
def stepR (P : Program) (md : Region.Mode) (ops : Array Oper) (E : World → World → Prop) (w0 : World) (L : List (Nat × Nat)) (sp : Nat → Option LooseR) (j : Nat) (o : Oper) (K : Act → (Nat → World → Prop) → (Nat → Nat → Prop) → Prop) (a : Act) (F : Nat → World → Prop) (G : Nat → Nat → Prop) : Prop :=
  if Region.wanted o (yielded ops a.tmps) = true then
    match sp j with
    | none => ∃ v, (∀ W, E w0 W → (execOp a.eval o).run P W = .ok (.value v) W) ∧ K (a.put o.dst v) F G
    | some s => (∀ W, ClsR md ops E w0 L j F W → ApR md ops L j G → looseR P (CF L j G) W s ((execOp a.eval o).run P W)) ∧ ∀ v f, s.T v → K (a.put o.dst v) (upd F j (s.R v f)) (updG G j f)
  else K (a.put o.dst undef) F G
def opR (P : Program) (md : Region.Mode) (ops : Array Oper) (E : World → World → Prop) (w0 : World) (L : List (Nat × Nat)) (sp : Nat → Option LooseR) (j : Nat) (K : Act → (Nat → World → Prop) → (Nat → Nat → Prop) → Prop) (a : Act) (F : Nat → World → Prop) (G : Nat → Nat → Prop) : Prop :=
  match ops[j]? with
  | none => K a F G
  | some o => stepR P md ops E w0 L sp j o K a F G
def anyR (P : Program) (md : Region.Mode) (ops : Array Oper) (E : World → World → Prop) (w0 : World) (L : List (Nat × Nat)) (sp : Nat → Option LooseR) (H : Nat → Bool) (Z : Array Bool → Act → (Nat → World → Prop) → (Nat → Nat → Prop) → Prop) : Nat → Array Bool → Act → (Nat → World → Prop) → (Nat → Nat → Prop) → Prop
  | 0, listed, a, F, G => Z listed a F G
  | fuel + 1, listed, a, F, G => Region.ready md ops listed ≠ [] ∧ ∀ j ∈ Region.ready md ops listed, H j = true ∧ opR P md ops E w0 L sp j (anyR P md ops E w0 L sp H Z fuel (listed.setIfInBounds j true)) a F G
theorem live_set {listed : Array Bool} {j n : Nat} (h : liveR L (listed.setIfInBounds j true) n) : liveR L listed n := fun p hp hn => by
  have h1 := h p hp hn
  by_cases hj : j = p.1
  · subst hj
    rcases Nat.lt_or_ge p.1 listed.size with h2 | h2
    · simp [h2] at h1
    · simp [Array.getElem?_eq_none h2]
  · rwa [getD_set_ne false hj] at h1
theorem AllR.skip {listed : Array Bool} {F : Nat → World → Prop} {G : Nat → Nat → Prop} {W : World} (h : AllR E lo w0 L listed F G W) (j : Nat) : AllR E lo w0 L (listed.setIfInBounds j true) F G W :=
  ⟨h.old, fun n hn => h.fact n (live_set hn), h.lo, fun n m i hn hm => h.apart n m i (live_set hn) (live_set hm)⟩
theorem AllR.step (he : EnvR E lo w0) (hL : OkL md ops L) {listed : Array Bool} {F : Nat → World → Prop} {G : Nat → Nat → Prop} {W W' : World} {j : Nat} {s : LooseR} {v : Value} {f : Nat → Prop} (h : AllR E lo w0 L listed F G W) (hF : StFG lo F G) (hj : listed.getD j false = false) (hlt : j < listed.size) (hc : Chg (CF L j G) W W') (hr : s.R v f W')
    (hft : ∀ i, f i → (W.heap.size ≤ i ∧ i < W'.heap.size) ∨ CF L j G i) : AllR E lo w0 L (listed.setIfInBounds j true) (upd F j (s.R v f)) (updG G j f) W' := by
  have hlo : ∀ i, CF L j G i → lo i := fun i ⟨d, _, hg⟩ => (h.lo d i hg).1
  have hdlive : ∀ d, (j, d) ∈ L → liveR L listed d := fun d hd p hp hn => by
    rw [freeB_spec (hL.one _ hd) hp hn]
    exact hj
  have hne : ∀ n d, liveR L (listed.setIfInBounds j true) n → (j, d) ∈ L → n ≠ d := fun n d hn hd e => by
    have h1 := hn _ hd e.symm
    simp [hlt] at h1
  have hsep : ∀ n, liveR L (listed.setIfInBounds j true) n → ∀ i, G n i → ¬ CF L j G i := fun n hn i hg ⟨d, hd, hgd⟩ => h.apart n d i (live_set hn) (hdlive d hd) (hne n d hn hd) hg hgd
  refine ⟨he.step _ _ _ h.old hc hlo, fun n hn => ⟨hF n W W' _ (h.fact n (live_set hn)) hc (hsep n hn) hlo, fun e => hr⟩, fun n i hg => ?_, fun n m i hn hm hnm hg hg2 => ?_⟩
  · rcases hg with hg | ⟨_, hg⟩
    · have := h.lo n i hg
      exact ⟨this.1, Nat.lt_of_lt_of_le this.2 hc.size⟩
    · rcases hft i hg with h1 | ⟨d, hd, h1⟩
      · exact ⟨he.new _ _ h.old h1.1, h1.2⟩
      · have := h.lo d i h1
        exact ⟨this.1, Nat.lt_of_lt_of_le this.2 hc.size⟩
  · rcases hg with hg | ⟨e1, hg⟩
    · rcases hg2 with hg2 | ⟨e2, hg2⟩
      · exact h.apart n m i (live_set hn) (live_set hm) hnm hg hg2
      · rcases hft i hg2 with h1 | h1
        · have := (h.lo n i hg).2
          omega
        · exact hsep n hn i hg h1
    · rcases hg2 with hg2 | ⟨e2, hg2⟩
      · rcases hft i hg with h1 | h1
        · have := (h.lo m i hg2).2
          omega
        · exact hsep m hm i hg2 h1
      · exact hnm (e1.trans e2.symm)
theorem AllR.cls {listed : Array Bool} {F : Nat → World → Prop} {G : Nat → Nat → Prop} {W : World} {j : Nat} (h : AllR E lo w0 L listed F G W) (hj : listed.getD j false = false) : ClsR md ops E w0 L j F W :=
  ⟨h.old, fun n _ hf => h.fact n fun p hp hn => by rw [freeB_spec hf hp hn]; exact hj⟩
theorem AllR.ap {listed : Array Bool} {F : Nat → World → Prop} {G : Nat → Nat → Prop} {W : World} {j : Nat} (h : AllR E lo w0 L listed F G W) (hj : listed.getD j false = false) : ApR md ops L j G :=
  fun n m i _ hf _ hf2 hne => h.apart n m i (fun p hp hn => by rw [freeB_spec hf hp hn]; exact hj) (fun p hp hn => by rw [freeB_spec hf2 hp hn]; exact hj) hne
theorem any_ofR (he : EnvR E lo w0) {H : Nat → Bool} {g : Nat} {Z : Array Bool → Act → (Nat → World → Prop) → (Nat → Nat → Prop) → Prop} (hZ : ∀ listed a F G W, Z listed a F G → AllR E lo w0 L listed F G W → wpAny P md ops Q g listed a W) (hL : OkL md ops L) (hsp : ∀ j s, sp j = some s → s.Ok lo) :
    ∀ (fuel : Nat) (listed : Array Bool) (a : Act) (F : Nat → World → Prop) (G : Nat → Nat → Prop) (W : World), listed.size = ops.size → StFG lo F G → AllR E lo w0 L listed F G W → anyR P md ops E w0 L sp H Z fuel listed a F G → wpAny P md ops Q (fuel + g) listed a W
  | 0, _, _, _, _, W, _, _, hW, h => by rw [Nat.zero_add]; exact hZ _ _ _ _ _ h hW
  | fuel + 1, listed, a, F, G, W, hsz, hF, hW, h => by
    rw [show fuel + 1 + g = (fuel + g) + 1 by omega]
    refine ⟨fun h0 => absurd h0 h.1, fun j hj => ?_⟩
    have h1 := (h.2 j hj).2
    obtain ⟨hun, o, ho, _⟩ := mem_ready.1 hj
    have hun := getD_both hun
    have hjl : j < listed.size := by rw [hsz]; exact (Array.getElem?_eq_some_iff.1 ho).1
    have hsz2 : (listed.setIfInBounds j true).size = ops.size := by simpa using hsz
    unfold opR at h1
    unfold wpOp
    simp only [ho] at h1 ⊢
    unfold stepR at h1
    by_cases hw : Region.wanted o (yielded ops a.tmps) = true
    · simp only [hw, if_true] at h1 ⊢
      refine .inl ?_
      unfold Oper.wp
      cases hs : sp j with
      | none =>
        simp only [hs] at h1
        obtain ⟨v, hv, hk⟩ := h1
        rw [hv W hW.old]
        exact any_ofR he hZ hL hsp fuel _ _ _ _ _ hsz2 hF (hW.skip j) hk
      | some s =>
        simp only [hs] at h1
        obtain ⟨hv, hk⟩ := h1
        have h2 := hv W (hW.cls hun) (hW.ap hun)
        generalize (execOp a.eval o).run P W = r at h2 ⊢
        cases r with
        | ok n W' =>
          cases n <;> simp only [looseR] at h2 <;> simp only [Oper.upon]
          case value v =>
            obtain ⟨hT, hc, f, hr, hft⟩ := h2
            exact any_ofR he hZ hL hsp fuel _ _ _ _ _ hsz2 (hF.upd (hsp j s hs) v f) (hW.step he hL hF hun hjl hc hr hft) (hk v f hT)
          case enter f args =>
            refine h2.mono fun e W'' ⟨v, hev, hT, hc, f, hr, hft⟩ => ?_
            subst hev
            exact any_ofR he hZ hL hsp fuel _ _ _ _ _ hsz2 (hF.upd (hsp j s hs) v f) (hW.step he hL hF hun hjl hc hr hft) (hk v f hT)
        | halt x W' => simp only [looseR] at h2
    · simp only [hw] at h1 ⊢
      exact any_ofR he hZ hL hsp fuel _ _ _ _ _ hsz2 hF (hW.skip j) h1
/-- An operation has a value at the least. -/
theorem stepR_some (hsp : ∀ j s, sp j = some s → s.Ok lo) {i : Nat} {oi : Oper} {a : Act} {F : Nat → World → Prop} {G : Nat → Nat → Prop} {K : Act → (Nat → World → Prop) → (Nat → Nat → Prop) → Prop} (h : stepR P md ops E w0 L sp i oi K a F G) :
    ∃ v F' G', ((F' = F ∧ G' = G) ∨ ∃ r f, F' = upd F i r ∧ G' = updG G i f) ∧ K (a.put oi.dst v) F' G' := by
  unfold stepR at h
  by_cases hw : Region.wanted oi (yielded ops a.tmps) = true
  · simp only [hw, if_true] at h
    cases hs : sp i with
    | none =>
      simp only [hs] at h
      obtain ⟨v, _, hk⟩ := h
      exact ⟨v, F, G, .inl ⟨rfl, rfl⟩, hk⟩
    | some s =>
      simp only [hs] at h
      obtain ⟨v, hT⟩ := (hsp i s hs).ne
      exact ⟨v, _, _, .inr ⟨_, _, rfl, rfl⟩, h.2 v (fun _ => False) hT⟩
  · simp only [hw] at h
    exact ⟨_, F, G, .inl ⟨rfl, rfl⟩, h⟩
/-- An operation that may be taken first. -/
theorem anyR_first (he : EnvR E lo w0) {H A : Nat → Bool} {Z : Array Bool → Act → (Nat → World → Prop) → (Nat → Nat → Prop) → Prop} (hwait : ∀ listed, Closed md ops listed → (∃ h, A h = true ∧ listed.getD h true = false) → ∀ t ∈ Region.ready md ops listed, H t = true) (hdone : ∀ listed a F G, Z listed a F G → ∀ j ∈ Region.ready md ops listed, H j = false) (hL : OkL md ops L) (hsp : ∀ j s, sp j = some s → s.Ok lo) {i : Nat} {oi : Oper} (hin : A i = true) (hi : ops[i]? = some oi) (hsel : ∀ (j : Nat) (o : Oper) cs b, ops[j]? = some o → o.op ≠ .select cs b) :
    ∀ (fuel : Nat) (listed : Array Bool) (a : Act) (F : Nat → World → Prop) (G : Nat → Nat → Prop), Closed md ops listed →
      (∀ j oj, ops[j]? = some oj → j ≠ i → listed.getD j true = false → (∀ e ∈ oj.after, Region.binds md e = true → e.on ≠ i) → oi.apart ops oj = true) →
      i ∈ Region.ready md ops listed →
      stepR P md ops E w0 L sp i oi (anyR P md ops E w0 L sp H Z fuel (listed.setIfInBounds i true)) a F G → anyR P md ops E w0 L sp H Z (fuel + 1) listed a F G := by
  intro fuel
  induction fuel with
  | zero =>
    intro listed a F G hcl hfree hr HH
    refine ⟨fun h => (by rw [h] at hr; cases hr), fun j hj => ?_⟩
    have hjn : H j = true := hwait listed hcl ⟨i, hin, (mem_ready.1 hr).1⟩ j hj
    refine ⟨hjn, ?_⟩
    by_cases hji : j = i
    · subst hji
      unfold opR
      simp only [hi]
      exact HH
    · exfalso
      have h1 := ready_mono hj hji
      obtain ⟨_, _, _, _, h2⟩ := stepR_some hsp HH
      have := hdone _ _ _ _ h2 j h1
      rw [hjn] at this
      cases this
  | succ fuel ih =>
    intro listed a F G hcl hfree hr HH
    refine ⟨fun h => (by rw [h] at hr; cases hr), fun j hj => ?_⟩
    have hjn : H j = true := hwait listed hcl ⟨i, hin, (mem_ready.1 hr).1⟩ j hj
    refine ⟨hjn, ?_⟩
    by_cases hji : j = i
    · subst hji
      unfold opR
      simp only [hi]
      exact HH
    · obtain ⟨hjun, oj, hoj, hall⟩ := mem_ready.1 hj
      have hiun := (mem_ready.1 hr).1
      have hnot : ∀ e ∈ oj.after, Region.binds md e = true → e.on ≠ i := fun e he hb heq => by
        have h1 := hall e he hb
        rw [heq, getD_both hiun] at h1
        cases h1
      have hap := hfree j oj hoj hji hjun hnot
      obtain ⟨p1, p2, p3⟩ := Oper.apart_spec hap
      have hsi : ∀ cs b, oi.op ≠ .select cs b := fun cs b => hsel i oi cs b hi
      have hsj : ∀ cs b, oj.op ≠ .select cs b := fun cs b => hsel j oj cs b hoj
      have hdep : dep md ops j i = false := not_dep hcl hj hiun
      have hdep2 : dep md ops i j = false := not_dep hcl hr hjun
      have hilt : i < ops.size := (Array.getElem?_eq_some_iff.1 hi).1
      have hjlt : j < ops.size := (Array.getElem?_eq_some_iff.1 hoj).1
      have hcl2 := hcl.set hj
      have hfree' : ∀ k ok, ops[k]? = some ok → k ≠ i → (listed.setIfInBounds j true).getD k true = false →
          (∀ e ∈ ok.after, Region.binds md e = true → e.on ≠ i) → oi.apart ops ok = true := fun k ok hk hki hun hno => by
        refine hfree k ok hk hki ?_ hno
        by_cases hjk : j = k
        · subst hjk; exact hjun
        · rw [getD_set_ne true hjk] at hun; exact hun
      have hr2 := ready_mono hr (Ne.symm hji)
      have hjr := ready_mono hj hji
      have hsw : (listed.setIfInBounds j true).setIfInBounds i true = (listed.setIfInBounds i true).setIfInBounds j true := Array.setIfInBounds_comm _ _ hji
      unfold opR
      simp only [hoj]
      have again : ∀ (u : Value) (F' : Nat → World → Prop) (G' : Nat → Nat → Prop), (∀ W, ClsR md ops E w0 L i F' W → ClsR md ops E w0 L i F W) → (ApR md ops L i G' → ApR md ops L i G) → CF L i G' = CF L i G →
          (∀ v, anyR P md ops E w0 L sp H Z (fuel + 1) (listed.setIfInBounds i true) (a.put oi.dst v) F G → anyR P md ops E w0 L sp H Z fuel ((listed.setIfInBounds i true).setIfInBounds j true) ((a.put oi.dst v).put oj.dst u) F' G') →
          (∀ v r f, anyR P md ops E w0 L sp H Z (fuel + 1) (listed.setIfInBounds i true) (a.put oi.dst v) (upd F i r) (updG G i f) → anyR P md ops E w0 L sp H Z fuel ((listed.setIfInBounds i true).setIfInBounds j true) ((a.put oi.dst v).put oj.dst u) (upd F' i r) (updG G' i f)) →
          stepR P md ops E w0 L sp i oi (anyR P md ops E w0 L sp H Z fuel ((listed.setIfInBounds j true).setIfInBounds i true)) (a.put oj.dst u) F' G' := by
        intro u F' G' hc hap' hcf hq hl
        unfold stepR at HH ⊢
        rw [wanted_put oi a oj.dst u p3, execOp_put oi hsi a oj.dst u p3, hsw, hcf]
        by_cases hw : Region.wanted oi (yielded ops a.tmps) = true
        · simp only [hw, if_true] at HH ⊢
          cases hs : sp i with
          | none =>
            simp only [hs] at HH
            obtain ⟨v, hv, hk⟩ := HH
            refine ⟨v, hv, ?_⟩
            rw [← Act.put_comm a v u p2]
            exact hq v hk
          | some s =>
            simp only [hs] at HH
            obtain ⟨hv, hk⟩ := HH
            refine ⟨fun W hW hA => hv W (hc W hW) (hap' hA), fun v f hT => ?_⟩
            rw [← Act.put_comm a v u p2]
            exact hl v _ _ (hk v f hT)
        · simp only [hw] at HH ⊢
          rw [← Act.put_comm a undef u p2]
          exact hq undef HH
      have stepj : ∀ (v : Value) (F' : Nat → World → Prop) (G' : Nat → Nat → Prop), anyR P md ops E w0 L sp H Z (fuel + 1) (listed.setIfInBounds i true) (a.put oi.dst v) F' G' →
          stepR P md ops E w0 L sp j oj (anyR P md ops E w0 L sp H Z fuel ((listed.setIfInBounds i true).setIfInBounds j true)) (a.put oi.dst v) F' G' := by
        intro v F' G' h
        have := (h.2 j hjr).2
        unfold opR at this
        simpa only [hoj] using this
      obtain ⟨v0, F0, G0, hFG0, hh0⟩ := stepR_some hsp HH
      have h0j := stepj v0 F0 G0 hh0
      have clsj : ∀ W, ClsR md ops E w0 L j F W → ClsR md ops E w0 L j F0 W := by
        rcases hFG0 with ⟨rfl, _⟩ | ⟨r, f, rfl, _⟩
        · exact fun _ h => h
        · exact fun W h => (clsR_upd hL hilt hdep W).2 h
      have apj : ApR md ops L j G → ApR md ops L j G0 := by
        rcases hFG0 with ⟨_, rfl⟩ | ⟨r, f, _, rfl⟩
        · exact fun h => h
        · exact apR_upd' hL hilt hdep
      have cfj : CF L j G0 = CF L j G := by
        rcases hFG0 with ⟨_, rfl⟩ | ⟨r, f, _, rfl⟩
        · rfl
        · exact CF_upd hL hilt hdep
      unfold stepR at h0j ⊢
      rw [wanted_put oj a oi.dst v0 p1, execOp_put oj hsj a oi.dst v0 p1] at h0j
      by_cases hw : Region.wanted oj (yielded ops a.tmps) = true
      · simp only [hw, if_true] at h0j ⊢
        cases hs : sp j with
        | none =>
          simp only [hs] at h0j
          obtain ⟨u, hu, _⟩ := h0j
          have key : ∀ (v : Value) (F' : Nat → World → Prop) (G' : Nat → Nat → Prop), anyR P md ops E w0 L sp H Z (fuel + 1) (listed.setIfInBounds i true) (a.put oi.dst v) F' G' →
              anyR P md ops E w0 L sp H Z fuel ((listed.setIfInBounds i true).setIfInBounds j true) ((a.put oi.dst v).put oj.dst u) F' G' := by
            intro v F' G' h
            have hj2 := stepj v F' G' h
            unfold stepR at hj2
            rw [wanted_put oj a oi.dst v p1, execOp_put oj hsj a oi.dst v p1] at hj2
            simp only [hw, if_true, hs] at hj2
            obtain ⟨u2, hu2, hk2⟩ := hj2
            have e1 := hu2 w0 he.refl
            rw [hu w0 he.refl] at e1
            injection e1 with e1 _
            injection e1 with e1
            subst e1
            exact hk2
          exact ⟨u, hu, ih (listed.setIfInBounds j true) (a.put oj.dst u) F G hcl2 hfree' hr2 (again u F G (fun _ h => h) (fun h => h) rfl (fun v h => key v _ _ h) (fun v r f h => key v _ _ h))⟩
        | some s =>
          simp only [hs] at h0j
          obtain ⟨hv0, _⟩ := h0j
          rw [cfj] at hv0
          refine ⟨fun W h hA => hv0 W (clsj W h) (apj hA), fun u fu hT => ih (listed.setIfInBounds j true) (a.put oj.dst u) _ _ hcl2 hfree' hr2 (again u _ _ (fun W h => (clsR_upd hL hjlt hdep2 W).1 h) (apR_upd hL hjlt hdep2) (CF_upd hL hjlt hdep2) ?_ ?_)⟩
          · intro v h
            have hj2 := stepj v F G h
            unfold stepR at hj2
            rw [wanted_put oj a oi.dst v p1, execOp_put oj hsj a oi.dst v p1] at hj2
            simp only [hw, if_true, hs] at hj2
            exact hj2.2 u fu hT
          · intro v r f h
            have hj2 := stepj v _ _ h
            unfold stepR at hj2
            rw [wanted_put oj a oi.dst v p1, execOp_put oj hsj a oi.dst v p1] at hj2
            simp only [hw, if_true, hs] at hj2
            have := hj2.2 u fu hT
            rwa [upd_comm, updG_comm] at this
      · simp only [hw]
        have key : ∀ (v : Value) (F' : Nat → World → Prop) (G' : Nat → Nat → Prop), anyR P md ops E w0 L sp H Z (fuel + 1) (listed.setIfInBounds i true) (a.put oi.dst v) F' G' →
            anyR P md ops E w0 L sp H Z fuel ((listed.setIfInBounds i true).setIfInBounds j true) ((a.put oi.dst v).put oj.dst undef) F' G' := by
          intro v F' G' h
          have hj2 := stepj v F' G' h
          unfold stepR at hj2
          rw [wanted_put oj a oi.dst v p1] at hj2
          rwa [if_neg hw] at hj2
        exact ih (listed.setIfInBounds j true) (a.put oj.dst undef) F G hcl2 hfree' hr2 (again undef F G (fun _ h => h) (fun h => h) rfl (fun v h => key v _ _ h) (fun v r f h => key v _ _ h))
def lexR (P : Program) (md : Region.Mode) (ops : Array Oper) (E : World → World → Prop) (w0 : World) (L : List (Nat × Nat)) (sp : Nat → Option LooseR) (R : Act → World → Prop) : List (Nat × Oper) → Act → (Nat → World → Prop) → (Nat → Nat → Prop) → Prop
  | [], a, F, _ => ∀ W, E w0 W → (∀ n, notC L n = true → F n W) → R a W
  | (k, o) :: rest, a, F, G => stepR P md ops E w0 L sp k o (lexR P md ops E w0 L sp R rest) a F G
theorem anyR_lex (he : EnvR E lo w0) {l : List Oper} (hl : l.toArray = ops) {H A : Nat → Bool} {K : Array Bool → Bool} {R : Act → World → Prop} (hwait : ∀ listed, Closed md ops listed → (∃ h, A h = true ∧ listed.getD h true = false) → ∀ t ∈ Region.ready md ops listed, H t = true)
    (hdone : ∀ listed, K listed = true → ∀ j ∈ Region.ready md ops listed, H j = false) (hL : OkL md ops L) (hsp : ∀ j s, sp j = some s → s.Ok lo) (hs : Region.noSelect ops = true) :
    ∀ (hd : List Nat) (listed : Array Bool) (a : Act) (F : Nat → World → Prop) (G : Nat → Nat → Prop), (∀ h ∈ hd, A h = true ∧ h < ops.size) → Closed md ops listed →
    ordFrom md ops hd listed K = true → lexR P md ops E w0 L sp R (pick l hd) a F G → anyR P md ops E w0 L sp H (fun listed a F _ => K listed = true ∧ ∀ W, E w0 W → (∀ n, notC L n = true → F n W) → R a W) hd.length listed a F G
  | [], listed, a, F, G, _, _, hB, h => ⟨by simpa [ordFrom] using hB, h⟩
  | k :: hd, listed, a, F, G, hA, hcl, hB, h => by
    obtain ⟨hAk, hlt⟩ := hA k List.mem_cons_self
    obtain ⟨o, ho⟩ : ∃ o, l[k]? = some o := ⟨_, List.getElem?_eq_getElem (by rw [← hl] at hlt; simpa using hlt)⟩
    have ho' : ops[k]? = some o := by rw [← hl]; simpa using ho
    simp only [ordFrom, Bool.and_eq_true] at hB
    obtain ⟨⟨hr, hf⟩, hB'⟩ := hB
    have hr' : k ∈ Region.ready md ops listed := by simpa using hr
    have hA' : ∀ h ∈ hd, A h = true ∧ h < ops.size := fun h hh => hA h (List.mem_cons_of_mem _ hh)
    simp only [pick, ho] at h
    refine anyR_first he (A := A) hwait (fun listed' a' F' G' hZ => hdone listed' hZ.1) hL hsp hAk ho' (Region.noSelect_spec hs) hd.length listed a F G hcl (Region.free_spec ho' hf) hr' ?_
    unfold lexR at h
    unfold stepR at h ⊢
    by_cases hw : Region.wanted o (yielded ops a.tmps) = true
    · simp only [hw, if_true] at h ⊢
      cases hsk : sp k with
      | none =>
        simp only [hsk] at h
        obtain ⟨v, hv, hk⟩ := h
        exact ⟨v, hv, anyR_lex he hl hwait hdone hL hsp hs hd _ _ _ _ hA' (hcl.set hr') hB' hk⟩
      | some s =>
        simp only [hsk] at h
        exact ⟨h.1, fun v f hT => anyR_lex he hl hwait hdone hL hsp hs hd _ _ _ _ hA' (hcl.set hr') hB' (h.2 v f hT)⟩
    · rw [if_neg hw] at h ⊢
      exact anyR_lex he hl hwait hdone hL hsp hs hd _ _ _ _ hA' (hcl.set hr') hB' h
def okL (md : Region.Mode) (ops : Array Oper) (L : List (Nat × Nat)) : Bool := L.all fun p => (decide (ops.size ≤ p.2) || Region.waitsFor md ops p.1 p.2) && freeB L p.2 p.1
theorem okL_spec (h : okL md ops L = true) : OkL md ops L := by
  have h1 := fun p hp => List.all_eq_true.1 h p hp
  simp only [Bool.and_eq_true] at h1
  refine ⟨fun p hp => ?_, fun p hp => (h1 p hp).2⟩
  have h2 := (h1 p hp).1
  simp only [Bool.or_eq_true, decide_eq_true_eq] at h2
  rcases h2 with h2 | h2
  · exact .inl h2
  refine .inr ?_
  obtain ⟨o, ho, e, he, hb, hon⟩ := Region.waitsFor_spec h2
  have hsz := (Array.getElem?_eq_some_iff.1 ho).1
  unfold dep
  obtain ⟨m, hm⟩ : ∃ m, ops.size = m + 1 := ⟨ops.size - 1, by omega⟩
  rw [hm]
  unfold reach
  simp only [ho]
  refine Array.any_eq_true'.2 ⟨e, he, ?_⟩
  simp [hb, hon]
def spR (l : List (Nat × LooseR)) (j : Nat) : Option LooseR := (l.find? fun p => p.1 == j).map (·.2)
theorem spR_mem {l : List (Nat × LooseR)} {j : Nat} {s : LooseR} (h : spR l j = some s) : ∃ p ∈ l, p.2 = s := by
  unfold spR at h
  obtain ⟨p, hp, rfl⟩ := Option.map_eq_some_iff.1 h
  exact ⟨p, List.mem_of_find?_eq_some hp, rfl⟩
/-- The rule: hd: the operations in an order of one's own; tl: the stores that stand last; L: which operation takes which one's value over; sp: what is told of the rows; F0, G0: what is known ahead, of which blocks (under numbers that no operation has). -/
theorem wp_region_rE {id : Nat} {a : Act} {w : World} {l : List Oper} (hd tl : List Nat) (E : World → World → Prop) (lo : Nat → Prop) (L : List (Nat × Nat)) (sp : List (Nat × LooseR)) (F0 : Nat → World → Prop) (G0 : Nat → Nat → Prop) (he : EnvR E lo w.drew) (hm : P.follows .mixedOrders = true) (hB : ordB .any l.toArray [] hd tl = true) (hLB : okL .any l.toArray L = true) (hsp : ∀ p ∈ sp, p.2.Ok lo)
    (hF0 : StFG lo F0 G0) (hA0 : AllR E lo w.drew L (Array.replicate l.toArray.size false) F0 G0 w.drew)
    (h : lexR P .any l.toArray E w.drew L (spR sp) (wpList P l.toArray (onlyN Q) ((pick l tl).map (·.2))) (pick l hd) a F0 G0) : (Code.region id l.toArray true).wp P Q a w := by
  have hL := okL_spec hLB
  have hsp' : ∀ j s, spR sp j = some s → s.Ok lo := fun j s hs => by obtain ⟨p, hp, rfl⟩ := spR_mem hs; exact hsp p hp
  simp only [ordB, Bool.and_eq_true, decide_eq_true_eq] at hB
  obtain ⟨⟨⟨⟨⟨hsel, hall⟩, hdis⟩, hlen⟩, hsink⟩, hord⟩ := hB
  have hcl0 : Closed .any l.toArray (Array.replicate l.toArray.size false) := fun k o _ hk => by
    exfalso
    rcases Nat.lt_or_ge k l.length with h | h
    · simp [h] at hk
    · simp [h] at hk
  refine wp_region_any hm (any_monoQ onlyN_le _ _ _ _ ?_)
  have sub : ∀ (ks : List Nat) (listed : Array Bool) (K : Array Bool → Bool), ordFrom .any l.toArray ks listed K = true → ∀ k ∈ ks, k < l.toArray.size := by
    intro ks
    induction ks with
    | nil => intro _ _ _ k hk; cases hk
    | cons x ks ih =>
      intro listed K hB k hk
      simp only [ordFrom, Bool.and_eq_true] at hB
      rcases List.mem_cons.1 hk with rfl | hk
      · have hr : k ∈ Region.ready .any l.toArray listed := by simpa using hB.1.1
        obtain ⟨_, o, ho, _⟩ := mem_ready.1 hr
        exact (Array.getElem?_eq_some_iff.1 ho).1
      · exact ih _ _ hB.2 k hk
  simp only [ordFrom] at hord
  have hsub := sub _ _ _ hord
  have hnt : ∀ t ∈ tl, ¬ ([] ++ hd).contains t = true := fun t ht => by
    have := List.all_eq_true.1 hdis t ht
    simp only [Bool.and_eq_true] at this
    simpa using this.1
  have HX := anyR_lex he (md := .any) (ops := l.toArray) (P := P) (w0 := w.drew) (l := l) (L := L) rfl (H := fun i => ([] ++ hd).contains i) (A := fun i => hd.contains i) (K := seqO .any l.toArray tl) (R := wpList P l.toArray (onlyN Q) ((pick l tl).map (·.2)))
    (fun listed' hcl' ⟨h', hG, hun⟩ t ht => by
      obtain ⟨_, ot, hot, _⟩ := mem_ready.1 ht
      have h1 := List.all_eq_true.1 hall t (List.mem_range.2 (Array.getElem?_eq_some_iff.1 hot).1)
      simp only [Bool.or_eq_true] at h1
      rcases h1 with h1 | h1
      · exact h1
      · have h2 := sinkAll_spec hcl' ht tl hd hsink (by simpa using h1) h' (by simpa using hG)
        rw [getD_both hun] at h2
        cases h2)
    (fun listed' hK' j hj => by
      cases tl with
      | nil => simp only [seqO, List.isEmpty_iff] at hK'; rw [hK'] at hj; cases hj
      | cons t tl =>
        simp only [seqO, Bool.and_eq_true, decide_eq_true_eq] at hK'
        rw [hK'.1] at hj
        have : j = t := by simpa using hj
        subst this
        simpa using hnt j List.mem_cons_self) hL hsp' hsel hd _ a F0 G0 (fun h hh => ⟨by simpa using hh, hsub h hh⟩) hcl0 hord h
  have := any_ofR he (Q := onlyN Q) (g := tl.length) (fun listed' a' F G W hZ hW => any_seqO rfl tl listed' a' W (fun t ht => by
    have := List.all_eq_true.1 hdis t ht
    simp only [Bool.and_eq_true, decide_eq_true_eq] at this
    exact this.2) hZ.1 (hZ.2 W hW.old fun n hn => hW.fact n (notC_live hn))) hL hsp' hd.length _ a F0 G0 w.drew (by simp) hF0 hA0 HX
  rw [show hd.length + tl.length = l.toArray.size by simp at hlen ⊢; omega] at this
  exact this
theorem env_ext (w0 : World) : EnvR Ext (fun i => w0.heap.size ≤ i) w0 := ⟨Ext.refl _, fun W W' S h hc hS => h.chg hc hS, fun W i h hi => Nat.le_trans h.size hi⟩
/-- .. in which nothing old is written but by its tail. -/
theorem wp_region_r {id : Nat} {a : Act} {w : World} {l : List Oper} (hd tl : List Nat) (L : List (Nat × Nat)) (sp : List (Nat × LooseR)) (hm : P.follows .mixedOrders = true) (hB : ordB .any l.toArray [] hd tl = true) (hLB : okL .any l.toArray L = true) (hsp : ∀ p ∈ sp, p.2.Ok fun i => w.drew.heap.size ≤ i)
    (h : lexR P .any l.toArray Ext w.drew L (spR sp) (wpList P l.toArray (onlyN Q) ((pick l tl).map (·.2))) (pick l hd) a (fun _ _ => True) (fun _ _ => False)) : (Code.region id l.toArray true).wp P Q a w :=
  wp_region_rE hd tl Ext _ L sp _ _ (env_ext _) hm hB hLB hsp (fun _ _ _ _ _ _ _ _ => trivial) ⟨Ext.refl _, fun _ _ => trivial, fun _ _ h => h.elim, fun _ _ _ _ _ _ h => h.elim⟩ h
theorem env_chg (f0 : Nat → Prop) (w0 : World) : EnvR (Chg f0) (fun i => f0 i ∨ w0.heap.size ≤ i) w0 :=
  ⟨Chg.refl _ _, fun W W' S h hc hS => ⟨hc.os.trans h.os, hc.tape.trans h.tape, hc.output.trans h.output, Nat.le_trans h.size hc.size, fun i hi hn => by
    rw [hc.block i (Nat.lt_of_lt_of_le hi h.size) fun k => (hS i k).elim hn fun k => by omega, h.block i hi hn]⟩, fun W i h hi => .inr (Nat.le_trans h.size hi)⟩
/-- .. in which an object that was there ahead (out of blocks f0, known by I) is taken over too, under number N. -/
theorem wp_region_rw {id : Nat} {a : Act} {w : World} {l : List Oper} (hd tl : List Nat) (f0 : Nat → Prop) (N : Nat) (s0 : LooseR) (v0 : Value) (L : List (Nat × Nat)) (sp : List (Nat × LooseR)) (hm : P.follows .mixedOrders = true) (hB : ordB .any l.toArray [] hd tl = true) (hLB : okL .any l.toArray L = true) (hsp : ∀ p ∈ sp, p.2.Ok fun i => f0 i ∨ w.drew.heap.size ≤ i)
    (hs0 : s0.Ok fun i => f0 i ∨ w.drew.heap.size ≤ i) (hI : s0.R v0 f0 w.drew) (hlt : ∀ i, f0 i → i < w.heap.size)
    (h : lexR P .any l.toArray (Chg f0) w.drew L (spR sp) (wpList P l.toArray (onlyN Q) ((pick l tl).map (·.2))) (pick l hd) a (upd (fun _ _ => True) N (s0.R v0 f0)) (updG (fun _ _ => False) N f0)) : (Code.region id l.toArray true).wp P Q a w := by
  have hst : StFG (fun i => f0 i ∨ w.drew.heap.size ≤ i) (fun _ _ => True) (fun _ _ => False) := fun _ _ _ _ _ _ _ _ => trivial
  refine wp_region_rE hd tl (Chg f0) _ L sp _ _ (env_chg f0 _) hm hB hLB hsp (hst.upd hs0 v0 f0) ⟨Chg.refl _ _, fun n _ => ⟨trivial, fun _ => hI⟩, fun n i hg => ?_, fun n m i _ _ hnm hg hg2 => ?_⟩ h
  · rcases hg with hg | ⟨_, hg⟩
    · exact hg.elim
    · exact ⟨.inl hg, hlt i hg⟩
  · rcases hg with hg | ⟨e1, _⟩
    · exact hg.elim
    · rcases hg2 with hg2 | ⟨e2, _⟩
      · exact hg2.elim
      · exact hnm (e1.trans e2.symm)
variable {R : Act → World → Prop} {F : Nat → World → Prop} {G : Nat → Nat → Prop} {a : Act} {o : Oper} {rest : List (Nat × Oper)} {k : Nat}
theorem lexR_nil (h : ∀ W, E w0 W → (∀ n, notC L n = true → F n W) → R a W) : lexR P md ops E w0 L sp R [] a F G := h
theorem lexR_skip (hw : Region.wanted o (yielded ops a.tmps) = false) (h : lexR P md ops E w0 L sp R rest (a.put o.dst undef) F G) : lexR P md ops E w0 L sp R ((k, o) :: rest) a F G := by
  unfold lexR stepR
  rw [if_neg (by rw [hw]; exact Bool.false_ne_true)]
  exact h
theorem lexR_still (hw : Region.wanted o (yielded ops a.tmps) = true) (hs : sp k = none) (h : ∃ v, (∀ W, E w0 W → (execOp a.eval o).run P W = .ok (.value v) W) ∧ lexR P md ops E w0 L sp R rest (a.put o.dst v) F G) : lexR P md ops E w0 L sp R ((k, o) :: rest) a F G := by
  unfold lexR stepR
  rw [if_pos hw]
  simp only [hs]
  exact h
theorem lexR_loose (hw : Region.wanted o (yielded ops a.tmps) = true) {s : LooseR} (hs : sp k = some s) (hv : ∀ W, ClsR md ops E w0 L k F W → ApR md ops L k G → looseR P (CF L k G) W s ((execOp a.eval o).run P W))
    (h : ∀ v f, s.T v → lexR P md ops E w0 L sp R rest (a.put o.dst v) (upd F k (s.R v f)) (updG G k f)) : lexR P md ops E w0 L sp R ((k, o) :: rest) a F G := by
  unfold lexR stepR
  rw [if_pos hw]
  simp only [hs]
  exact ⟨hv, h⟩
end
/-- A row of whatever cells, newer than w0. -/
def rowR (w0 : World) (T : TypeId) (size n : Nat) (vs : List Value) : LooseR := ⟨fun v => ∃ A c, v = .slice A n c, fun v f W => ∀ A c, v = .slice A n c → New w0 W T size A n c vs ∧ ∀ i, v.ownBlock = some i → f i⟩
theorem own_ltB {w : World} {S : Nat → Prop} {e : TypeId} {size n : Nat} {v : Value} {xs : List Value} (h : Own w S e size v n xs) {i : Nat} (hi : v.ownBlock = some i) : i < w.heap.size := (h.row.lt i hi).2
theorem rowR_ok {lo : Nat → Prop} {w0 : World} {T : TypeId} {size n : Nat} {vs : List Value} : (rowR w0 T size n vs).Ok lo :=
  ⟨⟨.slice none n 0, none, 0, rfl⟩, fun v f W W' S hr hc hf _ A c e => ⟨Own.keep (hr A c e).1 fun g hg => hc.block g (own_ltB (hr A c e).1 hg) (hf g ((hr A c e).2 g (by rw [e]; exact hg))), (hr A c e).2⟩⟩
theorem ok_nilR {lo : Nat → Prop} : ∀ p ∈ ([] : List (Nat × LooseR)), p.2.Ok lo := fun p hp => by cases hp
theorem ok_consR {lo : Nat → Prop} {k : Nat} {s : LooseR} {l : List (Nat × LooseR)} (h : s.Ok lo) (hl : ∀ p ∈ l, p.2.Ok lo) : ∀ p ∈ (k, s) :: l, p.2.Ok lo := fun p hp => by
  rcases List.mem_cons.1 hp with rfl | hp
  · exact h
  · exact hl p hp
/-- A literal's row. -/
theorem own_lit {w : World} {T : TypeId} {cs : Array Value} {size n : Nat} (hs : cs.size = n * size) (hn : n ≤ maxLen) : New w (w.alloc (.cells cs T)) T size (some ⟨w.heap.size, 0, none⟩) n n cs.toList :=
  ⟨⟨by simpa using hs, .inr ⟨w.heap.size, n, cs, rfl, Nat.zero_le _, at_new _ _, Nat.le_refl _, hn, hs, by rw [List.take_of_length_le]; simp [hs]⟩⟩, fun k hk => by
    have hk : some w.heap.size = some k := hk
    cases hk
    exact Nat.le_refl _⟩
theorem own_cells {W : World} {S : Nat → Prop} {T : TypeId} {size n c : Nat} {A : Option Addr} {xs : List Value} (h : Own W S T size (.slice A n c) n xs) : ∀ ad, A = some ad → ∀ j u, xs[j]? = some u → W.cell? (ad.add j) = some u := fun ad ha j u hu => by
  obtain ⟨ad', h1, h2⟩ := Vec.own_cell h hu
  rw [ha] at h1
  cases h1
  exact h2
/-- A row that has been laid now. -/
theorem rowR_new {w0 W W' : World} {C : Nat → Prop} {T : TypeId} {size n c : Nat} {A : Option Addr} {vs : List Value} (h0 : w0.heap.size ≤ W.heap.size) (he : Ext W W') (h : New W W' T size A n c vs) :
    (rowR w0 T size n vs).T (.slice A n c) ∧ Chg C W W' ∧ ∃ f, (rowR w0 T size n vs).R (.slice A n c) f W' ∧ ∀ i, f i → (W.heap.size ≤ i ∧ i < W'.heap.size) ∨ C i :=
  ⟨⟨A, c, rfl⟩, Below.chg he, fun i => (Value.slice A n c).ownBlock = some i, fun A' c' e => by cases e; exact ⟨h.mono fun i _ hi => Nat.le_trans h0 hi, fun i hi => hi⟩, fun i hi => .inl ⟨h.foot i hi, own_ltB h hi⟩⟩
section
variable {P : Program}
/-- An append to a row that is taken over: of what a slice of whatever cells reads, nil or not. -/
theorem app_looseR {L : List (Nat × Nat)} {G : Nat → Nat → Prop} {k : Nat} {a : Act} {o : Oper} {w0 W : World} (s x : Operand) (t : TypeId)
    (ho : o.op = .call { callee := .builtin .append, args := #[s, x], argTypes := #[t, t] })
    (e : TypeId) (z : Value) (size bytes : Nat) (ht : P.underlying t = some (.slice e)) (hinfo : (P.info? e).map (fun i => (i.zero, i.size, i.bytes)) = some (some z, size, bytes)) (hzs : z.cells.size = size) (hsz : 0 < size) (hb0 : 0 < bytes)
    {v : Value} {n : Nat} {xs : List Value} (hs : a.eval s = v) (hown : Own W (fun i => w0.heap.size ≤ i) e size v n xs) (hcf : ∀ i, v.ownBlock = some i → CF L k G i) {A : Option Addr} {m c : Nat} {vs : List Value} (hx : a.eval x = .slice A m c) (hl : vs.length = m * size) (hA : A = none → m = 0) (hc : ∀ ad, A = some ad → ∀ j u, vs[j]? = some u → W.cell? (ad.add j) = some u) (h1 : ∀ u ∈ vs, u.oneCell' = true)
    (hbytes : (n + m) * bytes ≤ 140737488355328) (h0 : w0.heap.size ≤ W.heap.size) {N : Nat} (hN : n + m = N) {ys : List Value} (hys : xs ++ vs = ys) : looseR P (CF L k G) W (rowR w0 e size N ys) ((execOp a.eval o).run P W) := by
  subst hN
  subst hys
  obtain ⟨i, hi, hz, hsize, hby⟩ := info_parts hinfo
  have hlen : n + m ≤ 140737488355328 := Nat.le_trans (Nat.le_mul_of_pos_right _ hb0) hbytes
  have key : ∃ v' w', (Builtin.append_ #[t, t] o.type #[v, .slice A m c]).run P W = .ok v' w' ∧ w'.ownsRow 0 e size v' (n + m) (xs ++ vs) ∧ W.grownBy w' v.ownBlock ∧ (v'.ownBlock = v.ownBlock ∨ v'.ownBlock = some W.heap.size) := by
    rcases A with _ | ad
    · have h0 := hA rfl
      subst h0
      obtain rfl : vs = [] := List.eq_nil_of_length_eq_zero (by simpa using hl)
      refine ⟨v, W, ?_, by simpa using hown.row, World.grownBy.refl W _, .inl rfl⟩
      rcases hown.row.2 with ⟨rfl, rfl⟩ | ⟨g, cap, cur, rfl, _, _, hnc, _⟩
      · simp [Builtin.append_, run_underlying ht, sizeOf, typeInfo, hi, Builtin.lenOf, Builtin.firstCells]
      · simp [Builtin.append_, run_underlying ht, sizeOf, typeInfo, hi, Builtin.lenOf, Builtin.firstCells, hnc, storeCells]
    · obtain ⟨v', w', hrun, h2, h3, _, h5⟩ := run_append_own_at (P := P) W 0 t o.type e i z size bytes ht hi hz hsize hby hzs hsz v n xs hown.row ad m c vs hl (hc ad rfl) h1 (by simp only [maxLen]; omega) hbytes (Nat.zero_le _)
      exact ⟨v', w', hrun, h2, h3, h5⟩
  obtain ⟨v', w', hrun, h2, h3, h5⟩ := key
  obtain ⟨A', c', rfl⟩ := own_slice h2
  have hchg : Chg (fun i => v.ownBlock = some i) W w' := (Chg.refl _ _).grown h3 fun k hk => hk
  have hfoot : ∀ k, (Value.slice A' (n + m) c').ownBlock = some k → w0.heap.size ≤ k := fun k hk => by
    rcases h5 with h5 | h5
    · exact hown.foot k (by rw [← h5]; exact hk)
    · rw [h5] at hk
      cases hk
      exact h0
  have hnew : Own w' (fun i => w0.heap.size ≤ i) e size (.slice A' (n + m) c') (n + m) (xs ++ vs) := ⟨h2, hfoot⟩
  unfold execOp
  simp only [ho, resolve, invoke, builtin, Sem.run_bind, Sem.run_pure, Result.andThen_ok, List.map_toArray, List.map_cons, List.map_nil, hs, hx, hrun, looseR]
  refine ⟨⟨A', c', rfl⟩, hchg.mono fun i _ hi => hcf i hi, fun i => (Value.slice A' (n + m) c').ownBlock = some i, fun A2 c2 e2 => by cases e2; exact ⟨hnew, fun i hi => hi⟩, fun k hk => ?_⟩
  rcases h5 with h5 | h5
  · exact .inr (hcf k (by rw [← h5]; exact hk))
  · refine .inl ⟨?_, own_ltB hnew hk⟩
    have hk' : (Value.slice A' (n + m) c').ownBlock = some k := hk
    rw [h5] at hk'
    cases hk'
    exact Nat.le_refl _
end
end Go.Proofs.Ytipmkddcdnbihaa.Lex
