/- Plain facts: what a diary's bytes say behind a crash: no program in sight. -/
import Derived.Test.YtfhgjopoohfhjaaDiaryP
import Derived.Test.YtfhgjopoohfhjaaTapeP
import Derived.Test.YtfhgjopoohfhjaaFlip
namespace Go.Proofs.Ytfhgjopoohfhjaa.DiaryKeepsP
open Frm hiding frame frame_length
open DiaryP
open TapeP (turn crash kept)
/-- The frames of records, numbered from j + 1 on. -/
def frames : Nat → List (List Int) → List Int
  | _, [] => []
  | j, r :: rs => frame ((j : Int) + 1) r ++ frames (j + 1) rs
def items : Nat → Int → List (List Int) → List It
  | _, _, [] => []
  | j, p, r :: rs => (p, 2, Le.le 8 ((j : Int) + 1) ++ r) :: items (j + 1) (p + 20 + r.length) rs
def Fine (r : List Int) : Prop := Le.U8s r ∧ r.length ≤ 60000
theorem load_u8 {r : List Int} (h : Fine r) (n : Int) : Le.U8s (Le.le 8 n ++ r) := fun x hx => (List.mem_append.1 hx).elim (Le.le_u8 8 n x) (h.1 x)
theorem load_length (r : List Int) (n : Int) : (Le.le 8 n ++ r).length = 8 + r.length := by rw [List.length_append, Le.le_length]
theorem scan_frames : ∀ (rs : List (List Int)) (j f : Nat) (p : Int) (T : List Int), (∀ r ∈ rs, Fine r) → ¬ (form T ∧ good T) → (frames j rs ++ T).length ≤ f →
    scan f p (frames j rs ++ T) = items j p rs ∧ used f p (frames j rs ++ T) = p + (frames j rs).length
  | [], j, f, p, T, _, hT, _ => by
    have := scan_stop (f := f) (p := p) hT
    simp only [frames, List.nil_append, items, List.length_nil]
    exact ⟨this.1, by rw [this.2]; omega⟩
  | r :: rs, j, f, p, T, hr, hT, hl => by
    have hf := hr r List.mem_cons_self
    have hlen := load_length r ((j : Int) + 1)
    have hxl := frame_length ((j : Int) + 1) r
    obtain ⟨o1, o2, o3, o4, o5⟩ := open_frame 2 (Le.le 8 ((j : Int) + 1) ++ r) (frames (j + 1) rs ++ T) (by omega) (by omega) (load_u8 hf _) (by have := hf.2; omega)
    have e : frames j (r :: rs) ++ T = Frm.frame 2 (Le.le 8 ((j : Int) + 1) ++ r) ++ (frames (j + 1) rs ++ T) := by simp [frames, frame]
    rw [e] at hl ⊢
    obtain ⟨g, rfl, s1, s2, s3⟩ := scan_go (p := p) ⟨o1, o2⟩ hl
    have hn : (nOf (Frm.frame 2 (Le.le 8 ((j : Int) + 1) ++ r) ++ (frames (j + 1) rs ++ T))).toNat = 8 + r.length := by rw [o4, hlen]; omega
    have hd : (Frm.frame 2 (Le.le 8 ((j : Int) + 1) ++ r) ++ (frames (j + 1) rs ++ T)).drop (12 + (8 + r.length)) = frames (j + 1) rs ++ T := drop_app (by have h3 : (Frm.frame 2 (Le.le 8 ((j : Int) + 1) ++ r)).length = 20 + r.length := hxl; omega)
    rw [hn, hd] at s1 s2 s3
    rw [o4, hlen] at s1 s2
    have ih := scan_frames rs (j + 1) g (p + 12 + ((8 + r.length : Nat) : Int)) T (fun x hx => hr x (List.mem_cons_of_mem _ hx)) hT s3
    rw [s1, s2, ih.1, ih.2, o3, o5]
    have hp : p + 12 + ((8 + r.length : Nat) : Int) = p + 20 + r.length := by omega
    rw [hp]
    refine ⟨rfl, ?_⟩
    simp only [frames, List.length_append, hxl]
    omega
theorem recs_items : ∀ (rs : List (List Int)) (j : Nat) (p u : Int), (∀ r ∈ rs, Fine r) → j + rs.length < 4294967296 → recs (items j p rs) j u = (rs, u)
  | [], _, _, _, _, _ => rfl
  | r :: rs, j, p, u, hr, hj => by
    have hf := hr r List.mem_cons_self
    have hlen := load_length r ((j : Int) + 1)
    simp only [List.length_cons] at hj
    have ih := recs_items rs (j + 1) (p + 20 + r.length) u (fun x hx => hr x (List.mem_cons_of_mem _ hx)) (by omega)
    simp only [items, recs]
    have ht : (Le.le 8 ((j : Int) + 1) ++ r).take 8 = Le.le 8 ((j : Int) + 1) := take_app (Le.le_length _ _)
    have hd : (Le.le 8 ((j : Int) + 1) ++ r).drop 8 = r := drop_app (Le.le_length _ _)
    rw [if_pos ⟨rfl, by dsimp only; omega, by have := hf.2; dsimp only; omega, by dsimp only; rw [ht, Le.of_le_lt _ _ (by omega) (by omega)]⟩, ih, hd]
/-- Frames, and behind them something that is none. -/
theorem records_frames (rs : List (List Int)) (T : List Int) (hr : ∀ r ∈ rs, Fine r) (hT : ¬ (form T ∧ good T)) (hn : rs.length < 4294967296) : records (frames 0 rs ++ T) = (rs, ((frames 0 rs).length : Int)) := by
  obtain ⟨h1, h2⟩ := scan_frames rs 0 (frames 0 rs ++ T).length 0 T hr hT (Nat.le_refl _)
  unfold records
  rw [h1, h2, recs_items rs 0 0 _ hr (by omega), Int.zero_add]
theorem frames_append (a b : List (List Int)) : ∀ j, frames j (a ++ b) = frames j a ++ frames (j + a.length) b := by
  induction a with
  | nil => intro j; simp [frames]
  | cons r a ih => intro j; simp only [List.cons_append, frames, ih (j + 1), List.length_cons, List.append_assoc]; rw [show j + 1 + a.length = j + (a.length + 1) by omega]
theorem len_succ {rs : List (List Int)} {q : Nat} {r : List Int} (h : rs[q]? = some r) : (frames 0 (rs.take (q + 1))).length = (frames 0 (rs.take q)).length + (20 + r.length) := by
  have hq := List.getElem?_eq_some_iff.1 h
  rw [List.take_succ_eq_append_getElem hq.1, hq.2, frames_append, List.length_append]
  simp only [frames, List.append_nil]
  rw [frame_length]
theorem len_mono {rs : List (List Int)} {a b : Nat} (h : a ≤ b) : (frames 0 (rs.take a)).length ≤ (frames 0 (rs.take b)).length := by
  have e : rs.take b = rs.take a ++ (rs.take b).drop a := by
    have := List.take_append_drop a (rs.take b)
    rw [List.take_take, Nat.min_eq_left h] at this
    exact this.symm
  rw [e, frames_append, List.length_append]
  omega
theorem take_frames : ∀ (rs : List (List Int)) (j N : Nat), N ≤ (frames j rs).length → ∃ (q : Nat) (T : List Int), q ≤ rs.length ∧ (frames j rs).take N = frames j (rs.take q) ++ T ∧ (T = [] ∨ ∃ r t, rs[q]? = some r ∧ T = (frame (((j + q : Nat) : Int) + 1) r).take t ∧ 0 < t ∧ t < 20 + r.length)
  | [], j, N, h => ⟨0, [], Nat.le_refl _, by simp [frames], .inl rfl⟩
  | r :: rs, j, N, h => by
    have hl := frame_length ((j : Int) + 1) r
    by_cases h0 : N = 0
    · subst h0
      exact ⟨0, [], Nat.zero_le _, by simp [frames], .inl rfl⟩
    · by_cases hN : N < 20 + r.length
      · refine ⟨0, (frame ((j : Int) + 1) r).take N, Nat.zero_le _, ?_, .inr ⟨r, N, rfl, by simp, by omega, hN⟩⟩
        simp only [frames, List.take_zero, List.nil_append]
        rw [List.take_append_of_le_length (by omega)]
      · have hN2 : N - (20 + r.length) ≤ (frames (j + 1) rs).length := by
          simp only [frames, List.length_append, hl] at h
          omega
        obtain ⟨q, T, h1, h2, h3⟩ := take_frames rs (j + 1) (N - (20 + r.length)) hN2
        refine ⟨q + 1, T, by simp; omega, ?_, ?_⟩
        · simp only [frames, List.take_succ_cons, List.append_assoc]
          rw [← h2, List.take_append, hl, List.take_of_length_le (by omega)]
        · rcases h3 with h3 | ⟨r2, t, h4, h5, h6, h7⟩
          · exact .inl h3
          · exact .inr ⟨r2, t, by simpa using h4, by rw [h5, show j + 1 + q = j + (q + 1) by omega], h6, h7⟩
theorem turn_append (P T : List Int) (bits : Int) (h : T ≠ []) : turn (P ++ T) bits = P ++ turn T bits := by
  have hT : 0 < T.length := List.length_pos_iff.2 h
  have e : (P ++ T).length - 1 = P.length + (T.length - 1) := by rw [List.length_append]; omega
  unfold turn
  rw [e, List.set_append_right _ _ (by omega), List.getD_eq_getElem?_getD, List.getElem?_append_right (by omega), List.getD_eq_getElem?_getD]
  simp
theorem torn_form {n : Int} {r : List Int} (hr : Fine r) {t : Nat} (h1 : t < 20 + r.length) (bits : Int) : ¬ form (turn ((frame n r).take t) bits) := by
  intro hf
  have hl := frame_length n r
  have hb := load_length r n
  have htl : (turn ((frame n r).take t) bits).length = t := by rw [TapeP.turn_length, List.length_take]; omega
  have h12 := hf.1
  have hn := hf.2.2.2
  rw [htl] at h12 hn
  have e8 : (turn ((frame n r).take t) bits).take 8 = (frame n r).take 8 := by
    unfold turn
    rw [List.take_set_of_le (by rw [List.length_take]; omega), List.take_take, Nat.min_eq_left (by omega)]
  have en : ∀ xs : List Int, nOf xs = Le.of ((xs.take 8).drop 4) := fun xs => by
    unfold nOf
    rw [List.drop_take]
  obtain ⟨_, _, _, o4, _⟩ := open_frame 2 (Le.le 8 n ++ r) [] (by omega) (by omega) (load_u8 hr n) (by have := hr.2; omega)
  rw [List.append_nil] at o4
  have o4' : nOf (frame n r) = ((Le.le 8 n ++ r).length : Int) := o4
  rw [en, e8, ← en, o4', hb] at hn
  omega
theorem bits_zero {b : List Int} (h : Le.U8s b) : turn b 0 = b := by
  unfold turn
  rcases Nat.eq_zero_or_pos b.length with h0 | h0
  · rw [List.eq_nil_of_length_eq_zero h0]; rfl
  · have hi : b.length - 1 < b.length := by omega
    have hx := h b[b.length - 1] (List.getElem_mem hi)
    rw [List.getD_eq_getElem?_getD, List.getElem?_eq_getElem hi]
    show b.set (b.length - 1) (Go.bits .xor .u8 b[b.length - 1] 0) = b
    obtain ⟨x, hX⟩ := Int.eq_ofNat_of_zero_le hx.1
    have : Go.bits .xor .u8 b[b.length - 1] 0 = b[b.length - 1] := by
      rw [hX]
      have := u8_xor_nat x 0 (by omega) (by omega)
      simpa using this
    rw [this, List.set_getElem_self]
/-- A whole frame, bits of its last byte turned: as it was, or not good. -/
theorem turned {n : Int} {r : List Int} (hr : Fine r) {bits : Int} (h0 : 0 ≤ bits) (h1 : bits < 256) : turn (frame n r) bits = frame n r ∨ ¬ good (turn (frame n r) bits) := by
  obtain ⟨B, rfl⟩ := Int.eq_ofNat_of_zero_le h0
  by_cases hB : B = 0
  · subst hB
    exact .inl (bits_zero (Frm.frame_u8 2 _ (load_u8 hr n)))
  · right
    have hb := load_u8 hr n
    have hl := load_length r n
    obtain ⟨e1, e2⟩ := Flip.nat_list (Le.le 8 n ++ r) hb
    obtain ⟨l, hL⟩ : ∃ l, l = (Le.le 8 n ++ r).map Int.toNat := ⟨_, rfl⟩
    rw [← hL] at e1 e2
    have hll : l.length = 8 + r.length := by rw [hL, List.length_map, hl]
    have hE : Flip.Ok l (8 * l.length - 32) (B <<< 24) 32 ((List.replicate l.length 0).set (l.length - 1) ((List.replicate l.length 0).getD (l.length - 1) 0 ^^^ B)) := by
      have hg : (List.replicate l.length 0).getD (l.length - 1) 0 = 0 := by
        rw [List.getD_eq_getElem?_getD, List.getElem?_replicate]
        split <;> rfl
      rw [hg, Nat.zero_xor]
      refine ⟨by simp, fun c hc => ?_, fun t ht => ?_⟩
      · rcases List.mem_or_eq_of_mem_set hc with h | h
        · rw [(List.mem_replicate.1 h).2]; omega
        · rw [h]; omega
      · by_cases h8 : t / 8 = l.length - 1
        · have hgt : ((List.replicate l.length 0).set (l.length - 1) B).getD (t / 8) 0 = B := by
            rw [h8, List.getD_eq_getElem?_getD, List.getElem?_set_self (by simp; omega)]; rfl
          rw [hgt, Nat.testBit_shiftLeft, decide_eq_true (show 8 * l.length - 32 ≤ t ∧ t < 8 * l.length - 32 + 32 by omega), decide_eq_true (show 24 ≤ t - (8 * l.length - 32) by omega), show t - (8 * l.length - 32) - 24 = t % 8 by omega]
          simp
        · have hgt : ((List.replicate l.length 0).set (l.length - 1) B).getD (t / 8) 0 = 0 := by
            rw [List.getD_eq_getElem?_getD, List.getElem?_set_ne (by omega), List.getElem?_replicate]
            split <;> rfl
          rw [hgt, Nat.testBit_shiftLeft, decide_eq_false (show ¬ 24 ≤ t - (8 * l.length - 32) by omega)]
          simp
    have hend := (Flip.ends 2 l _ e2 (8 * l.length - 32) (B <<< 24) hE (by rw [Nat.shiftLeft_eq]; omega) (by rw [Nat.shiftLeft_eq]; omega) (by omega) (by have := hr.2; omega)).2
    rw [e1, Flip.zip_set (by simp) (by omega), Flip.zip_zero, e1] at hend
    have ht : turn (frame n r) (B : Int) = head 2 l.length ++ Le.le 4 (Crc.sum (head 2 l.length ++ (Le.le 8 n ++ r))) ++ (Le.le 8 n ++ r).set (l.length - 1) (((l.getD (l.length - 1) 0 ^^^ (List.replicate l.length 0).getD (l.length - 1) 0) ^^^ B : Nat) : Int) := by
      have hfr : frame n r = (head 2 l.length ++ Le.le 4 (Crc.sum (head 2 l.length ++ (Le.le 8 n ++ r)))) ++ (Le.le 8 n ++ r) := by
        unfold frame Frm.frame
        rw [hl, hll]
      rw [hfr, turn_append _ _ _ (by intro h; have := congrArg List.length h; rw [hl] at this; simp at this)]
      congr 1
      unfold turn
      rw [hl, ← hll]
      congr 1
      have hg : (List.replicate l.length 0).getD (l.length - 1) 0 = 0 := by
        rw [List.getD_eq_getElem?_getD, List.getElem?_replicate]
        split <;> rfl
      have hi : l.length - 1 < l.length := by omega
      have hx : (Le.le 8 n ++ r).getD (l.length - 1) 0 = ((l.getD (l.length - 1) 0 : Nat) : Int) := by
        rw [← e1, List.getD_eq_getElem?_getD, List.getD_eq_getElem?_getD, List.getElem?_map, List.getElem?_eq_getElem hi]; rfl
      rw [hg, Nat.xor_zero, hx]
      exact u8_xor_nat _ _ (by rw [List.getD_eq_getElem?_getD, List.getElem?_eq_getElem hi]; exact e2 _ (List.getElem_mem hi)) (by omega)
    rw [ht]
    exact hend
/-- What is found behind a crash. -/
theorem keeps (rs : List (List Int)) (la : Nat) (hla : la ≤ rs.length) (hr : ∀ r ∈ rs, Fine r) (hn : rs.length < 4294967296) (keep bits : Int) (h0 : 0 ≤ bits) (h1 : bits < 256) :
    ∃ q, la ≤ q ∧ q ≤ rs.length ∧ (records (crash (frames 0 rs) (frames 0 (rs.take la)).length keep bits)).1 = rs.take q := by
  have hsub : ∀ q, ∀ r ∈ rs.take q, Fine r := fun q r h => hr r (List.mem_of_mem_take h)
  have hnf : ¬ (form [] ∧ good []) := fun h => by have := h.1.1; simp at this
  have done : ∀ (q : Nat) (T : List Int), q ≤ rs.length → ¬ (form T ∧ good T) → (records (frames 0 (rs.take q) ++ T)).1 = rs.take q := fun q T hq hT => by
    rw [records_frames _ T (hsub q) hT (by rw [List.length_take]; omega)]
  have hLl : (frames 0 (rs.take la)).length ≤ (frames 0 rs).length := by
    have := len_mono (rs := rs) hla
    rw [List.take_length] at this
    exact this
  have hk := TapeP.kept_le keep ((frames 0 rs).length - (frames 0 (rs.take la)).length)
  unfold crash
  generalize kept keep ((frames 0 rs).length - (frames 0 (rs.take la)).length) = k at *
  obtain ⟨q, T, hq, ht, hT⟩ := take_frames rs 0 ((frames 0 (rs.take la)).length + k) (by omega)
  have hlen : (frames 0 (rs.take la)).length + k = (frames 0 (rs.take q)).length + T.length := by
    have := congrArg List.length ht
    rw [List.length_take, List.length_append] at this
    omega
  have hge : la ≤ q := by
    rcases Nat.lt_or_ge q la with h | h
    · exfalso
      obtain ⟨r, hrq⟩ : ∃ r, rs[q]? = some r := ⟨_, List.getElem?_eq_getElem (by omega)⟩
      have e1 := len_succ hrq
      have e2 := len_mono (rs := rs) (show q + 1 ≤ la by omega)
      rcases hT with rfl | ⟨r2, t, e3, e4, e5, e6⟩
      · simp at hlen
        omega
      · rw [hrq] at e3
        cases e3
        have : T.length ≤ t := by rw [e4, List.length_take]; omega
        omega
    · exact h
  split
  · rename_i hk0
    rw [ht]
    rcases hT with rfl | ⟨r, t, e3, e4, e5, e6⟩
    · rw [List.append_nil]
      simp at hlen
      have hgt : la < q := by
        rcases Nat.lt_or_ge la q with h | h
        · exact h
        · have := len_mono (rs := rs) h
          omega
      obtain ⟨p, rfl⟩ : ∃ p, q = p + 1 := ⟨q - 1, by omega⟩
      obtain ⟨r, hrp⟩ : ∃ r, rs[p]? = some r := ⟨_, List.getElem?_eq_getElem (by omega)⟩
      have hp := List.getElem?_eq_some_iff.1 hrp
      have hfr := hr r (List.mem_of_getElem? hrp)
      have e : frames 0 (rs.take (p + 1)) = frames 0 (rs.take p) ++ frame (((p : Nat) : Int) + 1) r := by
        rw [List.take_succ_eq_append_getElem hp.1, hp.2, frames_append]
        simp only [frames, List.append_nil, List.length_take, Nat.zero_add]
        rw [Nat.min_eq_left (by omega)]
      rw [e, turn_append _ _ _ (by intro h; have := congrArg List.length h; rw [frame_length] at this; simp at this)]
      rcases turned (n := ((p : Nat) : Int) + 1) hfr h0 h1 with h | h
      · rw [h, ← e]
        refine ⟨p + 1, by omega, hq, ?_⟩
        have := done (p + 1) [] hq hnf
        rwa [List.append_nil] at this
      · exact ⟨p, by omega, by omega, done p _ (by omega) fun h2 => h h2.2⟩
    · have hne : T ≠ [] := by
        intro h
        rw [h] at e4
        have := congrArg List.length e4
        rw [List.length_take, frame_length] at this
        simp at this
        omega
      rw [turn_append _ _ _ hne]
      refine ⟨q, hge, hq, done q _ hq fun h => ?_⟩
      rw [e4] at h
      exact torn_form (hr r (List.mem_of_getElem? e3)) e6 bits h.1
  · rename_i hk0
    have : k = 0 := by omega
    subst this
    refine ⟨la, Nat.le_refl _, hla, ?_⟩
    have e : frames 0 rs = frames 0 (rs.take la) ++ frames (0 + (rs.take la).length) (rs.drop la) := by rw [← frames_append, List.take_append_drop]
    have e2 : (frames 0 rs).take ((frames 0 (rs.take la)).length + 0) = frames 0 (rs.take la) := by
      rw [e]
      rw [Nat.add_zero, List.take_left']
      rfl
    rw [e2]
    have := done la [] hla hnf
    rwa [List.append_nil] at this
end Go.Proofs.Ytfhgjopoohfhjaa.DiaryKeepsP
