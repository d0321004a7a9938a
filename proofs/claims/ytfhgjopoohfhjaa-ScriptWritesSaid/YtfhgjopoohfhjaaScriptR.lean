/- The document's reading of a line, walked: words, numbers. -/
import Derived.Test.YtfhgjopoohfhjaaScriptE
namespace Go.Proofs.Ytfhgjopoohfhjaa.Script
open Go.RowKit Base Step Vec
open ScriptP (L nm nameI kindOf Kind form formI digits digitsI numP numR chr cut St words)
/-- Words of a line of which so much of the first word is read. -/
def wordsW (p rest : L) : List L := match words rest with
  | [] => [p]
  | w :: ws => (p ++ w) :: ws
theorem words_ne : ∀ (l : L), words l ≠ []
  | [] => by simp [words]
  | c :: cs => by
    unfold words
    split
    · simp
    · split <;> simp
theorem wordsW_all (l : L) : words l = wordsW [] l := by
  unfold wordsW
  cases h : words l with
  | nil => exact absurd h (words_ne l)
  | cons w ws => rfl
theorem wordsW_end (p : L) : wordsW p [] = [p] := by simp [wordsW, words]
theorem wordsW_blank (p rest : L) : wordsW p (32 :: rest) = p :: words rest := by simp [wordsW, words]
theorem wordsW_more (p : L) {c : UInt8} (h : c ≠ 32) (rest : L) : wordsW p (c :: rest) = wordsW (p ++ [c]) rest := by
  unfold wordsW
  simp only [words, if_neg h]
  cases h : words rest with
  | nil => exact absurd h (words_ne rest)
  | cons w ws => simp
/-- A row of texts. -/
def strs (l : List L) : List Value := l.map fun x => .string (S x)
theorem strs_app (a : List L) (x : L) : strs a ++ [.string (S x)] = strs (a ++ [x]) := by simp [strs]
theorem infoS : (Try.prog.info? 9).map (fun i => (i.zero, i.size, i.bytes)) = some (some (.string { data := #[] }), 1, 16) := by kernel_rfl
set_option maxRecDepth 100000 in
set_option maxHeartbeats 4000000 in
theorem words_calls (t : ByteArray) (w : World) (ht : t.size ≤ 1000000) :
    Calls Try.prog 110 #[.string t] w fun e w' => ∃ A c, e = .returned (.slice A (words t.data.toList).length c) ∧ New w w' 9 1 A (words t.data.toList).length c (strs (words t.data.toList)) ∧ Ext w w' := by
  obtain ⟨l, hl⟩ : ∃ l, t.data.toList = l := ⟨_, rfl⟩
  have hsz : l.length = t.size := by rw [← hl]; simp
  have HL := Lib.hid hl
  have HSZ := Lib.hid hsz
  rw [hl]
  clear hl hsz
  go_enter Try.func110, Try.ntmps110
  go_wp2_with fail
  go_loopw [3, 4, 5] (fun out fr i wr => ∃ (j f : Nat) (done : List L) (A : Option Addr) (c : Nat), i = .int .i64 j ∧ fr = .int .i64 f ∧ out = .slice A done.length c ∧ done.length ≤ j ∧ Hid (New w wr 9 1 A done.length c (strs done)) ∧ Hid (Ext w wr) ∧
    ((j ≤ t.size ∧ f ≤ j ∧ Hid (words l = done ++ wordsW ((l.take j).drop f) (l.drop j))) ∨ (j = t.size + 1 ∧ f = t.size + 1 ∧ Hid (words l = done)))) (fun _ _ i _ => t.size + 1 - (intOf i).toNat)
  case atStart => exact ⟨0, 0, [], none, 0, rfl, rfl, rfl, Nat.le_refl _, Lib.hid (Own.nil _ _ _ _), Lib.hid (Ext.refl _), .inl ⟨Nat.zero_le _, Nat.le_refl _, Lib.hid (by simpa using wordsW_all l)⟩⟩
  case round =>
    obtain ⟨j, f, done, A, c, rfl, rfl, rfl, hdl, HO, HE, hst⟩ := hrel
    rcases hst with ⟨hj, hf, HW⟩ | ⟨rfl, rfl, HW⟩
    · have happ : ∀ (nx : L), nx = (l.take j).drop f → t.extract f j = S nx := fun nx e => by
        rw [ext_eq, HL.out, e, List.drop_take]
      obtain ⟨p, hp⟩ : ∃ p, (l.take j).drop f = p := ⟨_, rfl⟩
      have HX := Lib.hid (happ p hp.symm)
      rw [hp] at HW
      have HP := Lib.hid hp
      clear happ hp
      by_cases hend : j = t.size
      · subst hend
        have HF : Hid (words l = done ++ [p]) := Lib.hid (by rw [HW.out, List.drop_eq_nil_of_le (by rw [HSZ.out]; exact Nat.le_refl _), wordsW_end])
        clear HW
        go_wp2_with (at_builtin; refine wpList_moreE w wr rfl _ _ 186 rfl 9 (.string { data := #[] }) 1 16 Try.underlying186 infoS rfl (by decide) (by decide) (.slice A done.length c) done.length (strs done) rfl HO.out HE.out [.string (t.extract f t.size)] rfl (by simp [Value.oneCell']) rfl (by omega) ?_; intro A' c' w' ho' he' _; rw [HX.out] at ho')
        go_roundw
        case rel => exact ⟨t.size + 1, t.size + 1, done ++ [p], A', c', by go_num, by go_num, by simp, by simp; omega, Lib.hid (by simpa [strs] using ho'), Lib.hid he', .inr ⟨rfl, rfl, HF⟩⟩
        case measure => (simp [intOf]; try omega)
      · have hlt : j < t.size := by omega
        have hd : l.drop j = t[j] :: l.drop (j + 1) := by rw [← HL.out]; exact getD_byte hlt
        have htk : l.take (j + 1) = l.take j ++ [t[j]] := by rw [← HL.out]; exact take_byte hlt
        have HD := Lib.hid hd
        have HTK := Lib.hid htk
        clear hd htk
        by_cases hb : t[j] = 32
        · have hb' : ((t[j].toNat : Int) == 32) = true := by rw [hb]; rfl
          have HF : Hid (words l = (done ++ [p]) ++ wordsW ((l.take (j + 1)).drop (j + 1)) (l.drop (j + 1))) := Lib.hid (by
            rw [HW.out, HD.out, hb, wordsW_blank, show (l.take (j + 1)).drop (j + 1) = [] from List.drop_eq_nil_of_le (List.length_take_le _ _), ← wordsW_all]
            simp)
          clear HW HD
          go_wp2_with (at_builtin; refine wpList_moreE w wr rfl _ _ 186 rfl 9 (.string { data := #[] }) 1 16 Try.underlying186 infoS rfl (by decide) (by decide) (.slice A done.length c) done.length (strs done) rfl HO.out HE.out [.string (t.extract f j)] rfl (by simp [Value.oneCell']) rfl (by omega) ?_; intro A' c' w' ho' he' _; rw [HX.out] at ho')
          go_roundw
          case rel => exact ⟨j + 1, j + 1, done ++ [p], A', c', by go_num, by go_num, by simp, by simp; omega, Lib.hid (by simpa [strs] using ho'), Lib.hid he', .inl ⟨by omega, by omega, HF⟩⟩
          case measure => (simp [intOf]; try omega)
        · have hb' : ((t[j].toNat : Int) == 32) = false := by
            rw [beq_eq_false_iff_ne]
            intro h
            apply hb
            apply UInt8.toNat_inj.1
            have : (32 : UInt8).toNat = 32 := rfl
            omega
          have HF : Hid (words l = done ++ wordsW ((l.take (j + 1)).drop f) (l.drop (j + 1))) := Lib.hid (by
            rw [HW.out, HD.out, wordsW_more _ hb, HTK.out, List.drop_append_of_le_length (by rw [List.length_take, HSZ.out]; omega), HP.out])
          clear HW HD
          go_wp2_with fail
          go_roundw
          case rel => exact ⟨j + 1, f, done, A, c, by go_num, rfl, rfl, by omega, HO, HE, .inl ⟨by omega, by omega, HF⟩⟩
          case measure => (simp [intOf]; try omega)
    · go_wp2_with fail
      go_ret
      rw [HW.out]
      exact ⟨A, c, rfl, HO.out, HE.out⟩
/-- A slice of texts reads so. -/
structure RdS (w : World) (A : Option Addr) (n : Nat) (ws : List L) : Prop where
  len : ws.length = n
  cell : ∀ j x, ws[j]? = some x → ∃ ad, A = some ad ∧ w.cell? (ad.add j) = some (.string (S x))
theorem RdS.ext {w w' : World} {A : Option Addr} {n : Nat} {ws : List L} (h : RdS w A n ws) (he : Ext w w') : RdS w' A n ws :=
  ⟨h.len, fun j x hx => by
    obtain ⟨ad, e, hc⟩ := h.cell j x hx
    exact ⟨ad, e, (Base.Below.chg (S := fun _ => False) he).cell hc id⟩⟩
/-- Numbers of naught and more, as Go's. -/
def natI (l : List Nat) : List Int := l.map fun (n : Nat) => (n : Int)
theorem infoI : (Try.prog.info? 3).map (fun i => (i.zero, i.size, i.bytes)) = some (some (.int .i64 0), 1, 8) := by kernel_rfl
/-- What numbers of words come to. -/
def NumsPost (w : World) (e : Ending) (w' : World) (o : Option (List Nat)) : Prop := Ext w w' ∧ match o with
  | none => e = .returned (.tuple #[.slice none 0 0, .bool false])
  | some ns => ∃ A c, e = .returned (.tuple #[.slice A ns.length c, .bool true]) ∧ New w w' 3 1 A ns.length c (Base.nums .i64 (natI ns))
theorem nums_none : ∀ (a b : List L), ScriptP.nums b = none → ScriptP.nums (a ++ b) = none
  | [], b, h => h
  | x :: a, b, h => by
    simp only [List.cons_append, ScriptP.nums]
    rw [nums_none a b h]
    cases numR x <;> rfl
theorem nums_app : ∀ (a b : List L) (x y : List Nat), ScriptP.nums a = some x → ScriptP.nums b = some y → ScriptP.nums (a ++ b) = some (x ++ y)
  | [], b, x, y, h, k => by cases h; exact k
  | w :: a, b, x, y, h, k => by
    simp only [List.cons_append, ScriptP.nums] at h ⊢
    cases hn : numR w with
    | none => rw [hn] at h; cases h
    | some n =>
      rw [hn] at h
      cases hm : ScriptP.nums a with
      | none => rw [hm] at h; cases h
      | some ns =>
        rw [hm] at h
        cases h
        rw [nums_app a b ns y hm k]
        rfl
theorem numI_lt (l : L) : numI l ≤ 1073741824 := by
  rw [numI_eq]
  cases h : numR l with
  | none => decide
  | some n =>
    have := ((ScriptP.numR_iff l n).1 h).2.2.2.2
    unfold ScriptP.most at this
    show (n : Int) ≤ _
    omega
set_option maxRecDepth 100000 in
set_option maxHeartbeats 4000000 in
theorem nums_calls (A0 : Option Addr) (n0 c0 : Nat) (ws : List L) (w : World) (h : RdS w A0 n0 ws) (hn : n0 ≤ 2000000) (hsh : ∀ x ∈ ws, x.length ≤ 1000000) :
    Calls Try.prog 112 #[.slice A0 n0 c0] w fun e w' => NumsPost w e w' (ScriptP.nums ws) := by
  have HSH := Lib.hid hsh
  have HR := Lib.hid h
  clear hsh h
  go_enter Try.func112, Try.ntmps112
  go_wp2_with fail
  go_loopw [4, 5, 6] (fun out i _ wr => ∃ (j : Nat) (ns : List Nat) (A : Option Addr) (c : Nat), i = .int .i64 j ∧ out = .slice A j c ∧ j ≤ n0 ∧ Hid (ns.length = j) ∧ Hid (ScriptP.nums (ws.take j) = some ns) ∧ Hid (New w wr 3 1 A j c (Base.nums .i64 (natI ns))) ∧ Hid (Ext w wr)) (fun _ i _ _ => n0 - (intOf i).toNat)
  case atStart => exact ⟨0, [], none, 0, rfl, rfl, Nat.zero_le _, Lib.hid rfl, Lib.hid rfl, Lib.hid (Own.nil _ _ _ _), Lib.hid (Ext.refl _)⟩
  case round =>
    obtain ⟨j, ns, A, c, rfl, rfl, hj, HL, HN, HO, HE⟩ := hrel
    by_cases hlt : j < n0
    · obtain ⟨x, hx⟩ : ∃ x, ws[j]? = some x := ⟨_, List.getElem?_eq_getElem (by rw [HR.out.len]; exact hlt)⟩
      have HXX := Lib.hid hx
      have hxs := HSH.out x (List.mem_of_getElem? hx)
      obtain ⟨ad, rfl, hc⟩ := (HR.out.ext HE.out).cell j x hx
      have htk : ws.take (j + 1) = ws.take j ++ [x] := by simp [List.take_add_one, hx]
      have HTK := Lib.hid htk
      clear htk hx
      go_wp2_with fail
      refine (rnumber_calls (S x) _ (by simp [ByteArray.size]; omega)).mono ?_
      rintro e w' ⟨rfl, rfl⟩
      rw [show (S x).data.toList = x from rfl]
      cases hnr : numR x with
      | none =>
        have hv : numI x = -1 := by rw [numI_eq, hnr]
        have HF : Hid (ScriptP.nums ws = none) := Lib.hid (by
          rw [← List.take_append_drop j ws]
          refine nums_none _ _ ?_
          rw [List.drop_eq_getElem_cons (by rw [HR.out.len]; exact hlt)]
          have : ws[j]'(by rw [HR.out.len]; exact hlt) = x := by
            have := HXX.out
            rw [List.getElem?_eq_getElem (by rw [HR.out.len]; exact hlt)] at this
            exact Option.some.inj this
          simp only [ScriptP.nums, this, hnr])
        rw [hv]
        clear hv hnr
        go_wp2_with fail
        go_ret2
        refine ⟨HE.out, ?_⟩
        rw [HF.out]
        rfl
      | some v =>
        have hv : numI x = v := by rw [numI_eq, hnr]
        have hvl : v ≤ 1073741824 := by have := numI_lt x; omega
        have HF : Hid (ScriptP.nums (ws.take (j + 1)) = some (ns ++ [v])) := Lib.hid (by
          rw [HTK.out]
          refine nums_app _ _ _ _ HN.out ?_
          simp only [ScriptP.nums, hnr])
        rw [hv]
        clear hv hnr
        have hv0 : (0 : Int) ≤ v := by omega
        have HWF : Hid ((Lit.int .i64 (v : Int)).wf = true) := Lib.hid (by simp [Lit.wf, IntKind.min, IntKind.max, IntKind.bits, IntKind.signed]; omega)
        go_wp2_with (at_builtin; refine wpList_more1 w wr rfl _ _ 194 rfl 3 .i64 8 Try.underlying194 infoI (by decide) (.slice A j c) j (natI ns) rfl HO.out HE.out (v : Int) rfl HWF.out (by omega) ?_; intro A' c' w' ho' he')
        go_roundw
        case rel => exact ⟨j + 1, ns ++ [v], A', c', by go_num, rfl, by omega, Lib.hid (by rw [List.length_append, HL.out]; rfl), HF, Lib.hid (by simpa [natI] using ho'), Lib.hid he'⟩
        case measure => (simp [intOf]; try omega)
    · obtain rfl : j = n0 := by omega
      have HF : Hid (ScriptP.nums ws = some ns) := Lib.hid (by rw [← HN.out, List.take_of_length_le (by rw [HR.out.len]; exact Nat.le_refl _)])
      go_wp2_with fail
      go_ret2
      refine ⟨HE.out, ?_⟩
      rw [HF.out]
      exact ⟨A, c, by rw [HL.out]; rfl, by rw [HL.out]; exact HO.out⟩
end Go.Proofs.Ytfhgjopoohfhjaa.Script
