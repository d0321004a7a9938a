import Derived.Test.YtfhgjopoohfhjaaDiaryLies
import Derived.Test.YtfhgjopoohfhjaaDiaryKeepsP
import Derived.Test.YtfhgjopoohfhjaaShape
import Derived.Deep.CutBlock
namespace Go.Proofs.Ytfhgjopoohfhjaa.DiaryKeepsW
open Go.RowKit Base Step Vec Diary
open DiaryP (records frame)
open DiaryRec (Rows2 info_b)
open DiaryRef (Reads)
open DiaryLies (Lies drecords_calls)
open DiaryAwake (awake_calls)
open DiaryKeepsP (frames Fine keeps)
open Shape (Sh Fs)
def rowS : Sh := .sl (.int .u8)
abbrev Row := Option Addr × Nat × Nat × List Int
def vals (l : List Row) : List Value := l.map fun r => .slice r.1 r.2.1 r.2.2.1
def texts (l : List Row) : List (List Int) := l.map fun r => r.2.2.2
/-- What an argument of rows reads as. -/
structure Arg (w : World) (A : Option Addr) (n c : Nat) (l : List Row) : Prop where
  len : l.length = n
  room : n ≤ 9223372036854775807
  nil : A = none → n = 0
  cell : ∀ ad, A = some ad → ∀ j u, (vals l)[j]? = some u → w.cell? (ad.add j) = some u
  rd : ∀ r ∈ l, Rd w .u8 r.1 r.2.1 r.2.2.2 ∧ r.2.1 ≤ r.2.2.1
theorem arg_of {w : World} {A : Option Addr} {n c : Nat} {l : List Row} (h : (Sh.sl rowS).ok w (A, n, c, l)) : Arg w A n c l := by
  obtain ⟨h1, h2, h3, h4, h5⟩ : l.length = n ∧ n ≤ c ∧ c ≤ maxLen ∧ (A = none → c = 0) ∧ ∀ i (x : Row), l[i]? = some x → rowS.ok w x ∧ ∃ ad, A = some ad ∧ ∀ j u, (rowS.cells x)[j]? = some u → w.cell? (ad.add (i * rowS.size + j)) = some u := h
  refine ⟨h1, by simp only [maxLen] at h3; omega, fun ha => by have := h4 ha; omega, fun ad ha j u hu => ?_, fun r hr => ?_⟩
  · unfold vals at hu
    rw [List.getElem?_map] at hu
    obtain ⟨x, hx, rfl⟩ := Option.map_eq_some_iff.1 hu
    obtain ⟨_, ad', ha', hc⟩ := h5 j x hx
    rw [ha] at ha'
    cases ha'
    have := hc 0 _ rfl
    have hsz : rowS.size = 1 := rfl
    rw [hsz, Nat.mul_one, Nat.add_zero] at this
    exact this
  · obtain ⟨i, hi⟩ := List.getElem?_of_mem hr
    obtain ⟨ho, _⟩ := h5 i r hi
    obtain ⟨B, m, d, x⟩ := r
    exact ⟨Shape.rd_of_ok (c := d) ho, ho.2.1⟩
theorem vals_one (l : List Row) : ∀ u ∈ vals l, u.oneCell' = true := by
  intro u hu
  obtain ⟨x, _, rfl⟩ := List.mem_map.1 hu
  rfl
/-- The state ahead of round k: la of the records are synced once k is past la. -/
structure J (w : World) (gt g : Nat) (AL : Option Addr) (xs : List (List Int)) (la k : Nat) (wr : World) (St Sd : Nat → Prop) : Prop where
  b : Both wr St Sd gt g (frames 0 (xs.take k)) (if k ≤ la then 0 else (frames 0 (xs.take la)).length) 100000 (xs.take k) (if k ≤ la then 0 else la)
  f : Fresh w (Or2 St Sd)
  e : Ext w wr
  l : Lies (Or2 St Sd) wr AL xs.length xs
  s : ∀ x ∈ xs.take k, x.length ≤ 300
theorem frames_le : ∀ (rs : List (List Int)) (j : Nat), (∀ r ∈ rs, r.length ≤ 300) → (frames j rs).length ≤ 320 * rs.length
  | [], _, _ => Nat.le_refl _
  | r :: rs, j, h => by
    have h1 := frames_le rs (j + 1) fun x hx => h x (List.mem_cons_of_mem _ hx)
    have h2 := h r List.mem_cons_self
    simp only [frames, List.length_append, DiaryP.frame_length, List.length_cons]
    omega
set_option maxRecDepth 100000 in
set_option maxHeartbeats 16000000 in
theorem walk (A : Option Addr) (n c : Nat) (l : List Row) (B : Option Addr) (m d : Nat) (lb : List Row) (keep bits : Int) (w : World) (ha : (Sh.sl rowS).ok w (A, n, c, l)) (hb : (Sh.sl rowS).ok w (B, m, d, lb)) (hk : (Lit.int .i64 keep).wf = true) (hbits : (Lit.int .u8 bits).wf = true) :
    Calls Try.prog 4 #[.slice A n c, .slice B m d, .int .i64 keep, .int .u8 bits] w fun e w' => e = .returned (.bool true) ∧ Ext w w' := by
  replace ha := arg_of ha
  replace hb := arg_of hb
  have hna := ha.room
  have hnb := hb.room
  have HK := Lib.hid hk
  have HB := Lib.hid hbits
  clear hk hbits
  go_enter Try.func4, Try.ntmps4
  go_wp2_with fail
  refine (awake_calls _).mono ?_
  rintro e w1 ⟨rfl, he1⟩
  by_cases h1 : 10 < n
  · go_wp2_with fail
    refine (awake_calls _).mono ?_
    rintro e w5 ⟨rfl, he5⟩
    go_wp2_with fail
    go_ret
    exact ⟨rfl, he1.trans he5⟩
  · by_cases h2 : 10 < m
    · go_wp2_with fail
      refine (awake_calls _).mono ?_
      rintro e w5 ⟨rfl, he5⟩
      go_wp2_with fail
      go_ret
      exact ⟨rfl, he1.trans he5⟩
    · have b1 : n ≤ 10 := by omega
      have b2 : m ≤ 10 := by omega
      clear h1 h2
      go_wp2_with fail
      refine (Tape.new_calls 100000 _ (by decide)).mono ?_
      rintro e w2 ⟨rfl, he2, ht2⟩
      have hmx : max (100000 : Int) 0 = 100000 := by decide
      rw [hmx] at ht2
      clear hmx
      go_wp2_with fail
      refine (open_calls _ _ _ _ _ _ ht2 (by simp)).mono ?_
      rintro e w3 ⟨g, St, Sd, rfl, hb3, hc3, hg3, hn3⟩
      rw [DiaryAwake.rec0] at hb3
      have he12 := he1.trans he2
      have hx3 : Ext w w3 := he12.chg hc3 fun i hi => by rw [hi]; exact he1.size
      have hfr3 : Fresh w (Or2 St Sd) := fun i hi => by
        rcases hi with hi | hi
        · rcases hg3 i hi with h | h
          · rw [h]; exact he1.size
          · exact Nat.le_trans he12.size h
        · exact Nat.le_trans he12.size (hn3 i hi)
      generalize w1.heap.size = gt at *
      replace hb3 : Both w3 St Sd gt g [] 0 100000 [] 0 := hb3
      clear hc3 hg3 hn3 ht2 he1 he2 he12
      go_wp2_with (at_builtin; refine wpList_appV _ rfl (.tmp 34) (.tmp 35) _ rfl (fun i => w3.heap.size ≤ i) 22 _ 1 24 Try.underlying25 info_b rfl (by decide) (by decide) (.slice (some ⟨w3.heap.size, 0, none⟩) 0 0) 0 [] rfl (own_empty (at_new w3 _) (Nat.le_refl _)) A n c (vals l) rfl (by simp [vals, ha.len]) ha.nil (fun ad hA j u hu => ((hx3.trans (Ext.new w3 _)).cell_ (ha.cell ad hA j u hu))) (vals_one l) ?c2 (fun i hi => Nat.le_trans (Ext.new w3 _).size hi) ?_)
      case c2 => omega
      intro A4 c4 w4 ho4 hc4
      have hx4 : Ext w3 w4 := (Ext.new w3 _).chg hc4 fun i hi => by simp [Value.ownBlock] at hi; omega
      try simp only [Nat.zero_add, List.nil_append] at ho4
      try simp only [Nat.zero_add]
      clear hc4
      go_wp2_with (at_builtin; refine wpList_appV _ rfl (.tmp 36) (.tmp 37) _ rfl (fun i => w3.heap.size ≤ i) 22 _ 1 24 Try.underlying25 info_b rfl (by decide) (by decide) (.slice A4 n c4) n (vals l) rfl ho4 B m d (vals lb) rfl (by simp [vals, hb.len]) hb.nil (fun ad hA j u hu => ((hx3.trans hx4).cell_ (hb.cell ad hA j u hu))) (vals_one lb) ?c2 (fun i hi => Nat.le_trans hx4.size hi) ?_)
      case c2 => omega
      intro AL cl w5 ho5 hc5
      have hx5 : Ext w3 w5 := hx4.chg hc5 fun i hi => ho4.foot i hi
      have hcap := ho5.cap.1
      obtain ⟨xs, hXS⟩ : ∃ xs : List (List Int), xs = texts l ++ texts lb := ⟨_, rfl⟩
      have hxl : xs.length = n + m := by rw [hXS, List.length_append]; simp [texts, ha.len, hb.len]
      have hlies : Lies (Or2 St Sd) w5 AL xs.length xs := by
        rw [hxl]
        refine ⟨hxl, by omega, fun i x hx => ?_⟩
        have hall : xs = texts (l ++ lb) := by rw [hXS]; simp [texts]
        rw [hall] at hx
        unfold texts at hx
        rw [List.getElem?_map] at hx
        obtain ⟨r, hr, rfl⟩ := Option.map_eq_some_iff.1 hx
        have hv : (vals l ++ vals lb)[i]? = some (.slice r.1 r.2.1 r.2.2.1) := by
          have : vals l ++ vals lb = vals (l ++ lb) := by simp [vals]
          rw [this]
          unfold vals
          rw [List.getElem?_map, hr]
          rfl
        obtain ⟨ad, hA, hcc⟩ := own_cell ho5 hv
        obtain ⟨hr1, hr2⟩ : Rd w .u8 r.1 r.2.1 r.2.2.2 ∧ r.2.1 ≤ r.2.2.1 := by
          rcases List.mem_append.1 (List.mem_of_getElem? hr) with h | h
          · exact ha.rd r h
          · exact hb.rd r h
        refine ⟨ad, r.1, r.2.1, r.2.2.1, hA, hcc, hr2, hr1.ext (hx3.trans hx5), fun hS => ?_, fun h0 b hb1 hS => ?_⟩
        · have h9 : w3.heap.size ≤ ad.block := ho5.foot _ (by rw [hA]; rfl)
          rcases hS with hS | hS
          · have := hb3.t.lt _ hS
            omega
          · have := hb3.d.lt _ hS
            omega
        · rw [hb1] at hr1
          have := hr1.lt h0
          have := hfr3 _ hS
          omega
      have HWF : Hid (∀ x ∈ xs, ∀ y ∈ x, (Lit.int .u8 y).wf = true) := Lib.hid fun x hx => by
        obtain ⟨i, hi⟩ := List.getElem?_of_mem hx
        obtain ⟨_, _, _, _, _, _, _, hrr, _⟩ := hlies.at_ i x hi
        exact hrr.wf
      obtain ⟨N, hN⟩ : ∃ N, n + m = N := ⟨_, rfl⟩
      rw [hN] at hcap hxl
      have hJ : J w gt g AL xs n 0 w5 St Sd := ⟨by
        have := hb3.ext hx5
        simpa [frames] using this, hfr3, hx3.trans hx5, hlies, by simp⟩
      have HJ := Lib.hid hJ
      try rw [hN]
      have hN20 : N ≤ 20 := by omega
      have hNn : n ≤ N := by omega
      have HN := Lib.hid hN
      clear hN hJ hlies hb3 hfr3 hx3 hx4 hx5 ho4 ho5 hc5 ha hb hXS
      have HXL := Lib.hid hxl
      go_wp2_with fail
      go_loopw [13] (fun i wr => ∃ (k : Nat) (St Sd : Nat → Prop), i = .int .i64 k ∧ k ≤ N ∧ J w gt g AL xs n k wr St Sd) (fun i _ => N - (intOf i).toNat)
      case atStart => exact ⟨0, St, Sd, rfl, Nat.zero_le _, HJ.out⟩
      case round =>
        clear HJ St Sd
        obtain ⟨k, St, Sd, rfl, hk, hJ⟩ := hrel
        by_cases hlt : k < N
        · obtain ⟨x, hx⟩ : ∃ x, xs[k]? = some x := ⟨_, List.getElem?_eq_getElem (by omega)⟩
          obtain ⟨ad, B1, m1, d1, rfl, x1, hmd, r1, o1, o2⟩ := hJ.l.at_ k x hx
          obtain rfl := r1.len
          have hxroom := r1.room
          have hkl : (xs.take k).length = k := by rw [List.length_take]; omega
          have HKL := Lib.hid hkl
          clear hkl
          by_cases h300 : 300 < x.length
          · have HX := Lib.hid hJ.e
            clear hJ hx
            go_wp2_with fail
            refine (awake_calls _).mono ?_
            rintro e w8 ⟨rfl, he8⟩
            go_wp2_with fail
            go_ret
            exact ⟨rfl, HX.out.trans he8⟩
          · have hx300 : x.length ≤ 300 := by omega
            have hfl := frames_le (xs.take k) 0 hJ.s
            rw [HKL.out] at hfl
            have HTK : Hid (xs.take (k + 1) = xs.take k ++ [x]) := Lib.hid (by
              have hq := List.getElem?_eq_some_iff.1 hx
              rw [List.take_succ_eq_append_getElem hq.1, hq.2])
            have HS : Hid (∀ y ∈ xs.take (k + 1), y.length ≤ 300) := Lib.hid (by
              rw [HTK.out]
              intro y hy
              rcases List.mem_append.1 hy with h | h
              · exact hJ.s y h
              · rw [List.mem_singleton.1 h]; exact hx300)
            have HXK := Lib.hid hx
            have hf := hJ.f
            by_cases hkn : k = n
            case' pos =>
              have hbb : Both wr St Sd gt g (frames 0 (xs.take k)) 0 100000 (xs.take k) 0 := by
                have := hJ.b
                rwa [if_pos (by omega), if_pos (by omega)] at this
              have heq : ((k : Int) == (n : Int)) = true := by simp [hkn]
              have HKN := Lib.hid hkn
              clear hkn
              have hE0 := Lib.hid hJ.e
              have hL0 := hJ.l
              have HR0 := Lib.hid r1
              have HO1 := Lib.hid o1
              have HO2 := Lib.hid o2
              clear hJ hx o1 o2 r1 h300
              go_wp2_with fail
              refine (sync_calls St Sd gt g _ _ _ _ _ _ hbb).mono ?_
              rintro e wr2 ⟨rfl, hb2, hc2⟩
              have hst2 : Step (Or2 St Sd) (Or2 St Sd) wr wr2 := ⟨hc2, fun _ h => .inl h⟩
              have hX := Lib.hid (hE0.out.chg hc2 hf)
              have hL := hL0.step hst2
              have hB : Both wr2 St Sd gt g (frames 0 (xs.take k)) (if k + 1 ≤ n then 0 else (frames 0 (xs.take n)).length) 100000 (xs.take k) (if k + 1 ≤ n then 0 else n) := by
                have hkn := HKN.out
                rw [if_neg (by omega), if_neg (by omega), ← hkn]
                rw [HKL.out] at hb2
                exact hb2
              have y1 := hc2.cell x1 (by rw [block_add]; exact HO1.out)
              have HR1 := Lib.hid (rd_step HR0.out HO2.out hst2)
              clear hbb hE0 hL0 hb2 hc2 hst2 x1 HR0 HO1
            case' neg =>
              have hB : Both wr St Sd gt g (frames 0 (xs.take k)) (if k + 1 ≤ n then 0 else (frames 0 (xs.take n)).length) 100000 (xs.take k) (if k + 1 ≤ n then 0 else n) := by
                have := hJ.b
                by_cases hkn2 : k ≤ n
                · rw [if_pos hkn2, if_pos hkn2] at this
                  rw [if_pos (by omega), if_pos (by omega)]
                  exact this
                · rw [if_neg hkn2, if_neg hkn2] at this
                  rw [if_neg (by omega), if_neg (by omega)]
                  exact this
              have hX := Lib.hid hJ.e
              have hL := hJ.l
              have hne : ((k : Int) == (n : Int)) = false := by simp; omega
              have HR1 := Lib.hid r1
              have HO2 := Lib.hid o2
              have y1 := x1
              clear hJ hx x1 o1 o2 r1 h300
            all_goals
              go_wp2_with fail
              refine (write_calls St Sd gt g _ _ _ _ _ _ hB B1 x.length d1 x HR1.out (fun h0 a ha hS => HO2.out h0 a ha (.inl hS)) (by omega) (by omega) (by rw [HKL.out]; omega) (by omega)).mono ?_
              rintro e w6 ⟨rfl, St6, Sd6, hb6, hs6⟩
              rw [HKL.out] at hb6
              have hff := fresh_step hX.out hf hs6
              have hJ6 : J w gt g (some ad) xs n (k + 1) w6 St6 Sd6 := by
                refine ⟨?_, hff.2, hff.1, hL.step hs6, HS.out⟩
                have e : frames 0 (xs.take (k + 1)) = frames 0 (xs.take k) ++ frame ((k : Int) + 1) x := by
                  rw [HTK.out, DiaryKeepsP.frames_append, HKL.out, Nat.zero_add]
                  simp only [frames, List.append_nil]
                rw [e, HTK.out]
                exact hb6
              clear hB hb6 hs6 hL y1
              go_wp2_with fail
              go_roundw
              case rel => exact ⟨k + 1, St6, Sd6, by go_num, by omega, hJ6⟩
              case measure => simp [intOf]; omega
        · have hkN : k = N := by omega
          subst hkN
          have htk : xs.take k = xs := List.take_of_length_le (by omega)
          have hbb := hJ.b
          rw [htk] at hbb
          have hs3 := hJ.s
          rw [htk] at hs3
          have HS3 := Lib.hid hs3
          have hfl := frames_le xs 0 hs3
          rw [hxl] at hfl
          have hf := hJ.f
          have hnm := HN.out
          clear htk hs3
          by_cases hm0 : m = 0
          case' pos =>
            have hbb0 : Both wr St Sd gt g (frames 0 xs) 0 100000 xs 0 := by rwa [if_pos (by omega), if_pos (by omega)] at hbb
            have heq : ((m : Int) == 0) = true := by simp [hm0]
            have hkn : k = n := by omega
            have HKN := Lib.hid hkn
            have hE0 := Lib.hid hJ.e
            have hL0 := hJ.l
            clear hm0 hkn hnm hbb hJ
            go_wp2_with fail
            refine (sync_calls St Sd gt g _ _ _ _ _ _ hbb0).mono ?_
            rintro e wr2 ⟨rfl, hb2, hc2⟩
            have hst2 : Step (Or2 St Sd) (Or2 St Sd) wr wr2 := ⟨hc2, fun _ h => .inl h⟩
            have hX := Lib.hid (hE0.out.chg hc2 hf)
            have hL := hL0.step hst2
            have hB : Both wr2 St Sd gt g (frames 0 xs) (frames 0 (xs.take n)).length 100000 xs n := by
              have hkn := HKN.out
              rw [hxl] at hb2
              rw [← hkn, List.take_of_length_le (by omega)]
              exact hb2
            clear hbb0 hE0 hL0 hb2 hc2 hst2 HKN
          case' neg =>
            have hB : Both wr St Sd gt g (frames 0 xs) (frames 0 (xs.take n)).length 100000 xs n := by rwa [if_neg (by omega), if_neg (by omega)] at hbb
            have heq : ((m : Int) == 0) = false := by simp; omega
            have hX := Lib.hid hJ.e
            have hL := hJ.l
            clear hm0 hnm hbb hJ
          all_goals
            have hcr := TapeP.kept_le keep ((frames 0 xs).length - (frames 0 (xs.take n)).length)
            have hsl := hB.t.safe_le
            have HCL := Lib.hid (TapeP.crash_length (frames 0 xs) (frames 0 (xs.take n)).length keep bits hsl)
            go_wp2_with fail
            refine (Tape.crash_calls St gt _ _ 100000 keep bits _ hB.t HK.out HB.out (by omega)).mono ?_
            rintro e w6 ⟨rfl, S6, ht6, hs6⟩
            have hff := fresh_step hX.out (fun i hi => hf i (.inl hi)) hs6
            have hL6 := (hL.mono (S' := St) fun i hi => .inl hi).step hs6
            generalize (((frames 0 xs).length - (frames 0 (xs.take n)).length : Nat) : Int) - _ = lost at *
            clear hs6 hB hL hX
            go_wp2_with fail
            refine (open_calls S6 gt _ _ _ _ ht6 (by rw [HCL.out]; omega)).mono ?_
            rintro e w7 ⟨g7, S7, Sd7, rfl, hb7, hc7, hg7, hn7⟩
            obtain ⟨hbits0, hbits1⟩ := wf_u8 HB.out
            obtain ⟨q, q1, q2, hq⟩ := keeps xs n (by omega) (fun r hr => ⟨fun y hy => wf_u8 (HWF.out r hr y hy), by have := HS3.out r hr; omega⟩) (by omega) keep bits hbits0 hbits1
            have hd7 := hb7.d
            rw [hq] at hd7
            have hL7 := hL6.step (Plus.step hc7)
            have hX7 := Lib.hid (hff.1.chg hc7 hff.2)
            rw [hxl] at q2
            have hql : (xs.take q).length = q := by rw [List.length_take]; omega
            have HQL := Lib.hid hql
            clear hb7 hc7 hg7 hn7 hq hL6 hff ht6 hbits0 hbits1 hql hcr hsl
            go_wp2_with fail
            refine (drecords_calls Sd7 g7 gt _ _ _ hd7 (by rw [HQL.out]; omega) (fun x hx => by have := HS3.out x (List.mem_of_mem_take hx); omega)).mono ?_
            rintro e w8 ⟨he8, A8, c8, rfl, hr8⟩
            rw [HQL.out] at hr8 ⊢
            have hL8 := (hL7.ext he8).take (k := q) (by omega)
            have hX8 := Lib.hid (hX7.out.trans he8)
            have i0 : (0 : Int) ≤ q := by omega
            have i1 : (q : Int) ≤ k := by omega
            have i2 : (q : Int) ≤ cl := by omega
            have i3 : (k : Int) ≤ cl := by omega
            have i4 : (n : Int) ≤ q := by omega
            clear hd7 hL7 he8
            go_wp2_with fail
            refine (DiaryRef.same_calls A8 q c8 AL cl (xs.take q) _ hr8.reads hL8.reads).mono ?_
            rintro e w9 ⟨rfl, he9⟩
            go_wp2_with fail
            refine (awake_calls _).mono ?_
            rintro e w10 ⟨rfl, he10⟩
            go_wp2_with fail
            go_ret
            exact ⟨rfl, (hX8.out.trans he9).trans he10⟩
end Go.Proofs.Ytfhgjopoohfhjaa.DiaryKeepsW
