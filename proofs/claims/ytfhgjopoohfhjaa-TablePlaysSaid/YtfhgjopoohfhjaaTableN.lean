/- The law's operations, made the program's: places. -/
import Derived.Test.YtfhgjopoohfhjaaTableM
namespace Go.Proofs.Ytfhgjopoohfhjaa.Tbl
open Go.RowKit Base Step Vec Shape Erase
/-- A literal of one place. -/
def plcL (w0 : World) (p : plS.T) : Lex.Loose := ⟨fun v => ∃ g, v = .slice (some ⟨g, 0, none⟩) 1 1, fun v W => ∀ g, v = .slice (some ⟨g, 0, none⟩) 1 1 → W.heap[g]? = some (.cells #[.int .i64 (node p), .int .u32 (gen p)] 118 (0, 0))⟩
theorem plcL_st {w0 : World} {p : plS.T} : (plcL w0 p).St Ext := fun _ _ _ h he g e => he.at_ (h g e)
theorem infoPlc : (Try.prog.info? 118).map (fun i => (i.zero, i.size, i.bytes)) = some (some (.agg #[.int .i64 0, .int .u32 0]), 2, 16) := by kernel_rfl
theorem infoRw : (Try.prog.info? 218).map (fun i => (i.zero, i.size, i.bytes)) = some (some (.slice none 0 0), 1, 24) := by kernel_rfl
/-- Rows like others, in new blocks. -/
structure Made (w wr : World) (l done : List Row) (k : Nat) (O : Option Addr) (oc : Nat) : Prop where
  len : done.length = k
  prow : New w wr 218 1 O k oc (cellsL rowS done)
  alike : ∀ (i : Nat) (r r' : Row), l[i]? = some r → done[i]? = some r' → Alike r r' ∧ RowNew w wr r'
  ext : Ext w wr
theorem Made.extNew {w wr w2 : World} {l done : List Row} {k oc : Nat} {O : Option Addr} (h : Made w wr l done k O oc) (he : Ext wr w2) : Made w w2 l done k O oc := ⟨h.len, h.prow.extNew he, fun i r r' h1 h2 => ⟨(h.alike i r r' h1 h2).1, Own.extNew (h.alike i r r' h1 h2).2 he⟩, h.ext.trans he⟩
set_option maxRecDepth 100000 in
set_option maxHeartbeats 4000000 in
theorem places_calls (A : Option Addr) (n c : Nat) (l : List Row) (w : World) (h : (Sh.sl rowS).ok w (A, n, c, l)) (hn : n ≤ 1000) (hr : ∀ r ∈ l, rN r ≤ 8796093021952) :
    Calls Try.prog 129 #[.slice A n c] w fun e w' => ∃ A' c' l', e = .returned (.slice A' n c') ∧ Made w w' l l' n A' c' := by
  have hl := (sl_len h).1
  have hnc := (sl_len h).2.1
  have H := Lib.hid h
  have HL := Lib.hid hl
  have HR := Lib.hid hr
  clear h hl hr
  go_enter Try.func129, Try.ntmps129
  go_wp2_with fail
  go_loopg [3, 4] n (fun g v i wr => ∃ k O oc, k ≤ n ∧ g = n - k ∧ i = .int .i64 (k : Nat) ∧ v = .slice O k oc ∧ Hid (∃ done, Made w wr l done k O oc))
  case atStart => exact ⟨0, none, 0, Nat.zero_le _, rfl, rfl, rfl, Lib.hid ⟨[], rfl, Own.nil _ _ _ _, fun i r r' _ h => (by simp at h), Ext.refl _⟩⟩
  case round =>
    obtain ⟨k, O, oc, hk, rfl, rfl, rfl, hrel⟩ := hrel
    obtain ⟨done, hm⟩ := hrel.out
    have HM := Lib.hid hm
    clear hrel hm
    by_cases hlt : k < n
    · obtain ⟨ad, r, rfl, hr0, hcell, hrok⟩ := row_at H.out hlt
      have hrc := HM.out.ext.cell_ hcell
      have hrn := HR.out r (List.mem_of_getElem? hr0)
      have hrl := (sl_len hrok).1
      have hrnc := (sl_len hrok).2.1
      have HROK := Lib.hid hrok
      have HRL := Lib.hid hrl
      have HR0 := Lib.hid hr0
      clear hcell hrok hrl hr0
      go_wp2_with fail
      obtain ⟨wo, hwo⟩ : ∃ wo, wo = wr := ⟨_, rfl⟩
      subst hwo
      go_loopg [5, 6] (rN r) (fun g v i wi => ∃ m X cx, m ≤ rN r ∧ g = rN r - m ∧ i = .int .i64 (m : Nat) ∧ v = .slice X m cx ∧ Hid (Ext wo wi ∧ New wo wi 118 2 X m cx (cellsL plS ((rP r).take m))))
      case atStart => exact ⟨0, none, 0, Nat.zero_le _, rfl, rfl, rfl, Lib.hid ⟨Ext.refl _, Own.nil _ _ _ _⟩⟩
      case round =>
        obtain ⟨wi, hwi⟩ : ∃ wi, wi = wr := ⟨_, rfl⟩
        subst hwi
        clear hrc
        obtain ⟨m, X, cx, hm, rfl, rfl, rfl, hrel2⟩ := hrel
        obtain ⟨hei, hxi⟩ := hrel2.out
        have HEI := Lib.hid hei
        have HXI := Lib.hid hxi
        clear hrel2 hei hxi
        obtain ⟨_, r2, hA2, hr2, hcell2, _⟩ := row_at H.out hlt
        cases hA2
        rw [HR0.out] at hr2
        cases hr2
        have hrci := (HM.out.ext.trans HEI.out).cell_ hcell2
        clear hcell2
        by_cases hlt2 : m < rN r
        · obtain ⟨ap, p, hAp, hp, hq0, hq1, _, _⟩ := place_at HROK.out hlt2
          rw [hAp] at hrci
          have hE0 := HM.out.ext.trans HEI.out
          have q0 := hE0.cell_ hq0
          have q1 := hE0.cell_ hq1
          have HP := Lib.hid hp
          go_upto_region 9 with fail
          have y0 : ∀ W, Ext wi.drew W → W.cell? (ad.add k) = some (.slice (some ap) (rN r) (rC r)) := fun W hW => (drew_ext hW).cell_ hrci
          have y1 : ∀ W, Ext wi.drew W → W.cell? (ap.add (m * 2)) = some (.int .i64 (node p)) := fun W hW => (drew_ext hW).cell_ q0
          have y2 : ∀ W, Ext wi.drew W → W.cell? ⟨(ap.add (m * 2)).block, (ap.add (m * 2)).off + 1, none⟩ = some (.int .u32 (gen p)) := fun W hW => (drew_ext hW).cell_ q1
          clear q0 q1 hq0 hq1 hp hE0
          refine Lex.wp_region_u [0, 1, 2, 3, 4, 5, 6, 7, 8, 9, 10, 11, 12, 13, 14, 15, 16, 17, 18] [19, 20] [] (by kernel_rfl) (by kernel_rfl) (by repeat (first | exact Lex.st_nil | refine Lex.st_cons (by first | exact Lex.nums_st | exact Lex.const_st | exact Lex.such_st | exact Lex.row_st | exact Lex.rowE_st | exact Lex.litR_st | assumption) ?_)) ?_; simp only [Lex.pick, List.getElem?_cons_succ, List.getElem?_cons_zero, List.map_cons, List.map_nil]
          repeat (first | (refine Lex.lexU_skip (by rfl) ?_; simp only [Act.put, List.setIfInBounds_toArray, List.set_cons_zero, List.set_cons_succ]) | (refine Lex.lexU_still (by rfl) (by rfl) (by first | exact Base.Ext.refl | exact Lex.Fill.refl) ?_; apply Exists.intro; refine ⟨fun W hW => ?_, ?_⟩; (have hE := Lex.ext_of_cls hW.1; have hE2 := Lex.ext_drew hE; clear hW; go_simp; try with_reducible rfl); simp only [Act.put, List.setIfInBounds_toArray, List.set_cons_zero, List.set_cons_succ]))
          refine Lex.lexU_such (by rfl) (by rfl) (plcL wi p) (plcL_st) (fun W hW => ?_) ?_
          · go_simp
            exact ⟨⟨_, rfl⟩, Ext.new _ _, fun g e => by cases e; exact at_new _ _⟩
          rintro v ⟨g11, rfl⟩
          simp only [Act.put, List.setIfInBounds_toArray, List.set_cons_zero, List.set_cons_succ]
          repeat (first | (refine Lex.lexU_skip (by rfl) ?_; simp only [Act.put, List.setIfInBounds_toArray, List.set_cons_zero, List.set_cons_succ]) | (refine Lex.lexU_still (by rfl) (by rfl) (by first | exact Base.Ext.refl | exact Lex.Fill.refl) ?_; apply Exists.intro; refine ⟨fun W hW => ?_, ?_⟩; (have hE := Lex.ext_of_cls hW.1; have hE2 := Lex.ext_drew hE; clear hW; go_simp; try with_reducible rfl); simp only [Act.put, List.setIfInBounds_toArray, List.set_cons_zero, List.set_cons_succ]))
          refine Lex.lexU_nil (fun W hW => ?_)
          have hE := Lib.hid (Lex.ext_drew hW.1)
          have hg11 := (hW.2 18).2 rfl _ rfl
          have HG11 := Lib.hid hg11
          clear hW y0 y1 y2 hg11
          have hxw : New wo W 118 2 X m cx (cellsL plS ((rP r).take m)) := HXI.out.extNew hE.out
          have HXW := Lib.hid hxw
          clear hxw
          go_wp2_with (at_builtin; refine wpList_appE _ rfl _ _ _ rfl (fun i => wo.heap.size ≤ i) 118 _ 2 16 Try.underlying218 infoPlc rfl (by decide) (by decide) _ m (cellsL plS ((rP r).take m)) rfl HXW.out g11 1 [.int .i64 (node p), .int .u32 (gen p)] rfl rfl (fun j u hu => blk_cell HG11.out (Ext.refl _) (by simpa using hu)) (by simp [Value.oneCell']) (by omega) (fun i hi => Nat.le_trans (Nat.le_trans HEI.out.size hE.out.size) hi) ?_; intro A2 c2 w12 ho12 hc12)
          have hE12 : Ext wo w12 := (HEI.out.trans hE.out).chg hc12 fun i hi => HXW.out.foot i hi
          have hcat : cellsL plS ((rP r).take m) ++ [.int .i64 (node p), .int .u32 (gen p)] = cellsL plS ((rP r).take (m + 1)) := by
            rw [List.take_add_one, HP.out, cellsL_app]
            rfl
          rw [hcat] at ho12
          have HO12 := Lib.hid ho12
          have HE12 := Lib.hid hE12
          clear ho12 hE12 hc12 hcat
          try simp only [Lex.onlyN]
          go_wp2_with fail
          try simp only [Lex.onlyN]
          go_wp2_with fail
          go_roundg (rN r - (m + 1))
          case measure => omega
          case rel => exact ⟨m + 1, A2, c2, by omega, rfl, by first | rfl | go_num, rfl, Lib.hid ⟨HE12.out, HO12.out⟩⟩
        · obtain rfl : m = rN r := by omega
          have hxi : New wo wi 118 2 X (rN r) cx (cellsL plS (rP r)) := by
            have := HXI.out
            rwa [List.take_of_length_le (by rw [HRL.out]; exact Nat.le_refl _)] at this
          have HXF := Lib.hid hxi
          clear hxi
          go_wp2_with (at_builtin; refine wpList_appE _ rfl _ _ _ rfl (fun i => w.heap.size ≤ i) 218 _ 1 24 Try.underlying106 infoRw rfl (by decide) (by decide) _ k (cellsL rowS done) rfl ((HM.out.prow.extNew HEI.out).extNew (Ext.new wi _)) wi.heap.size 1 [.slice X (rN r) cx] rfl rfl (fun j u hu => blk_cell (at_new wi _) (Ext.refl _) (by simpa using hu)) (by simp [Value.oneCell']) (by omega) (fun i hi => Nat.le_trans (HM.out.ext.trans HEI.out).size (Nat.le_trans (by simp) hi)) ?_; intro A2 c2 w12 ho12 hc12)
          have hnew := Ext.new wi (.cells #[.slice X (rN r) cx] 218)
          have hka := fun (i : Nat) (hi : (Value.slice O k oc).ownBlock = some i) => own_kind ((HM.out.prow.extNew HEI.out).extNew hnew) hi
          have hkk : ∀ i, (Value.slice O k oc).ownBlock = some i → i < (wi.alloc (.cells #[.slice X (rN r) cx] 218)).heap.size → ∃ c e' f, (wi.alloc (.cells #[.slice X (rN r) cx] 218)).heap[i]? = some (.cells c e' f) ∧ 118 ≠ e' := fun i hi _ => by
            obtain ⟨c, f, hh⟩ := hka i hi
            exact ⟨c, _, f, hh, by decide⟩
          have hcat : cellsL rowS done ++ [.slice X (rN r) cx] = cellsL rowS (done ++ [mkRow X (rN r) cx (rP r)]) := by rw [cellsL_app]; rfl
          rw [hcat] at ho12
          have hmade : Made w w12 l (done ++ [mkRow X (rN r) cx (rP r)]) (k + 1) A2 c2 := by
            refine ⟨by simp [HM.out.len], ho12, fun i r0 r' h0 h1 => ?_, ((HM.out.ext.trans HEI.out).trans hnew).chg hc12 fun i hi => HM.out.prow.foot i hi⟩
            rcases Nat.lt_or_ge i done.length with hi | hi
            · rw [List.getElem?_append_left hi] at h1
              obtain ⟨k1, k2⟩ := HM.out.alike i r0 r' h0 h1
              exact ⟨k1, Own.kind ((Own.extNew k2 HEI.out).extNew hnew) hc12 hkk⟩
            · rw [List.getElem?_append_right hi] at h1
              have hz : i - done.length = 0 := by have := (List.getElem?_eq_some_iff.1 h1).1; simp at this; omega
              rw [hz] at h1
              have h1 : mkRow X (rN r) cx (rP r) = r' := by simpa using h1
              subst h1
              have hik : i = k := by have := HM.out.len; omega
              subst hik
              rw [HR0.out] at h0
              cases h0
              refine ⟨⟨rfl, rfl⟩, ?_⟩
              have : New wo w12 118 2 X (rN r) cx (cellsL plS (rP r)) := Own.kind (HXF.out.extNew hnew) hc12 hkk
              exact this.mono fun i _ hi => Nat.le_trans HM.out.ext.size hi
          have HMADE := Lib.hid hmade
          clear hmade ho12 hc12 hcat hkk hka hnew
          go_wp2_with fail
          go_roundg (n - (k + 1))
          case measure => omega
          case rel => exact ⟨k + 1, A2, c2, by omega, rfl, by first | rfl | go_num, rfl, Lib.hid ⟨_, HMADE.out⟩⟩
    · obtain rfl : k = n := by omega
      go_wp2_with fail
      go_ret
      exact ⟨O, oc, done, rfl, HM.out⟩
end Go.Proofs.Ytfhgjopoohfhjaa.Tbl
