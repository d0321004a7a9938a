/- TableApart, walked. -/
import Derived.Test.YtfhgjopoohfhjaaTableS
namespace Go.Proofs.Ytfhgjopoohfhjaa.Tbl
open Go.RowKit Base Step Vec Shape Erase
theorem info_u32 : (Try.prog.info? 77).map (fun i => (i.zero, i.size, i.bytes)) = some (some (.int .u32 0), 1, 4) := by kernel_rfl
/-- The law under way. -/
structure LoopSt (w W : World) (gt sl nd : Nat) (gone : List Int) (t : Tb) (X : Option Addr) (cx : Nat) : Prop where
  tb : TbAt W gt sl nd t
  inv : Inv sl gone t
  row : New w W 77 1 X gone.length cx (nums .u32 gone)
  wf : ∀ g ∈ gone, (Lit.int .u32 g).wf = true
  gt : w.heap.size ≤ gt
  ext : Ext w W
theorem LoopSt.ext_ {w W W' : World} {gt sl nd cx : Nat} {gone : List Int} {t : Tb} {X : Option Addr} (h : LoopSt w W gt sl nd gone t X cx) (he : Ext W W') : LoopSt w W' gt sl nd gone t X cx :=
  ⟨h.tb.ext he, h.inv, h.row.extNew he, h.wf, h.gt, h.ext.trans he⟩
/-- An operation out of the slice. -/
theorem op_opAt {w : World} {d : opS.T} (h : opS.ok w d) (h1 : (opOf d).n ≤ 40) (h2 : (opOf d).name.size ≤ 200) (h3 : ∀ r ∈ (opOf d).rows, rN r ≤ 8796093021952) : OpAt w (opOf d) := by
  obtain ⟨k1, k2, k3, k4, k5, k6, k7⟩ := op_ok h
  exact ⟨k1, by omega, k2, k3, k4, k5, by omega, h3, k7, k6⟩
theorem TbAt.plain {w W : World} {gt sl nd : Nat} {t : Tb} {S : Nat → Prop} (h : TbAt w gt sl nd t) (hc : Chg S w W) (hS : ∀ i, S i → ∃ cs f, w.heap[i]? = some (.cells cs 77 f)) : TbAt W gt sl nd t :=
  ⟨hc.at_ h.at_ (fun k => by
    obtain ⟨cs, f, h1⟩ := hS _ k
    rw [h.at_] at h1
    cases h1), Sh.ok_plain h.ok hc fun i hi => by
    obtain ⟨cs, f, h1⟩ := hS i hi
    exact ⟨cs, _, f, h1, rfl⟩⟩
theorem Did.ans {w W : World} {gt sl nd : Nat} {code : Int} {R : Tb → World → Prop} {e : Ending} (h : Did w gt sl nd code R e W) : e = .returned (.int .i64 code) := h.1
theorem LoopSt.did {w W W' : World} {gt sl nd cx : Nat} {gone : List Int} {t t' : Tb} {X : Option Addr} (h : LoopSt w W gt sl nd gone t X cx) (hc : Chg (fun i => i = gt) W W') (ht : TbAt W' gt sl nd t') (hi : Inv sl gone t') : LoopSt w W' gt sl nd gone t' X cx :=
  ⟨ht, hi, Own.kind h.row hc fun i hi _ => by subst hi; exact ⟨_, _, _, h.tb.at_, by decide⟩, h.wf, h.gt, h.ext.chg hc fun i hi => by rw [hi]; exact h.gt⟩
theorem LoopSt.app {w W W' : World} {gt sl nd cx cx' : Nat} {gone : List Int} {t : Tb} {X X' : Option Addr} {g : Int} (h : LoopSt w W gt sl nd gone t X cx) (hc : Chg (fun i => (Value.slice X gone.length cx).ownBlock = some i) W W') (hi : Inv sl (gone ++ [g]) t) (hr : New w W' 77 1 X' (gone.length + 1) cx' (nums .u32 (gone ++ [g]))) (hg : (Lit.int .u32 g).wf = true) : LoopSt w W' gt sl nd (gone ++ [g]) t X' cx' :=
  ⟨h.tb.plain hc fun i hi => own_kind h.row hi, hi, by rw [List.length_append]; exact hr, fun x hx => by
    rcases List.mem_append.1 hx with hx | hx
    · exact h.wf x hx
    · have hx : x = g := by simpa using hx
      rw [hx]
      exact hg, h.gt, h.ext.chg hc fun i hi => h.row.foot i hi⟩
/-- What an answer tells of an object that went. -/
def Rem (bb : Bool) (o : Op) (b : Bool) : Prop := bb = true → o.kind = 3 ∧ b = true
theorem rem_no {o : Op} {b : Bool} : Rem false o b := fun h => by cases h
set_option maxRecDepth 100000 in
set_option maxHeartbeats 8000000 in
theorem apart_row (slots nodes : Int) (A : Option Addr) (n c : Nat) (l : List opS.T) (w : World) (h0 : (Lit.int .u8 slots).wf = true) (h1 : (Lit.int .u8 nodes).wf = true) (h : (Sh.sl opS).ok w (A, n, c, l)) (hs : (Sh.sl opS).small Try.prog 98 (A, n, c, l)) :
    Calls Try.prog 10 #[.int .u8 slots, .int .u8 nodes, .slice A n c] w fun e w' => e = .returned (.bool true) ∧ Ext w w' := by
  have HSM := Lib.hid (op_small hs)
  have H := Lib.hid h
  have hnc := (sl_len h).2.1
  obtain ⟨s0, rfl, hs0⟩ : ∃ s0 : Nat, slots = s0 ∧ s0 < 256 := ⟨slots.toNat, by have := wf_u8 h0; omega, by have := wf_u8 h0; omega⟩
  obtain ⟨m0, rfl, hm0⟩ : ∃ m0 : Nat, nodes = m0 ∧ m0 < 256 := ⟨nodes.toNat, by have := wf_u8 h1; omega, by have := wf_u8 h1; omega⟩
  clear h hs h0 h1
  go_enter Try.func10, Try.ntmps10
  go_wp2_with fail
  refine (awake_calls w).mono ?_
  rintro e w1 ⟨rfl, he1⟩
  have HE1 := Lib.hid he1
  clear he1
  go_wp2_with fail
  refine (light_calls A n c l w1 (Sh.ok_ext HE1.out _ _ H.out)).mono ?_
  rintro e w2 ⟨he2, b, rfl, hb⟩
  have HE2 := Lib.hid (HE1.out.trans he2)
  clear he2
  cases b with
  | false =>
    clear hb
    go_wp2_with fail
    refine (awake_calls w2).mono ?_
    rintro e w3 ⟨rfl, he3⟩
    have HE3 := Lib.hid (HE2.out.trans he3)
    clear he3
    go_wp2_with fail
    go_ret
    exact ⟨rfl, HE3.out⟩
  | true =>
    have hl := hb rfl
    have hn30 := hl.len
    have HL := Lib.hid hl.each
    clear hb hl
    go_upto_region 6 with fail
    obtain ⟨sl, hsl, hsl1, hsl2⟩ : ∃ sl : Nat, 1 + (s0 : Int) % 24 = sl ∧ 1 ≤ sl ∧ sl ≤ 24 := ⟨1 + s0 % 24, by omega, by omega, by omega⟩
    obtain ⟨nd, hnd, hnd1, hnd2⟩ : ∃ nd : Nat, 1 + (m0 : Int) % 32 = nd ∧ 1 ≤ nd ∧ nd ≤ 32 := ⟨1 + m0 % 32, by omega, by omega, by omega⟩
    rw [hsl, hnd]
    clear hsl hnd
    refine (new_calls sl nd w2 hsl1 hsl2 hnd1 hnd2).mono ?_
    rintro e w3 ⟨rfl, he3, ht3⟩
    have HST : Hid (LoopSt w w3 w2.heap.size sl nd [] ⟨1, 0, none, 0, 0, []⟩ none 0) := Lib.hid ⟨ht3, inv_new, Own.nil _ _ _ _, fun g hg => (by cases hg), HE2.out.size, HE2.out.trans he3⟩
    clear he3 ht3
    generalize w2.heap.size = gt at *
    go_wp2_with fail
    go_loopg [9, 10] n (fun g v i wr => ∃ (k : Nat) (gone : List Int) (t : Tb) (X : Option Addr) (cx : Nat), k ≤ n ∧ gone.length ≤ k ∧ g = n - k ∧ i = .int .i64 (k : Nat) ∧ v = .slice X gone.length cx ∧ Hid (LoopSt w wr gt sl nd gone t X cx))
    case atStart => exact ⟨0, [], _, none, 0, Nat.zero_le _, Nat.le_refl _, rfl, rfl, rfl, HST⟩
    case round =>
      clear HST
      obtain ⟨k, gone, t, X, cx, hk, hgk, rfl, rfl, rfl, HST⟩ := hrel
      by_cases hlt : k < n
      · obtain ⟨ad, d, rfl, hd, hcl, hok⟩ := op_at H.out hlt
        have hcl' := hcl.ext HST.out.ext
        obtain ⟨c0, c1, c2, c3, c4, c5, c6, c7, c8, c9, c10⟩ := hcl'
        have hdm := List.mem_of_getElem? hd
        have hopat := (op_opAt hok (HL.out d hdm).1 (HL.out d hdm).2 (HSM.out d hdm)).ext HST.out.ext
        have HOP := Lib.hid hopat
        have hop40 := (HL.out d hdm).1
        have HCL := Lib.hid hcl
        have htn := HST.out.inv.n HST.out.tb
        have htn1 := htn.2
        clear hcl hok hd hdm hopat htn
        generalize opOf d = o at *
        go_wp2_with fail
        refine (find_calls gt sl nd t.nx t.ls t.A t.n t.c t.objs o.name wr HST.out.tb (by omega) (HST.out.inv.small HST.out.tb hsl2)).mono ?_
        intro e w5 h5
        have hfe : ∃ o' b, e = .returned (.tuple #[objV o', .bool b]) ∧ Ext wr w5 ∧ (b = true → ∃ ob, found t.objs o.name = some ob ∧ num o' = num ob) ∧ (b = false → found t.objs o.name = none) := by
          cases hf : found t.objs o.name with
          | none =>
            rw [hf] at h5
            obtain ⟨h6, h7⟩ := h5
            exact ⟨zobj, false, h6, h7, fun h => (by cases h), fun _ => rfl⟩
          | some ob =>
            rw [hf] at h5
            obtain ⟨o', h6, h7⟩ := h5
            exact ⟨o', true, h6, h7.ext, fun _ => ⟨ob, rfl, h7.num⟩, fun h => (by cases h)⟩
        clear h5
        obtain ⟨o', b, rfl, hE5, hb1, hb0⟩ := hfe
        have HE5 := Lib.hid hE5
        have HB1 := Lib.hid hb1
        have HB0 := Lib.hid hb0
        clear hE5 hb1 hb0 c0 c1 c2 c3 c4 c5 c6 c7 c8 c9 c10
        go_upto_region 13 with (refine RowSt.wpList_put 108 _ _ rfl rfl rfl w5.heap.size #[.int .u32 (num o'), .string (name o'), .int .i64 (plan o').1, .int .i64 (plan o').2.1, .int .i64 (plan o').2.2.1, .slice (pA o') (pN o') (pC o')] rfl rfl 108 _ (at_new w5 _) (by kernel_rfl) rfl (by simp [Value.oneCell']) ?_; intro w9 hb9 hc9)
        have hE9 : Ext wr w9 := (HE5.out.trans (Ext.new w5 _)).chg hc9 fun i hi => by have := HE5.out.size; have hi : i = w5.heap.size := hi; omega
        have HB9 := Lib.hid hb9
        have HST9 := Lib.hid (HST.out.ext_ hE9)
        have HOP9 := Lib.hid (HOP.out.ext hE9)
        clear hb9 hc9 hE9 HE5 HST HOP
        generalize w5.heap.size = bo at *
        obtain ⟨c0, c1, c2, c3, c4, c5, c6, c7, c8, c9, c10⟩ := HCL.out.ext HST9.out.ext
        go_wp2_with fail
        refine (to_calls o w9 HOP9.out (by omega)).mono ?_
        rintro e w10 ⟨A', c', l', rfl, hm⟩
        have HST10 := Lib.hid (HST9.out.ext_ hm.ext)
        have HOP10 := Lib.hid (withRows_ok HOP9.out hm)
        have HB10 := Lib.hid (hm.ext.at_ HB9.out)
        clear hm c0 c1 c2 c3 c4 c5 c6 c7 c8 c9 c10 HST9 HOP9 HB9
        go_wp2_with fail
        refine (apply_calls gt sl nd t (withRows o A' c' l') w10 HST10.out.tb (by omega) hnd2 (HST10.out.inv.small HST10.out.tb hsl2) (fun ob hob r hr => ((HST10.out.inv.each ob hob).2.2 r hr).1) HOP10.out (by have := HST10.out.inv.x0; omega) HST10.out.inv.x1).mono ?_
        rintro e w11 ⟨rfl, hc, t', ht', hr'⟩
        have hinv := inv_apply HST10.out.inv (HST10.out.inv.n HST10.out.tb).1 HOP10.out hr'
        have HREM : Hid (∀ ob, o.kind = 3 → found t.objs o.name = some ob → Inv sl (gone ++ [num ob]) t') := Lib.hid fun ob h3 hf => inv_removal (o := withRows o A' c' l') HST10.out.inv h3 hf hr'
        have HB11 := Lib.hid (hc.at_ HB10.out fun e => by
          have h1 := HST10.out.tb.at_
          rw [← show bo = gt from e, HB10.out] at h1
          cases h1)
        have HWF : Hid (∀ ob, found t.objs o.name = some ob → (Lit.int .u32 (num ob)).wf = true) := Lib.hid fun ob hf => by
          unfold found at hf
          split at hf
          · exact (obj_ok (sl_each HST10.out.tb.ok hf)).1
          · cases hf
        have HST11 := Lib.hid (HST10.out.did hc ht' hinv)
        clear hc ht' hr' hinv HST10 HOP10 HB10
        generalize applyC sl nd t (withRows o A' c' l') = cd at *
        go_upto_region 14 with fail
        go_cut [77] (fun v wx => ∃ bb : Bool, v = .bool bb ∧ wx = w11 ∧ Hid (Rem bb o b))
        case first =>
          obtain ⟨c0, c1, c2, c3, c4, c5, c6, c7, c8, c9, c10⟩ := HCL.out.ext HST11.out.ext
          by_cases hz : cd = 0
          · have hd1 : (cd == 0) = true := by simp [hz]
            by_cases h3 : o.kind = 3
            · have H3 := Lib.hid h3
              have hd2 : (o.kind == 3) = true := by simp [h3]
              clear hz h3
              cases b with
              | true =>
                go_wp2_with fail
                go_meet
                exact ⟨true, rfl, rfl, Lib.hid (show Rem true o true from fun _ => ⟨H3.out, rfl⟩)⟩
              | false =>
                go_wp2_with fail
                go_meet
                exact ⟨false, rfl, rfl, Lib.hid rem_no⟩
            · have hd2 : (o.kind == 3) = false := by simp [h3]
              clear hz h3
              go_wp2_with fail
              go_meet
              exact ⟨false, rfl, rfl, Lib.hid rem_no⟩
          · have hd1 : (cd == 0) = false := by simp [hz]
            clear hz
            go_wp2_with fail
            go_meet
            exact ⟨false, rfl, rfl, Lib.hid rem_no⟩
        obtain ⟨bb, rfl, rfl, HBB⟩ := hcut
        go_upto_if 77 with fail
        go_cut [9] (fun v wx => ∃ (gone' : List Int) (X' : Option Addr) (cx' : Nat), gone'.length ≤ k + 1 ∧ v = .slice X' gone'.length cx' ∧ Hid (LoopSt w wx gt sl nd gone' t' X' cx'))
        case first =>
          cases bb with
          | true =>
            obtain ⟨h3, hb⟩ := HBB.out rfl
            obtain ⟨ob, hf, hnum⟩ := HB1.out hb
            have HH := Lib.hid (HREM.out ob h3 hf)
            have HW := Lib.hid (HWF.out ob hf)
            have x0 : wc.cell? ⟨bo, 0, none⟩ = some (.int .u32 (num o')) := blk_cell (i := 0) HB11.out (Ext.refl _) rfl
            rw [hnum] at x0
            clear h3 hf hnum hb
            go_wp2_with (at_builtin; refine wpList_appE _ rfl _ _ _ rfl (fun i => w.heap.size ≤ i) 77 _ 1 4 Try.underlying103 info_u32 rfl (by decide) (by decide) _ gone.length (nums .u32 gone) rfl (HST11.out.row.extNew (Ext.new wc _)) wc.heap.size 1 [.int .u32 (num ob)] rfl rfl (fun j u hu => blk_cell (at_new wc _) (Ext.refl _) (by simpa using hu)) (by simp [Value.oneCell']) (by omega) (fun i hi => Nat.le_trans HST11.out.ext.size (Nat.le_trans (by simp) hi)) ?_; intro A2 c2 w12 ho12 hc12)
            go_meet
            rw [show nums .u32 gone ++ [Value.int .u32 (num ob)] = nums .u32 (gone ++ [num ob]) by simp [nums]] at ho12
            exact ⟨gone ++ [num ob], A2, c2, by simp; omega, by simp, Lib.hid (LoopSt.app (HST11.out.ext_ (Ext.new wc _)) hc12 HH.out ho12 HW.out)⟩
          | false =>
            go_wp2_with fail
            go_meet
            exact ⟨gone, X, cx, by omega, rfl, HST11⟩
        case rest =>
          obtain ⟨gone', X', cx', hl', rfl, HSX⟩ := hcut
          clear HST11 HREM HWF HB11 HB1 HB0 HCL
          go_wp2_with fail
          have htn := (HSX.out.inv.n HSX.out.tb).2
          obtain ⟨wo, hwo⟩ : ∃ wo, wo = wc := ⟨_, rfl⟩
          subst hwo
          go_loopg [14] t'.n (fun g i wi => ∃ m : Nat, m ≤ t'.n ∧ g = t'.n - m ∧ i = .int .i64 (m : Nat) ∧ Hid (LoopSt w wi gt sl nd gone' t' X' cx'))
          case atStart => exact ⟨0, Nat.zero_le _, rfl, rfl, HSX⟩
          case round =>
            clear HSX
            obtain ⟨m, hm, rfl, rfl, HSX⟩ := hrel
            go_wp2_with fail
            refine (len_calls gt sl nd t'.nx t'.ls t'.A t'.n t'.c t'.objs wr HSX.out.tb).mono ?_
            rintro e w5 ⟨rfl, rfl⟩
            by_cases hlt2 : m < t'.n
            · have hm70 : ((m : Nat) : Int) < 70 := by omega
              go_wp2_with fail
              refine (at_calls gt sl nd t'.nx t'.ls t'.A t'.n t'.c t'.objs m wr HSX.out.tb (by omega) (HSX.out.inv.small HSX.out.tb hsl2) hlt2).mono ?_
              intro e w5 h5
              obtain ⟨ob, hob⟩ : ∃ ob, t'.objs[m]? = some ob := ⟨_, List.getElem?_eq_getElem (by rw [(HSX.out.inv.n HSX.out.tb).1]; exact hlt2)⟩
              rw [hob] at h5
              obtain ⟨o', rfl, hcp⟩ := h5
              have HCP := Lib.hid hcp
              have HOB := Lib.hid hob
              clear hcp hob
              go_upto_region 20 with (refine RowSt.wpList_put 108 _ _ rfl rfl rfl w5.heap.size #[.int .u32 (num o'), .string (name o'), .int .i64 (plan o').1, .int .i64 (plan o').2.1, .int .i64 (plan o').2.2.1, .slice (pA o') (pN o') (pC o')] rfl rfl 108 _ (at_new w5 _) (by kernel_rfl) rfl (by simp [Value.oneCell']) ?_; intro w9 hb9 hc9)
              have hcp9 := (HCP.out.ext_ (Ext.new w5 _)).put (at_new w5 _) hc9 HCP.out.ext.size
              have HB9 := Lib.hid hb9
              have HSX9 := Lib.hid (HSX.out.ext_ hcp9.ext)
              have hobm := List.mem_of_getElem? HOB.out
              have hok9 := Sh.ok_off (hcp9.ok (sl_each (Sh.ok_off HSX.out.tb.ok) HOB.out) HSX.out.tb.lt)
              have HROK : Hid ((Sh.sl rowS).ok w9 (pA o', pN o', pC o', rows o')) := Lib.hid (obj_ok hok9).2.2.2
              have HROWS : Hid (∀ r ∈ rows o', rN r = sl ∧ ((rP r).map node).Nodup) := Lib.hid fun r' hr' => by
                obtain ⟨i, hi, hir⟩ := List.getElem_of_mem hr'
                obtain ⟨r, hr⟩ : ∃ r, (rows ob)[i]? = some r := ⟨_, List.getElem?_eq_getElem (by rw [← hcp9.rlen]; exact hi)⟩
                obtain ⟨⟨ha1, ha2⟩, _⟩ := hcp9.alike i r r' hr (by rw [List.getElem?_eq_getElem hi, hir])
                rw [ha1, ha2]
                exact (HSX.out.inv.each ob hobm).2.2 r (List.mem_of_getElem? hr)
              have HPN : Hid (pN o' ≤ 32) := Lib.hid (by
                have h1 := obj_rows hok9
                have h2 := hcp9.rlen
                have h3 := (HSX.out.inv.each ob hobm).2.1
                omega)
              have HNUM : Hid (∀ g ∈ gone', (num o' == g) = false) := Lib.hid fun g hg => by
                have h1 := (HSX.out.inv.gone g hg).2 ob hobm
                rw [hcp9.num]
                simpa using h1
              clear hcp9 hb9 hc9 HCP HOB hobm hok9 HSX
              generalize w5.heap.size = bx at *
              go_wp2_with fail
              obtain ⟨w2, hw2⟩ : ∃ w2, w2 = w9 := ⟨_, rfl⟩
              subst hw2
              go_loopg [17] gone'.length (fun g i wi => ∃ j : Nat, j ≤ gone'.length ∧ g = gone'.length - j ∧ i = .int .i64 (j : Nat) ∧ Hid (Ext w2 wi))
              case atStart => exact ⟨0, Nat.zero_le _, rfl, rfl, Lib.hid (Ext.refl _)⟩
              case round =>
                obtain ⟨j, hj, rfl, rfl, HX⟩ := hrel
                by_cases hlt3 : j < gone'.length
                · obtain ⟨gv, hgv⟩ : ∃ gv, gone'[j]? = some gv := ⟨_, List.getElem?_eq_getElem hlt3⟩
                  have hne := HNUM.out gv (List.mem_of_getElem? hgv)
                  obtain ⟨aX, hX, hcell⟩ := own_cell HSX9.out.row (j := j) (u := .int .u32 gv) (by simp [nums, hgv])
                  subst hX
                  have hrng : ((j : Nat) : Int) < ((gone'.length : Nat) : Int) := by omega
                  have x0 : wr.cell? ⟨bx, 0, none⟩ = some (.int .u32 (num o')) := blk_cell (i := 0) HB9.out HX.out rfl
                  have y0 := HX.out.cell_ hcell
                  have hcap := HSX9.out.row.cap.1
                  clear hcell hgv
                  go_wp2_with fail
                  go_quiet (fail)
                  have HXN := Lib.hid (HX.out.drewN nq)
                  go_wp2_with fail
                  go_roundg (gone'.length - (j + 1))
                  case measure => omega
                  case rel => exact ⟨j + 1, by omega, rfl, by first | rfl | go_num, HXN⟩
                · obtain rfl : j = gone'.length := by omega
                  have x5 : wr.cell? ⟨bx, 5, none⟩ = some (.slice (pA o') (pN o') (pC o')) := blk_cell (i := 5) HB9.out HX.out rfl
                  go_wp2_with fail
                  refine (apart_calls (pA o') (pN o') (pC o') (rows o') wr (Sh.ok_ext HX.out _ _ HROK.out) (by have := HPN.out; omega) (fun r hr => by have := (HROWS.out r hr).1; omega) fun r hr => (HROWS.out r hr).2).mono ?_
                  rintro e w6 ⟨rfl, he6⟩
                  have HSY := Lib.hid (HSX9.out.ext_ (HX.out.trans he6))
                  clear he6 x5
                  go_wp2_with fail
                  go_roundg (t'.n - (m + 1))
                  case measure => omega
                  case rel => exact ⟨m + 1, by omega, rfl, by first | rfl | go_num, HSY⟩
            · obtain rfl : m = t'.n := by omega
              go_wp2_with fail
              go_roundg (n - (k + 1))
              case measure => omega
              case rel => exact ⟨k + 1, gone', t', X', cx', by omega, hl', rfl, by first | rfl | go_num, rfl, HSX⟩
      · obtain rfl : k = n := by omega
        go_wp2_with fail
        refine (awake_calls wr).mono ?_
        rintro e w9 ⟨rfl, he9⟩
        have HE9 := Lib.hid (HST.out.ext.trans he9)
        clear he9
        go_wp2_with fail
        go_ret
        exact ⟨rfl, HE9.out⟩
end Go.Proofs.Ytfhgjopoohfhjaa.Tbl
