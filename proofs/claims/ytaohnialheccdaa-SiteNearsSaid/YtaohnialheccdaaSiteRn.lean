/- The nearest first, walked: the document's. -/
import Derived.Test.YtaohnialheccdaaSiteNr
import Derived.Deep.OwnRows
namespace Go.Proofs.Ytaohnialheccdaa.SitePts
open Go.RowKit Base Step Vec Site Ref09
open SiteN (Sel Best)
theorem info_i : (Try.prog.info? 3).map (fun i => (i.zero, i.size, i.bytes)) = some (some (.int .i64 0), 1, 8) := by kernel_rfl
theorem info_t : (Try.prog.info? 4).map (fun i => (i.zero, i.size, i.bytes)) = some (some (.bool false), 1, 1) := by kernel_rfl
def lenV : Value → Nat
  | .slice _ n _ => n
  | _ => 0
/-- What is done, told by bools. -/
def Done (n : Nat) (l : List Nat) (D : Array Value) : Prop := D.size = n ∧ ∀ j, j < n → D[j]? = some (.bool (decide (j ∈ l)))
theorem done_new (n : Nat) : Done n [] (madeCells #[.bool false] n) := by
  refine ⟨by simp [madeCells], fun j hj => ?_⟩
  simp [madeCells, hj, Nat.mod_one]
theorem Done.put {n : Nat} {l : List Nat} {D : Array Value} (h : Done n l D) {q : Nat} (hq : q < n) : Done n (l ++ [q]) (D.setIfInBounds q (.bool true)) := by
  refine ⟨by simp [h.1], fun j hj => ?_⟩
  by_cases hjq : q = j
  · subst hjq
    rw [Array.getElem?_setIfInBounds_self_of_lt (by rw [h.1]; exact hq)]
    simp
  · rw [Array.getElem?_setIfInBounds_ne hjq, h.2 j hj]
    have : j ≠ q := Ne.symm hjq
    simp [this]
set_option maxRecDepth 100000 in
set_option maxHeartbeats 1000000 in
theorem rnear_calls (f : Int × Int) (A : Option Addr) (n c : Nat) (ps : List (Int × Int)) (w : World) (h : Pts w A n ps) (hn : n ≤ 60) (hf : near f.1 ∧ near f.2) (hr : ∀ p ∈ ps, near p.1 ∧ near p.2) :
    Calls Try.prog 60 #[P2 f.1 f.2, .slice A n c] w fun e w' => Ext w w' ∧ ∃ A' c' l, e = .returned (.slice A' n c') ∧ New w w' 3 1 A' n c' (nums .i64 (places l)) ∧ InOrder f ps n l := by
  have HR := Lib.hid hr
  have hl := h.len
  clear hr
  have hmk := fun W => run_make_row' (P := Try.prog) 94 4 (.bool false) 1 Try.underlying94 info_t rfl .i64 .i64 n (by omega) (by omega) W
  have hE0 := (Ext.new w (.cells #[.int .i64 f.1, .int .i64 f.2] 29))
  have hE1 := hE0.alloc (.cells (madeCells #[.bool false] n) 4)
  have hF1 : ((w.alloc (.cells #[.int .i64 f.1, .int .i64 f.2] 29)).alloc (.cells (madeCells #[.bool false] n) 4)).heap[w.heap.size]? = some (.cells #[.int .i64 f.1, .int .i64 f.2] 29 (0, 0)) := (Ext.new _ _).at_ (at_new _ _)
  have hD1 : ((w.alloc (.cells #[.int .i64 f.1, .int .i64 f.2] 29)).alloc (.cells (madeCells #[.bool false] n) 4)).heap[w.heap.size + 1]? = some (.cells (madeCells #[.bool false] n) 4 (0, 0)) := by
    have := at_new (w.alloc (.cells #[.int .i64 f.1, .int .i64 f.2] 29)) (.cells (madeCells #[.bool false] n) 4)
    simpa using this
  have HF1 := Lib.hid hF1
  have HD1 := Lib.hid hD1
  have HE1 := Lib.hid hE1
  clear hF1 hD1 hE1 hE0
  go_enter Try.func60, Try.ntmps60
  go_wp2_with fail
  go_loopw [5, 7, 8] (fun ov _ _ wr => ∃ (m : Nat) (A' : Option Addr) (c' : Nat) (l : List Nat) (D : Array Value), ov = .slice A' m c' ∧ m ≤ n ∧ New w wr 3 1 A' m c' (nums .i64 (places l)) ∧ wr.heap[w.heap.size + 1]? = some (.cells D 4 (0, 0)) ∧ wr.heap[w.heap.size]? = some (.cells #[.int .i64 f.1, .int .i64 f.2] 29 (0, 0)) ∧ Hid (Done n l D) ∧ Hid (Sel (dk f ps) n m l) ∧ Ext w wr) (fun ov _ _ _ => n - lenV ov)
  case atStart => exact ⟨0, none, 0, [], _, rfl, Nat.zero_le _, Own.nil _ _ _ _, HD1.out, HF1.out, Lib.hid (done_new n), Lib.hid (Sel.nil _ _), HE1.out⟩
  case round =>
    clear HF1 HD1 HE1
    obtain ⟨m, A', c', l, D, rfl, hm, ho, hD, hF, HDN, HSEL, hx⟩ := hrel
    by_cases hlt : m < n
    · have HO := Lib.hid ho
      have HD := Lib.hid hD
      have HF := Lib.hid hF
      clear ho hD hF
      go_wp2_with fail
      obtain ⟨wo, rfl⟩ : ∃ wo : World, wo = wr := ⟨_, rfl⟩
      go_loopw [7, 8] (fun bv iv wr2 => ∃ (k : Nat) (b : Int), iv = .int .i64 k ∧ bv = .int .i64 b ∧ k ≤ n ∧ -1 ≤ b ∧ b < n ∧ Hid (Best (dk f ps) l k b) ∧ Ext wo wr2) (fun _ iv _ => n - (intOf iv).toNat)
      case atStart => exact ⟨0, -1, rfl, rfl, Nat.zero_le _, by omega, by omega, Lib.hid (Best.nil _ _), Ext.refl _⟩
      case round =>
        obtain ⟨k, b, rfl, rfl, hk, hb0, hb1, HB, hxo⟩ := hrel
        by_cases hlk : k < n
        · have hkI : (k : Int) < n := by omega
          have hk0 : (0 : Int) ≤ k := by omega
          obtain ⟨p, hp⟩ : ∃ p, ps[k]? = some p := ⟨_, List.getElem?_eq_getElem (by omega)⟩
          obtain ⟨ad, rfl, x0, x1⟩ := (h.ext (hx.trans hxo)).at_ k p hp
          have np := HR.out p (List.mem_of_getElem? hp)
          have HDK : Hid (dk f ps k = dist f p) := Lib.hid (by unfold dk; rw [at0_of hp])
          have HFK := Lib.hid fun W => Ref09.far_calls f.1 f.2 p.1 p.2 W hf.1 hf.2 np.1 np.2
          rw [show (f.1 - p.1) * (f.1 - p.1) + (f.2 - p.2) * (f.2 - p.2) = dist f p from rfl] at HFK
          clear np hp
          generalize dist f p = dkk at *
          generalize p.1 = p1 at *
          generalize p.2 = p2 at *
          have hDk := blk_cell (i := k) HD.out hxo (HDN.out.2 k hlk)
          have e0 : ∀ W, Ext wr W → W.cell? (ad.add (k * 2)) = some (.int .i64 p1) := fun W hW => hW.cell_ x0
          have e1 : ∀ W, Ext wr W → W.cell? ⟨(ad.add (k * 2)).block, (ad.add (k * 2)).off + 1, none⟩ = some (.int .i64 p2) := fun W hW => hW.cell_ x1
          have f0 : ∀ W, Ext wr W → W.cell? ⟨w.heap.size, 0, none⟩ = some (.int .i64 f.1) := fun W hW => blk_cell (i := 0) HF.out (hxo.trans hW) rfl
          have f1 : ∀ W, Ext wr W → W.cell? ⟨w.heap.size, 1, none⟩ = some (.int .i64 f.2) := fun W hW => blk_cell (i := 1) HF.out (hxo.trans hW) rfl
          clear x0 x1
          by_cases hdone : k ∈ l
          · have hd0 : ∀ W, Ext wr W → W.cell? ⟨w.heap.size + 1, k, none⟩ = some (.bool true) := fun W hW => by
              have := hW.cell_ hDk
              simpa [hdone] using this
            clear hDk
            have HB2 := Lib.hid (HB.out.done hdone)
            have g0 := hd0 _ (Ext.refl _)
            clear HB hd0 e0 e1 f0 f1
            go_wp2_with fail
            go_quiet (fail)
            have hxo2 := hxo.drewN nq
            clear g0 hxo
            go_wp2_with fail
            go_roundw
            case rel => exact ⟨k + 1, b, by go_num, rfl, by omega, by omega, by omega, HB2, hxo2⟩
            case measure => simp [intOf]; omega
          · have hd0 : ∀ W, Ext wr W → W.cell? ⟨w.heap.size + 1, k, none⟩ = some (.bool false) := fun W hW => by
              have := hW.cell_ hDk
              simpa [hdone] using this
            clear hDk
            by_cases hb : b < 0
            · obtain rfl : b = -1 := by omega
              have HB2 := Lib.hid (HB.out.first hdone)
              have g0 := hd0 _ (Ext.refl _)
              clear HB hd0 e0 e1 f0 f1
              go_wp2_with fail
              go_quiet (fail)
              have hxo2 := hxo.drewN nq
              clear g0 hxo
              go_wp2_with fail
              go_roundw
              case rel => exact ⟨k + 1, k, by go_num, rfl, by omega, by omega, by omega, HB2, hxo2⟩
              case measure => simp [intOf]; omega
            · obtain ⟨q, rfl⟩ := Int.eq_ofNat_of_zero_le (Int.not_lt.1 hb)
              obtain ⟨pq, hpq⟩ : ∃ pq, ps[q]? = some pq := ⟨_, List.getElem?_eq_getElem (by omega)⟩
              obtain ⟨ad', e', y0, y1⟩ := (h.ext (hx.trans hxo)).at_ q pq hpq
              cases e'
              have nq := HR.out pq (List.mem_of_getElem? hpq)
              have HDQ : Hid (dk f ps q = dist f pq) := Lib.hid (by unfold dk; rw [at0_of hpq])
              have HFQ := Lib.hid fun W => Ref09.far_calls f.1 f.2 pq.1 pq.2 W hf.1 hf.2 nq.1 nq.2
              rw [show (f.1 - pq.1) * (f.1 - pq.1) + (f.2 - pq.2) * (f.2 - pq.2) = dist f pq from rfl] at HFQ
              clear nq hpq
              generalize dist f pq = dqq at *
              generalize pq.1 = q1 at *
              generalize pq.2 = q2 at *
              have e2 : ∀ W, Ext wr W → W.cell? (ad.add (q * 2)) = some (.int .i64 q1) := fun W hW => hW.cell_ y0
              have e3 : ∀ W, Ext wr W → W.cell? ⟨(ad.add (q * 2)).block, (ad.add (q * 2)).off + 1, none⟩ = some (.int .i64 q2) := fun W hW => hW.cell_ y1
              have hbf : decide ((q : Int) < 0) = false := by simp
              have hq0 : (0 : Int) ≤ q := by omega
              clear y0 y1
              go_wp2_with fail
              refine Lex.wp_region_u [0, 1, 2, 3, 4, 5, 6, 7, 8, 9, 10, 11, 12, 13, 14, 15, 16, 17, 18, 19, 20, 21, 22, 23] [] [(14, .const (.int .i64 dkk)), (20, .const (.int .i64 dqq))] (by kernel_rfl) (by kernel_rfl) (by repeat (first | exact Lex.st_nil | refine Lex.st_cons (by first | exact Lex.nums_st | exact Lex.const_st | exact Lex.such_st | exact Lex.row_st | exact Lex.rowE_st | exact Lex.litR_st | assumption) ?_)) ?_; simp only [Lex.pick, List.getElem?_cons_succ, List.getElem?_cons_zero, List.map_cons, List.map_nil]
              repeat (first | (refine Lex.lexU_skip (by rfl) ?_; simp only [Act.put, List.setIfInBounds_toArray, List.set_cons_zero, List.set_cons_succ]) | (refine Lex.lexU_still (by rfl) (by rfl) (by first | exact Base.Ext.refl | exact Lex.Fill.refl) ?_; apply Exists.intro; refine ⟨fun W hW => ?_, ?_⟩; (have hE := Lex.ext_of_cls hW.1; have hE2 := Lex.ext_drew hE; clear hW; go_simp; try with_reducible rfl); simp only [Act.put, List.setIfInBounds_toArray, List.set_cons_zero, List.set_cons_succ]))
              refine Lex.lexU_loose (by rfl) (by rfl) (fun W hW => ?_) ?_
              · go_simp
                refine (HFK.out _).mono ?_
                rintro e w5 ⟨rfl, he5⟩
                exact ⟨_, rfl, rfl, he5, trivial⟩
              rintro v rfl
              simp only [Act.put, List.setIfInBounds_toArray, List.set_cons_zero, List.set_cons_succ]
              repeat (first | (refine Lex.lexU_skip (by rfl) ?_; simp only [Act.put, List.setIfInBounds_toArray, List.set_cons_zero, List.set_cons_succ]) | (refine Lex.lexU_still (by rfl) (by rfl) (by first | exact Base.Ext.refl | exact Lex.Fill.refl) ?_; apply Exists.intro; refine ⟨fun W hW => ?_, ?_⟩; (have hE := Lex.ext_of_cls hW.1; have hE2 := Lex.ext_drew hE; clear hW; go_simp; try with_reducible rfl); simp only [Act.put, List.setIfInBounds_toArray, List.set_cons_zero, List.set_cons_succ]))
              refine Lex.lexU_loose (by rfl) (by rfl) (fun W hW => ?_) ?_
              · go_simp
                refine (HFQ.out _).mono ?_
                rintro e w5 ⟨rfl, he5⟩
                exact ⟨_, rfl, rfl, he5, trivial⟩
              rintro v rfl
              simp only [Act.put, List.setIfInBounds_toArray, List.set_cons_zero, List.set_cons_succ]
              repeat (first | (refine Lex.lexU_skip (by rfl) ?_; simp only [Act.put, List.setIfInBounds_toArray, List.set_cons_zero, List.set_cons_succ]) | (refine Lex.lexU_still (by rfl) (by rfl) (by first | exact Base.Ext.refl | exact Lex.Fill.refl) ?_; apply Exists.intro; refine ⟨fun W hW => ?_, ?_⟩; (have hE := Lex.ext_of_cls hW.1; have hE2 := Lex.ext_drew hE; clear hW; go_simp; try with_reducible rfl); simp only [Act.put, List.setIfInBounds_toArray, List.set_cons_zero, List.set_cons_succ]))
              refine Lex.lexU_nil (fun W hW => ?_)
              have hxo2 := hxo.trans (Lex.ext_drew (Lex.ext_of_cls hW.1))
              clear hW hxo e0 e1 e2 e3 f0 f1 hd0
              refine Lex.onlyN_intro ?_
              by_cases hdd : dkk < dqq
              · have HB2 := Lib.hid (HB.out.take hdone (by rw [HDK.out, HDQ.out]; exact hdd))
                clear HB
                go_wp2_with fail
                go_roundw
                case rel => exact ⟨k + 1, k, by go_num, rfl, by omega, by omega, by omega, HB2, hxo2⟩
                case measure => simp [intOf]; omega
              · have hdd' : dqq ≤ dkk := by omega
                have HB2 := Lib.hid (HB.out.keep (by rw [HDK.out, HDQ.out]; exact hdd'))
                clear HB
                go_wp2_with fail
                go_roundw
                case rel => exact ⟨k + 1, q, by go_num, rfl, by omega, by omega, by omega, HB2, hxo2⟩
                case measure => simp [intOf]; omega
        · obtain rfl : k = n := by omega
          obtain ⟨q, rfl, hqn, hql, hsel⟩ := HSEL.out.more hlt HB.out
          have hDr := hxo.at_ HD.out
          have hFr := hxo.at_ HF.out
          have q0 := blk_cell (i := q) hDr (Ext.refl _) (HDN.out.2 q hqn)
          have qf := Pack.free_of hDr q
          have hD5 := set_blk (i := q) hDr (.bool true)
          have hc5 : Chg (fun i => i = w.heap.size + 1) wr (wr.setCell ⟨w.heap.size + 1, q, none⟩ (.bool true)) := Chg.setCell (S := fun i => i = w.heap.size + 1) (Chg.refl _ wr) (p := ⟨w.heap.size + 1, q, none⟩) rfl _
          have hF5 := hc5.at_ hFr (by omega)
          have ho5 : New w (wr.setCell ⟨w.heap.size + 1, q, none⟩ (.bool true)) 3 1 A' m c' (nums .i64 (places l)) := own_put (HO.out.extNew hxo) hDr (by decide)
          have hx5 : Ext w (wr.setCell ⟨w.heap.size + 1, q, none⟩ (.bool true)) := (hx.trans hxo).chg hc5 fun i hi => by rw [hi]; omega
          have HD5 := Lib.hid hD5
          have HF5 := Lib.hid hF5
          have HSE := Lib.hid hsel
          have HDN2 := Lib.hid (HDN.out.put hqn)
          have hcap := ho5.cap.1
          have i1 : (q : Int) < k := by omega
          have i2 : (0 : Int) ≤ q := by omega
          clear hDr hFr hD5 hF5 hsel hc5 HB hql
          have hE6 := Ext.new (wr.setCell ⟨w.heap.size + 1, q, none⟩ (.bool true)) (.cells #[.int .i64 (q : Int)] 3)
          have hsz5 : wr.heap.size = (wr.setCell ⟨w.heap.size + 1, q, none⟩ (.bool true)).heap.size := by simp
          have hvs : ∀ (j : Nat) u, [Value.int .i64 (q : Int)][j]? = some u → ((wr.setCell ⟨w.heap.size + 1, q, none⟩ (.bool true)).alloc (.cells #[.int .i64 (q : Int)] 3)).cell? ⟨wr.heap.size, j, none⟩ = some u := fun j u hu => by
            rw [hsz5]
            exact blk_cell (at_new _ _) (Ext.refl _) (by simpa using hu)
          have hown6 := ho5.extNew hE6
          have hx56 := hx5.trans hE6
          have HX56 := Lib.hid hx56
          have HNE := Lib.hid (And.intro (ho5.ne HD5.out (by decide)) (ho5.ne HF5.out (by decide)))
          have HDE := Lib.hid (And.intro (hE6.at_ HD5.out) (hE6.at_ HF5.out))
          have hszx := hx56.size
          clear hsz5 hx56 hE6 ho5 hx5
          go_wp2_with (at_builtin; refine wpList_appE _ rfl _ _ _ rfl (fun i => w.heap.size ≤ i) 3 _ 1 8 Try.underlying104 info_i rfl (by decide) (by decide) (.slice A' m c') m (nums .i64 (places l)) rfl hown6 wr.heap.size 1 [.int .i64 (q : Int)] rfl rfl hvs (by simp [Value.oneCell']) ?c2 (fun i hi => Nat.le_trans hszx hi) ?_)
          case c2 => omega
          intro A6 c6 w6 ho6 hc6
          have hD6 := hc6.at_ (HDE.out.1) HNE.out.1
          have hF6 := hc6.at_ (HDE.out.2) HNE.out.2
          have hx6 : Ext w w6 := HX56.out.chg hc6 fun i hi => hown6.foot i hi
          have hpl : nums .i64 (places (l ++ [q])) = nums .i64 (places l) ++ [.int .i64 (q : Int)] := by simp [nums, places]
          rw [← hpl] at ho6
          clear hpl hc6 hown6 hvs hszx
          go_wp2_with fail
          go_roundw
          case rel => exact ⟨m + 1, A6, c6, l ++ [q], _, rfl, by omega, ho6, hD6, hF6, HDN2, HSE, hx6⟩
          case measure => simp [lenV]; omega
    · obtain rfl : m = n := by omega
      go_wp2_with fail
      go_ret
      exact ⟨hx, A', c', l, rfl, ho, HSEL.out.all⟩
end Go.Proofs.Ytaohnialheccdaa.SitePts
