/-
  The walks of the program's TransferSteps and TransferWinners.
-/
import Derived.Test.YtiglkajafdecgaaTransNew
import Derived.Test.YtiglkajafdecgaaTransLaw
import Derived.Test.YtiglkajafdecgaaTransOut
import Derived.Deep.DeepCutAuto
namespace Go.Proofs.Ytiglkajafdecgaa
set_option linter.unusedVariables false
open Go.RowKit

theorem TrAt.far {w w' : World} {B T W L : Nat} {A : Option Addr} {n c : Nat} {A' : Option Addr} {m c' : Nat} {q : Int} {t : Bp.Tst} {f : Nat} (h : TrAt w B T W L A n c A' m c' q t f) {row : Option Nat} (hg : w.grownBy w' row) (h1 : some T ≠ row) (h2 : some W ≠ row) (h3 : some L ≠ row) : TrAt w' B T W L A n c A' m c' q t f := by
  have tT := lt_of_cell h.c0
  exact ⟨hg.cell h.c0 h1, hg.cell h.c1 h1, hg.cell h.c2 h1, hg.cell h.c3 h1, hg.cell h.c4 h1, hg.cell h.c5 h1, hg.cell h.c6 h1, (World.frozen?_of_block (a := ⟨T, 4, none⟩) (hg.block T tT h1)).trans h.f4, (World.frozen?_of_block (a := ⟨T, 5, none⟩) (hg.block T tT h1)).trans h.f5,
    h.TW, h.TL, h.LW, h.bT, h.bW, h.bL, Nat.lt_of_lt_of_le h.lL hg.size, h.W.row.kept hg (.inr h2), h.L.row.kept hg (.inr h3)⟩
theorem TrAt.keep {w w' : World} {B T W L : Nat} {A : Option Addr} {n c : Nat} {A' : Option Addr} {m c' : Nat} {q : Int} {t : Bp.Tst} {f : Nat} (h : TrAt w B T W L A n c A' m c' q t f) (hb : Below w.heap.size w w') : TrAt w' B T W L A n c A' m c' q t f :=
  h.far (only_of_below hb none) (by simp) (by simp) (by simp)
theorem Bp.tval_no {ps : List Bp.Pile} {lots : List Int} {seats : Int} (h : Bp.tval ps lots seats = false) : Bp.lval lots = false ∨ (Bp.lval lots = true ∧ Bp.fits ps lots.length = false) ∨ (Bp.lval lots = true ∧ Bp.fits ps lots.length = true ∧ (60 < Bp.psum ps ∨ (Bp.psum ps ≤ 60 ∧ (seats < 1 ∨ (1 ≤ seats ∧ (2 < seats ∨ (lots.length : Int) < seats)))))) := by
  cases h1 : Bp.lval lots
  · exact .inl rfl
  · cases h2 : Bp.fits ps lots.length
    · exact .inr (.inl ⟨rfl, rfl⟩)
    · refine .inr (.inr ⟨rfl, rfl, ?_⟩)
      have h3 := mt (Bp.tval_iff ps lots seats).2 (by simp [h])
      simp only [h1, h2, true_and] at h3
      omega
set_option maxRecDepth 100000 in
set_option maxHeartbeats 8000000 in
theorem iTransferSteps_any (A : Option Addr) (n c : Nat) (A' : Option Addr) (m c' : Nat) (seats : Int) (ps : List Bp.Pile) (lots : List Int) (w : World) (hPs : Piles w w.heap.size A n ps) (hn : n ≤ 1048576) (hnc : n ≤ c) (hIs : Ints w w.heap.size A' m lots) (hm : m ≤ 1048576) (hmc : m ≤ c') :
    Calls Try.prog 21 #[.slice A n c, .slice A' m c', .int .i64 seats] w (StepsRes (Bp.tval ps lots seats) (Bp.transfer ps lots seats) w) := by
  have hl := Lib.hid hIs.1
  cases hok : Bp.tval ps lots seats
  · rcases Bp.tval_no hok with hlv | ⟨hlv, hf⟩ | ⟨hlv, hf, hno⟩
    · have Hlv := Lib.hid hlv
      clear hok
      go_enter Try.func21, Try.ntmps21
      go_wp2_with (go_at_call 41; refine (iLotsValid_any A' m c' lots _ _ hIs (by omega) hmc).mono ?_; rintro e w' ⟨rfl, rfl⟩)
      go_ret2
      exact stepsRes_none rfl (Below.refl _ _)
    · rw [hl.out] at hf
      have Hlv := Lib.hid hlv
      have Hf := Lib.hid hf
      clear hok
      go_enter Try.func21, Try.ntmps21
      go_wp2_with (first | (go_at_call 41; refine (iLotsValid_any A' m c' lots _ _ hIs (by omega) hmc).mono ?_; rintro e w' ⟨rfl, rfl⟩) | (go_at_call 42; refine (pilesFit_any A n c m ps _ hPs hn hnc).mono ?_; rintro e w1 ⟨rfl, hb1⟩))
      go_ret2
      exact stepsRes_none rfl hb1
    · have hpt := Bp.ptotal_yes (Bp.fits_val hf)
      have hps := Bp.psum_bd (Bp.fits_val hf)
      have hm5 := Bp.lval_n hlv
      rw [hl.out] at hf hm5 hno
      obtain ⟨tot, htot⟩ : ∃ tot, Bp.psum ps = tot := ⟨_, rfl⟩
      rw [htot] at hpt hno hps
      have Hlv := Lib.hid hlv
      have Hf := Lib.hid hf
      have Hpt := Lib.hid hpt
      clear hok hlv hf hpt htot
      rcases hno with h60 | ⟨h60, h1 | ⟨h1, h2⟩⟩
      · have d0 : decide ((60 : Int) < tot) = true := decide_eq_true h60
        go_enter Try.func21, Try.ntmps21
        go_wp2_with (first | (go_at_call 41; refine (iLotsValid_any A' m c' lots _ _ hIs (by omega) hmc).mono ?_; rintro e w' ⟨rfl, rfl⟩) | (go_at_call 42; refine (pilesFit_any A n c m ps _ hPs hn hnc).mono ?_; rintro e w1 ⟨rfl, hb1⟩) | (go_at_call 25; refine (iPilesTotal_yes A n c ps tot Hpt.out w1 ((hPs.below hb1).mono hb1.size) hn hnc).mono ?_; rintro e w2 ⟨rfl, hb2⟩))
        go_ret2
        exact stepsRes_none rfl (hb1.trans (hb2.mono hb1.size))
      · have d0 : decide ((60 : Int) < tot) = false := decide_eq_false (by omega)
        have d1 : decide (seats < 1) = true := decide_eq_true h1
        go_enter Try.func21, Try.ntmps21
        go_wp2_with (first | (go_at_call 41; refine (iLotsValid_any A' m c' lots _ _ hIs (by omega) hmc).mono ?_; rintro e w' ⟨rfl, rfl⟩) | (go_at_call 42; refine (pilesFit_any A n c m ps _ hPs hn hnc).mono ?_; rintro e w1 ⟨rfl, hb1⟩) | (go_at_call 25; refine (iPilesTotal_yes A n c ps tot Hpt.out w1 ((hPs.below hb1).mono hb1.size) hn hnc).mono ?_; rintro e w2 ⟨rfl, hb2⟩))
        go_ret2
        exact stepsRes_none rfl (hb1.trans (hb2.mono hb1.size))
      · have d0 : decide ((60 : Int) < tot) = false := decide_eq_false (by omega)
        have d1 : decide (seats < 1) = false := decide_eq_false (by omega)
        go_enter Try.func21, Try.ntmps21
        go_wp2_with (first | (go_at_call 41; refine (iLotsValid_any A' m c' lots _ _ hIs (by omega) hmc).mono ?_; rintro e w' ⟨rfl, rfl⟩) | (go_at_call 42; refine (pilesFit_any A n c m ps _ hPs hn hnc).mono ?_; rintro e w1 ⟨rfl, hb1⟩) | (go_at_call 25; refine (iPilesTotal_yes A n c ps tot Hpt.out w1 ((hPs.below hb1).mono hb1.size) hn hnc).mono ?_; rintro e w2 ⟨rfl, hb2⟩))
        all_goals first
          | (exfalso; omega)
          | (go_ret2
             exact stepsRes_none rfl (hb1.trans (hb2.mono hb1.size)))
  · obtain ⟨hlv, hf, ⟨h1, h2, h3⟩, hs⟩ := (Bp.tval_iff ps lots seats).1 hok
    have hpt := Bp.ptotal_yes (Bp.fits_val hf)
    have hq := Bp.tquota_bd (Bp.fits_val hf) hs h1
    have hm5 := Bp.lval_n hlv
    have hst := Bp.tstart_ok (ps := ps) h1 h2 h3
    rw [hl.out] at hf hm5 h3 hst
    obtain ⟨m1, m5⟩ := hm5
    obtain ⟨tot, htot⟩ : ∃ tot, Bp.psum ps = tot := ⟨_, rfl⟩
    have hs' := hs
    rw [htot] at hpt hs'
    have Hlv := Lib.hid hlv
    have Hf := Lib.hid hf
    have Hpt := Lib.hid hpt
    have Hok := Lib.hid hok
    have Hst := Lib.hid hst
    clear hlv hf hpt htot hok hst
    have d0 : decide ((60 : Int) < tot) = false := decide_eq_false (by omega)
    have d1 : decide (seats < 1) = false := decide_eq_false (by omega)
    obtain ⟨j0, hj0, hy0, hy1, hy2⟩ := info_parts step_info
    go_enter Try.func21, Try.ntmps21
    go_upto_region 3 with (first | (go_at_call 41; refine (iLotsValid_any A' m c' lots _ _ hIs (by omega) hmc).mono ?_; rintro e w' ⟨rfl, rfl⟩) | (go_at_call 42; refine (pilesFit_any A n c m ps _ hPs hn hnc).mono ?_; rintro e w1 ⟨rfl, hb1⟩) | (go_at_call 25; refine (iPilesTotal_yes A n c ps tot Hpt.out w1 ((hPs.below hb1).mono hb1.size) hn hnc).mono ?_; rintro e w2 ⟨rfl, hb2⟩))
    have hB2 : Below w.heap.size w w2 := hb1.trans (hb2.mono hb1.size)
    have hz2 := hB2.size
    clear hb1 hb2
    go_wp2_with fail
    all_goals
      refine (newTransfer_any A n c A' m c' seats ps lots _ ((hPs.below hB2).mono hz2) ((hIs.below hB2).mono hz2) hnc Hok.out).mono ?_
      rintro e w3 ⟨T, W, L, rfl, hT, hb3⟩
      obtain ⟨q, hqe⟩ : ∃ q, Bp.tquota ps seats = q := ⟨_, rfl⟩
      rw [hqe] at hT hq
      obtain ⟨B, hBe⟩ : ∃ B, w2.heap.size = B := ⟨_, rfl⟩
      rw [hBe] at hT hb3 hz2
      have Hqe := Lib.hid hqe
      have hB3 : Below w.heap.size w w3 := hB2.trans (hb3.mono hz2)
      have hz3 : B ≤ w3.heap.size := by rw [← hBe]; rw [← hBe] at hb3; exact hb3.size
      have HBe := Lib.hid hBe
      clear hqe hBe hB2 hb3
      go_wp2_with fail
      go_loopw [9] (fun v wr => ∃ (k : Nat) (A3 : Option Addr) (c3 : Nat) (t : Bp.Tst) (f : Nat) (ss : List Bp.Stp), v = .slice A3 k c3 ∧ k ≤ c3 ∧ k + f = m ∧ Hid (Bp.transfer ps lots seats = ss ++ Bp.tsteps ps lots q f t) ∧ Hid (Bp.Tok ps lots f t) ∧ TrAt wr B T W L A n c A' m c' q t f ∧ OwnS wr w.heap.size [T, W, L] (.slice A3 k c3) k ss ∧ Below w.heap.size w wr ∧ B ≤ wr.heap.size) (fun v _ => m - stepN v)
      case atStart =>
        refine ⟨0, none, 0, _, m, [], rfl, Nat.le_refl _, by omega, ?_, Hst.out, hT, OwnS.nil _ _ _, hB3, hz3⟩
        show Bp.transfer ps lots seats = _
        unfold Bp.transfer
        rw [Hqe.out, hl.out]
        rfl
      case round =>
        obtain ⟨k, A3, c3, t, f, ss, rfl, hkc, hkf, hall, htok, hT, hown, hb, hz⟩ := hrel
        clear hB3 hz3
        have cT5 := hT.c5
        by_cases ht1 : 1 ≤ t.s
        · obtain ⟨f', rfl⟩ : ∃ f', f = f' + 1 := ⟨f - 1, by have := htok.out.sf; omega⟩
          have d5 : decide ((0 : Int) < t.s) = true := decide_eq_true (by omega)
          have hzw := hb.size
          go_wp2_with fail
          refine (step_any B T W L A n c A' m c' q t f' ps lots _ hT ((hPs.below hb).mono hz2) ((hIs.below hb).mono hz2) hnc hmc hz Hlv.out Hf.out hs hq.1 hq.2 htok.out ht1).mono ?_
          rintro e w4 ⟨g, rfl, hg, hownG, hT4, hK⟩
          have hz4 := hK.1.2.2.2
          obtain ⟨vs, hS⟩ := (hown.avoid (y := g) hg).kept (hK.more (Y := g :: [T, W, L]) (fun x hx => List.mem_cons_of_mem _ hx))
          have hrow := hS.2.1
          have HS := Lib.hid hS
          have hnext := htok.out.next (q := q) Hlv.out (Bp.fits_val Hf.out) hs hq.1 ht1
          have hall' : Bp.transfer ps lots seats = (ss ++ [t.stp ps lots q]) ++ Bp.tsteps ps lots q f' (t.next ps lots q) := by
            rw [hall.out, Bp.tsteps_go ps lots q ht1 f', List.append_assoc]
            rfl
          have hB4 : Below w.heap.size w w4 := hb.trans (Below.trans (Below.refl _ _) (Kept.below (hK.less hzw) (fun x hx => by
            have h1 := hT.bT; have h2 := hT.bW; have h3 := hT.bL
            simp only [List.mem_cons, List.not_mem_nil, or_false] at hx
            omega)))
          have Hall := Lib.hid hall'
          have Hnext := Lib.hid hnext
          have hal : ∀ o : Obj, Below w4.heap.size w4 (w4.alloc o) := fun o => (Below.refl w4.heap.size w4).alloc (Nat.le_refl _) o
          have hgw : w.heap.size ≤ g := Nat.le_trans hzw hg
          have hgl := (hownG.row.lt g rfl).2
          have tT : T < wr.heap.size := lt_of_cell hT.c0
          have tW := (hT.W.row.lt W rfl).2
          have tL := hT.lL
          clear hS hown hall' hnext hall hT cT5
          go_wp2_with (at_builtin; refine wpList_append_own_at _ rfl (.tmp 45) (.tmp 48) 37 rfl w.heap.size 47 j0 _ 3 40 Try.underlying37 hj0 hy0 hy1 hy2 rfl (by decide) (.slice A3 k c3) k _ rfl (hrow.alloc _) ⟨w4.heap.size, 0, none⟩ 1 1 [.slice (some ⟨g, 0, none⟩) m m, .int .i64 (t.who ps lots q), .int .i64 (t.kind ps lots q)] rfl rfl (three_new _ _ _ _ _) (by simp [Value.oneCell']) (by unfold maxLen; omega) (by omega) (by simp; omega) ?_; intro v1 w5 hown5 hg5 _ hat5; obtain ⟨A4, c4, rfl, hkc4⟩ := own_slice hown5)
          go_roundw
          case rel =>
            have hT5 : TrAt w5 B T W L A n c A' m c' q (t.next ps lots q) f' := (hT4.keep (hal _)).far hg5 (HS.out.2.2.2 T (by simp)).1.symm (HS.out.2.2.2 W (by simp)).1.symm (HS.out.2.2.2 L (by simp)).1.symm
            have hR : OwnS w5 w.heap.size [T, W, L] (.slice A4 (k + 1) c4) (k + 1) (ss ++ [t.stp ps lots q]) := by
              refine (HS.out.keep (hal _)).snoc (m := m) (hownG.len) ((hownG.base hzw).keep (hal _)) (fun y hy => ?_) hg5 hat5 hown5
              simp only [List.mem_cons, List.not_mem_nil, or_false] at hy
              have := (hal (.cells #[.slice (some ⟨g, 0, none⟩) m m, .int .i64 (t.who ps lots q), .int .i64 (t.kind ps lots q)] 47)).size
              omega
            exact ⟨k + 1, A4, c4, _, f', _, rfl, hkc4, by omega, Hall.out, Hnext.out, hT5, hR, (hB4.alloc (by omega) _).grown hg5 (by simp; omega) (fun g hg => (hrow.lt g hg).1), by have := hg5.size; simp at this; omega⟩
          case measure => simp [stepN]; omega
        · have ht0 : t.s ≤ 0 := by omega
          have d5 : decide ((0 : Int) < t.s) = false := decide_eq_false (by omega)
          have hfin : Bp.transfer ps lots seats = ss := by rw [hall.out, Bp.tsteps_stop ps lots q ht0, List.append_nil]
          have Hfin := Lib.hid hfin
          clear hfin hall
          go_wp2_with fail
          go_ret2
          exact ⟨A3, k, c3, rfl, hkc, by omega, by rw [sres_yes rfl, Hfin.out]; exact hown.less (fun y hy => by cases hy), hb⟩
/-- what a function of numbers leaves, as a slice -/
def IntsRes (zs : List Int) (w : World) (e : Ending) (w' : World) : Prop :=
  ∃ (A : Option Addr) (n c : Nat), e = .returned (.slice A n c) ∧ n ≤ c ∧ n ≤ 5 ∧ Own w' w.heap.size (.slice A n c) n zs ∧ Below w.heap.size w w'
/-- who has got a seat in the first k steps -/
def Bp.twinTo (ss : List Bp.Stp) (k : Nat) : List Int := Bp.twin (ss.take k)
theorem Bp.twinTo_succ (ss : List Bp.Stp) {k : Nat} (hk : k < ss.length) : Bp.twinTo ss (k + 1) = if (ss.getD k default).kind = 2 then Bp.twinTo ss k else Bp.twinTo ss k ++ [(ss.getD k default).who] := by
  unfold Bp.twinTo
  rw [Bp.take_more ss hk, Bp.twin_append, Bp.twin_cons, Bp.twin_nil]
  split
  · rw [List.append_nil]
  · rfl
set_option maxRecDepth 100000 in
set_option maxHeartbeats 2000000 in
theorem iTransferWinners_any (A : Option Addr) (n c : Nat) (A' : Option Addr) (m c' : Nat) (seats : Int) (ps : List Bp.Pile) (lots : List Int) (w : World) (hPs : Piles w w.heap.size A n ps) (hn : n ≤ 1048576) (hnc : n ≤ c) (hIs : Ints w w.heap.size A' m lots) (hm : m ≤ 1048576) (hmc : m ≤ c') :
    Calls Try.prog 14 #[.slice A n c, .slice A' m c', .int .i64 seats] w (IntsRes (Bp.twin (sres (Bp.tval ps lots seats) (Bp.transfer ps lots seats))) w) := by
  obtain ⟨i0, hi0, hz0, hz1, hz2⟩ := info_parts int_info
  go_enter Try.func14, Try.ntmps14
  go_wp2_with fail
  refine (iTransferSteps_any A n c A' m c' seats ps lots _ hPs hn hnc hIs hm hmc).mono ?_
  rintro e w1 ⟨A1, k, c1, rfl, hkc, hk5, hown, hb1⟩
  obtain ⟨ss, hss⟩ : ∃ ss, sres (Bp.tval ps lots seats) (Bp.transfer ps lots seats) = ss := ⟨_, rfl⟩
  obtain ⟨ok, hok⟩ : ∃ ok, Bp.tval ps lots seats = ok := ⟨_, rfl⟩
  rw [hss] at hown ⊢
  rw [hok]
  have hv := hown.view
  have hs1 := hb1.size
  have hl := Lib.hid hv.1
  have Hss := Lib.hid hss
  clear hown hss hok
  go_wp2_with fail
  go_loopw [9, 21] (fun v i wr => ∃ (j : Nat) (A3 : Option Addr) (n3 c3 : Nat), j ≤ k ∧ i = .int .i64 j ∧ v = .slice A3 n3 c3 ∧ n3 ≤ c3 ∧ n3 ≤ j ∧ Own wr w1.heap.size (.slice A3 n3 c3) n3 (Bp.twinTo ss j) ∧ Below w1.heap.size w1 wr) (fun _ i _ => k - (intOf i).toNat)
  case atStart => exact ⟨0, none, 0, 0, Nat.zero_le _, rfl, rfl, Nat.le_refl _, Nat.le_refl _, World.ownsRow_nil w1 _ _ _, Below.refl _ _⟩
  case round =>
    obtain ⟨j, A3, n3, c3, hj, rfl, rfl, hnc3, hn3, hown, hb⟩ := hrel
    have hz := hb.size
    by_cases hlt : j < k
    · obtain ⟨g, o, A4, m4, c4, who, kind, rfl, hg, k0, _, _, k1, k2, hwk⟩ := (hv.below hb).at hlt
      have hjl : j < ss.length := by rw [hl.out]; exact hlt
      have hst := Bp.twinTo_succ ss hjl
      rw [hwk.out.1, hwk.out.2] at hst
      have Hst := Lib.hid hst
      clear hst hwk
      by_cases hk2 : kind = 2
      · subst hk2
        go_wp2_with fail
        go_roundw
        case rel => exact ⟨j + 1, A3, n3, c3, by omega, by go_num, rfl, hnc3, by omega, by rw [Hst.out, if_pos rfl]; exact own_keep hown.row ((Below.refl _ _).alloc (Nat.le_refl _) _), hb.alloc hb.size _⟩
        case measure => simp [intOf]; omega
      · have d0 : (kind != 2) = true := by simpa using hk2
        go_upto_region 6 with (fail)
        obtain ⟨wx, hwx⟩ : ∃ wx, wr.alloc (.cells #[.slice A4 m4 c4, .int .i64 who, .int .i64 kind] 47) = wx := ⟨_, rfl⟩
        have hbx : Below wr.heap.size wr wx := by rw [← hwx]; exact (Below.refl _ _).alloc (Nat.le_refl _) _
        have hzx : wr.heap.size < wx.heap.size := by rw [← hwx]; simp
        have x1 : wx.cell? ⟨wr.heap.size, 1, none⟩ = some (.int .i64 who) := by rw [← hwx]; simp [go_sem]
        have x2 : wx.cell? ⟨wr.heap.size, 2, none⟩ = some (.int .i64 kind) := by rw [← hwx]; simp [go_sem]
        have hownx := own_keep hown.row hbx
        have hbX := hb.trans (hbx.mono hb.size)
        rw [hwx]
        clear hwx hown hbx k0 k1 k2
        go_wp2_with (at_builtin; refine wpList_append_own _ rfl (.tmp 28) (.tmp 31) 23 rfl w1.heap.size 3 i0 _ 1 8 Try.underlying23 hi0 hz0 hz1 hz2 rfl (by decide) (.slice A3 n3 c3) n3 _ rfl (hownx.alloc _) ⟨wx.heap.size, 0, none⟩ 1 1 [.int .i64 who] rfl rfl (cell_one_new _ _ _) (by simp [Value.oneCell']) (by unfold maxLen; omega) (by omega) (by simp; omega) ?_; intro v1 w2 hown2 hg2 _; obtain ⟨A5, c5, rfl, hnc5⟩ := own_slice hown2)
        go_roundw
        case rel =>
          have hal : Below wx.heap.size wx (wx.alloc (.cells #[.int .i64 who] 3)) := (Below.refl _ _).alloc (Nat.le_refl _) _
          refine ⟨j + 1, A5, n3 + 1, c5, by omega, by go_num, rfl, hnc5, by omega, ?_, ?_⟩
          · rw [Hst.out, if_neg hk2]
            unfold Own
            rw [List.map_append]
            exact hown2
          · exact (hbX.alloc (by omega) _).grown hg2 (by simp; omega) (fun g hg => (hownx.lt g hg).1)
        case measure => simp [intOf]; omega
    · have hjk : j = k := by omega
      have htk : Bp.twinTo ss j = Bp.twin ss := by
        unfold Bp.twinTo
        rw [List.take_of_length_le (by rw [hl.out]; omega)]
      have Htk := Lib.hid htk
      clear htk
      go_wp2_with fail
      go_ret
      exact ⟨A3, n3, c3, rfl, hnc3, by omega, by rw [Hss.out, ← Htk.out]; exact own_base hown hs1, hb1.trans (hb.mono hs1)⟩
end Go.Proofs.Ytiglkajafdecgaa
