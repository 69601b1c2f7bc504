/-
  The walks of the reference's TransferSteps and TransferWinners.
-/
import Derived.Test.YtiglkajafdecgaaTransStepsS
import Derived.Test.YtiglkajafdecgaaTransRun
namespace Go.Proofs.Ytiglkajafdecgaa
set_option linter.unusedVariables false
open Go.RowKit

theorem OwnS.apart {w : World} {bs : Nat} {v : Value} {n : Nat} {ss : List Bp.Stp} (h : OwnS w bs [] v n ss) {y : Nat} (hy : y < bs) : OwnS w bs [y] v n ss := by
  obtain ⟨vs, h1, h2, h3, h4⟩ := h
  refine ⟨vs, h1, h2, h3, fun z hz => ?_⟩
  rw [List.mem_singleton.1 hz]
  refine ⟨fun e => by have := (h2.lt _ e).1; omega, fun i hi e => ?_⟩
  obtain ⟨g, e1, e3, e2⟩ := (h3.sub i (by simpa using hi)).block
  rw [e1] at e
  injection e with e
  omega
set_option maxRecDepth 100000 in
set_option maxHeartbeats 2000000 in
theorem l15Ok_any (A : Option Addr) (n c : Nat) (A' : Option Addr) (m c' : Nat) (seats : Int) (ps : List Bp.Pile) (lots : List Int) (w : World) (hPs : Piles w w.heap.size A n ps) (hn : n ≤ 1048576) (hIs : Ints w w.heap.size A' m lots) (hm : m ≤ 1048576) (hmc : m ≤ c') :
    Calls Try.prog 34 #[.slice A n c, .slice A' m c', .int .i64 seats] w fun e w' => e = .returned (.bool (Bp.tval ps lots seats)) ∧ Below w.heap.size w w' := by
  have hl := Lib.hid hIs.1
  cases hok : Bp.tval ps lots seats
  · rcases Bp.tval_no hok with hlv | ⟨hlv, hf⟩ | ⟨hlv, hf, hno⟩
    · have Hlv := Lib.hid hlv
      clear hok
      go_enter Try.func34, Try.ntmps34
      go_wp2_with (go_at_call 50; refine (sLotsValid_any A' m c' lots _ _ hIs (by omega) hmc).mono ?_; rintro e w1 ⟨rfl, hd1⟩)
      go_ret
      exact ⟨rfl, hd1.below _⟩
    · rw [hl.out] at hf
      have Hlv := Lib.hid hlv
      have Hf := Lib.hid hf
      clear hok
      go_enter Try.func34, Try.ntmps34
      go_wp2_with (first | (go_at_call 50; refine (sLotsValid_any A' m c' lots _ _ hIs (by omega) hmc).mono ?_; rintro e w1 ⟨rfl, hd1⟩; have hb1 := hd1.below w.heap.size) | (go_at_call 51; refine (l3Fits_any A n c m ps _ ((hPs.below hb1).mono hb1.size) hn).mono ?_; rintro e w2 ⟨rfl, hb2⟩))
      go_ret
      exact ⟨rfl, hb1.trans (hb2.mono hb1.size)⟩
    · have hm5 := Bp.lval_n hlv
      have Hpv := Lib.hid (Bp.fits_val hf)
      rw [hl.out] at hf hm5 hno
      obtain ⟨tot, htot⟩ : ∃ tot, Bp.psum ps = tot := ⟨_, rfl⟩
      rw [htot] at hno
      have Htot := Lib.hid htot
      have Hlv := Lib.hid hlv
      have Hf := Lib.hid hf
      clear hok hlv hf htot
      by_cases hse : 1 ≤ seats ∧ seats ≤ 2 ∧ seats ≤ (m : Int)
      · have d0 : decide (tot ≤ 60) = false := decide_eq_false (by omega)
        have hin : ∀ mx : Int, mx = m ∨ mx = 2 → seats ≤ mx → Fp.inr seats 1 mx = true := fun mx h1 h2 => (Fp.inr_iff _ _ _).2 ⟨by omega, h2⟩
        have hinm := hin m (.inl rfl) (by omega)
        have hin2 := hin 2 (.inr rfl) (by omega)
        clear hin
        go_enter Try.func34, Try.ntmps34
        go_wp2_with (first | (go_at_call 50; refine (sLotsValid_any A' m c' lots _ _ hIs (by omega) hmc).mono ?_; rintro e w1 ⟨rfl, hd1⟩; have hb1 := hd1.below w.heap.size) | (go_at_call 51; refine (l3Fits_any A n c m ps _ ((hPs.below hb1).mono hb1.size) hn).mono ?_; rintro e w2 ⟨rfl, hb2⟩; have hB2 := hb1.trans (hb2.mono hb1.size)) | (go_at_call 52; refine (l6In_any _ _ _ _).mono ?_; rintro e w' ⟨rfl, rfl⟩) | (go_at_call 53; refine (l3Total_any A n c ps _ w2 (hPs.below hB2) hn Hpv.out).mono ?_; rw [Htot.out]; rintro e w' ⟨rfl, rfl⟩))
        all_goals
          go_ret
          exact ⟨rfl, hB2⟩
      · have hinm : (m : Int) < 2 → Fp.inr seats 1 m = false := fun h1 => by
          rw [← Bool.not_eq_true, Fp.inr_iff]; omega
        have hin2 : ¬ (m : Int) < 2 → Fp.inr seats 1 2 = false := fun h1 => by
          rw [← Bool.not_eq_true, Fp.inr_iff]; omega
        by_cases hm2 : (m : Int) < 2
        · have hi := hinm hm2
          clear hinm hin2
          go_enter Try.func34, Try.ntmps34
          go_wp2_with (first | (go_at_call 50; refine (sLotsValid_any A' m c' lots _ _ hIs (by omega) hmc).mono ?_; rintro e w1 ⟨rfl, hd1⟩; have hb1 := hd1.below w.heap.size) | (go_at_call 51; refine (l3Fits_any A n c m ps _ ((hPs.below hb1).mono hb1.size) hn).mono ?_; rintro e w2 ⟨rfl, hb2⟩; have hB2 := hb1.trans (hb2.mono hb1.size)) | (go_at_call 52; refine (l6In_any _ _ _ _).mono ?_; rintro e w' ⟨rfl, rfl⟩))
          all_goals
            go_ret
            exact ⟨rfl, hB2⟩
        · have hi := hin2 hm2
          clear hinm hin2
          go_enter Try.func34, Try.ntmps34
          go_wp2_with (first | (go_at_call 50; refine (sLotsValid_any A' m c' lots _ _ hIs (by omega) hmc).mono ?_; rintro e w1 ⟨rfl, hd1⟩; have hb1 := hd1.below w.heap.size) | (go_at_call 51; refine (l3Fits_any A n c m ps _ ((hPs.below hb1).mono hb1.size) hn).mono ?_; rintro e w2 ⟨rfl, hb2⟩; have hB2 := hb1.trans (hb2.mono hb1.size)) | (go_at_call 52; refine (l6In_any _ _ _ _).mono ?_; rintro e w' ⟨rfl, rfl⟩))
          all_goals
            go_ret
            exact ⟨rfl, hB2⟩
  · obtain ⟨hlv, hf, ⟨h1, h2, h3⟩, hs⟩ := (Bp.tval_iff ps lots seats).1 hok
    have Hpv := Lib.hid (Bp.fits_val hf)
    have hm5 := Bp.lval_n hlv
    rw [hl.out] at hf hm5 h3
    obtain ⟨tot, htot⟩ : ∃ tot, Bp.psum ps = tot := ⟨_, rfl⟩
    rw [htot] at hs
    have Htot := Lib.hid htot
    have Hlv := Lib.hid hlv
    have Hf := Lib.hid hf
    have d0 : decide (tot ≤ 60) = true := decide_eq_true hs
    have hinm : Fp.inr seats 1 m = true := (Fp.inr_iff _ _ _).2 ⟨h1, h3⟩
    have hin2 : Fp.inr seats 1 2 = true := (Fp.inr_iff _ _ _).2 ⟨h1, h2⟩
    clear hok hlv hf htot
    go_enter Try.func34, Try.ntmps34
    go_wp2_with (first | (go_at_call 50; refine (sLotsValid_any A' m c' lots _ _ hIs (by omega) hmc).mono ?_; rintro e w1 ⟨rfl, hd1⟩; have hb1 := hd1.below w.heap.size) | (go_at_call 51; refine (l3Fits_any A n c m ps _ ((hPs.below hb1).mono hb1.size) hn).mono ?_; rintro e w2 ⟨rfl, hb2⟩; have hB2 := hb1.trans (hb2.mono hb1.size)) | (go_at_call 52; refine (l6In_any _ _ _ _).mono ?_; rintro e w' ⟨rfl, rfl⟩) | (go_at_call 53; refine (l3Total_any A n c ps _ w2 (hPs.below hB2) hn Hpv.out).mono ?_; rw [Htot.out]; rintro e w' ⟨rfl, rfl⟩))
    all_goals
      go_ret
      exact ⟨rfl, hB2⟩
theorem l15Ok_val (A : Option Addr) (n c : Nat) (A' : Option Addr) (m c' : Nat) (seats : Int) (ps : List Bp.Pile) (lots : List Int) (v : Bool) (hv : Bp.tval ps lots seats = v) (w : World) (hPs : Piles w w.heap.size A n ps) (hn : n ≤ 1048576) (hIs : Ints w w.heap.size A' m lots) (hm : m ≤ 1048576) (hmc : m ≤ c') :
    Calls Try.prog 34 #[.slice A n c, .slice A' m c', .int .i64 seats] w fun e w' => e = .returned (.bool v) ∧ Below w.heap.size w w' := by
  subst hv; exact l15Ok_any A n c A' m c' seats ps lots w hPs hn hIs hm hmc
set_option maxRecDepth 100000 in
set_option maxHeartbeats 400000 in
theorem sTransferSteps_any (A : Option Addr) (n c : Nat) (A' : Option Addr) (m c' : Nat) (seats : Int) (ps : List Bp.Pile) (lots : List Int) (w : World) (hPs : Piles w w.heap.size A n ps) (hn : n ≤ 1048576) (hIs : Ints w w.heap.size A' m lots) (hm : m ≤ 1048576) (hmc : m ≤ c') :
    Calls Try.prog 22 #[.slice A n c, .slice A' m c', .int .i64 seats] w (StepsRes (Bp.tval ps lots seats) (Bp.transfer ps lots seats) w) := by
  cases hok : Bp.tval ps lots seats
  · have Hok := Lib.hid hok
    clear hok
    go_enter Try.func22, Try.ntmps22
    go_wp2_with (go_at_call 34; refine (l15Ok_val A n c A' m c' seats ps lots false Hok.out _ hPs hn hIs hm hmc).mono ?_; rintro e w1 ⟨rfl, hb1⟩)
    go_ret2
    exact ⟨_, 0, 0, rfl, Nat.le_refl _, by omega, by rw [sres_no rfl]; exact st_lit hb1.size, hb1.alloc hb1.size _⟩
  · have Hok := Lib.hid hok
    clear hok
    go_enter Try.func22, Try.ntmps22
    go_wp2_with (go_at_call 34; refine (l15Ok_val A n c A' m c' seats ps lots true Hok.out _ hPs hn hIs hm hmc).mono ?_; rintro e w1 ⟨rfl, hb1⟩)
    refine (l15Steps_any A n c A' m c' seats ps lots _ ((hPs.below hb1).mono hb1.size) hn ((hIs.below hb1).mono hb1.size) Hok.out).mono ?_
    rintro e w2 ⟨A3, k, c3, rfl, hkc, hk5, hown, hb2⟩
    have hs1 := hb1.size
    go_wp2_with fail
    go_ret2
    exact ⟨A3, k, c3, rfl, hkc, hk5, by rw [sres_yes rfl]; exact hown.base (by omega), hb1.trans (hb2.mono hs1)⟩
set_option maxRecDepth 100000 in
set_option maxHeartbeats 2000000 in
theorem sTransferWinners_any (A : Option Addr) (n c : Nat) (A' : Option Addr) (m c' : Nat) (seats : Int) (ps : List Bp.Pile) (lots : List Int) (w : World) (hPs : Piles w w.heap.size A n ps) (hn : n ≤ 1048576) (hIs : Ints w w.heap.size A' m lots) (hm : m ≤ 1048576) (hmc : m ≤ c') :
    Calls Try.prog 11 #[.slice A n c, .slice A' m c', .int .i64 seats] w (IntsRes (Bp.twin (sres (Bp.tval ps lots seats) (Bp.transfer ps lots seats))) w) := by
  obtain ⟨i0, hi0, hz0, hz1, hz2⟩ := info_parts int_info
  have hal0 : Below w.heap.size w (w.alloc (.cells #[] 3)) := (Below.refl _ _).alloc (Nat.le_refl _) _
  cases hok : Bp.tval ps lots seats
  · have Hok := Lib.hid hok
    clear hok
    go_enter Try.func11, Try.ntmps11
    go_wp2_with (go_at_call 34; refine (l15Ok_val A n c A' m c' seats ps lots false Hok.out _ ((hPs.below hal0).mono (by simp)) hn ((hIs.below hal0).mono (by simp)) hm hmc).mono ?_; rintro e w1 ⟨rfl, hb1⟩)
    go_ret
    rw [sres_no rfl]
    exact ⟨_, 0, 0, rfl, Nat.le_refl _, by omega, own_keep (World.ownsRow_lit w #[] 0 (Nat.le_refl _) (by decide) rfl) hb1, hal0.trans (hb1.mono (by simp))⟩
  · have Hok := Lib.hid hok
    clear hok
    go_enter Try.func11, Try.ntmps11
    go_wp2_with (go_at_call 34; refine (l15Ok_val A n c A' m c' seats ps lots true Hok.out _ ((hPs.below hal0).mono (by simp)) hn ((hIs.below hal0).mono (by simp)) hm hmc).mono ?_; rintro e w1 ⟨rfl, hb1⟩)
    have hB1 := hal0.trans (hb1.mono (by simp))
    have hs1 := hB1.size
    have own1 : Own w1 w.heap.size (.slice (some ⟨w.heap.size, 0, none⟩) 0 0) 0 [] := own_keep (World.ownsRow_lit w #[] 0 (Nat.le_refl _) (by decide) rfl) hb1
    refine (l15Steps_any A n c A' m c' seats ps lots _ ((hPs.below hB1).mono hs1) hn ((hIs.below hB1).mono hs1) Hok.out).mono ?_
    rintro e w2 ⟨A1, k, c1, rfl, hkc, hk5, hownS, hb2⟩
    have hB2 := hB1.trans (hb2.mono hs1)
    have own2 := own_keep own1.row hb2
    obtain ⟨ss, hss⟩ : ∃ ss, Bp.transfer ps lots seats = ss := ⟨_, rfl⟩
    rw [hss] at hownS
    rw [sres_yes rfl, hss]
    have hwl : w.heap.size < w1.heap.size := by have := hb1.size; simp at this; omega
    have hS0 : OwnS w2 w1.heap.size [w.heap.size] (.slice A1 k c1) k ss := hownS.apart hwl
    have hl := Lib.hid hownS.len
    have Hss := Lib.hid hss
    clear hss hownS own1 hB1 hs1 hb1 hb2 hal0
    go_wp2_with fail
    go_loopw [7, 9] (fun v i wr => ∃ (j G n3 c3 : Nat), j ≤ k ∧ i = .int .i64 j ∧ v = .slice (some ⟨G, 0, none⟩) n3 c3 ∧ n3 ≤ c3 ∧ n3 ≤ j ∧ Own wr w.heap.size (.slice (some ⟨G, 0, none⟩) n3 c3) n3 (Bp.twinTo ss j) ∧ OwnS wr w1.heap.size [G] (.slice A1 k c1) k ss ∧ Below w.heap.size w wr) (fun _ i _ => k - (intOf i).toNat)
    case atStart => exact ⟨0, _, 0, 0, Nat.zero_le _, rfl, rfl, Nat.le_refl _, Nat.le_refl _, own2, hS0, hB2⟩
    case round =>
      obtain ⟨j, G, n3, c3, hj, rfl, rfl, hnc3, hn3, hown, hS, hb⟩ := hrel
      have hz := hb.size
      clear own2 hS0 hB2
      by_cases hlt : j < k
      · obtain ⟨g, o, A4, m4, c4, who, kind, rfl, hg, k0, _, _, k1, k2, hwk⟩ := hS.view.at hlt
        have hjl : j < ss.length := by rw [hl.out]; exact hlt
        have hst := Bp.twinTo_succ ss hjl
        rw [hwk.out.1, hwk.out.2] at hst
        have Hst := Lib.hid hst
        have i1 : (0 : Int) ≤ (j : Int) := by omega
        have i2 : (j : Int) < (k : Int) := by omega
        clear hst hwk
        by_cases hk2 : kind = 2
        · subst hk2
          go_wp2_with fail
          go_roundw
          case rel => exact ⟨j + 1, G, n3, c3, by omega, by go_num, rfl, hnc3, by omega, by rw [Hst.out, if_pos rfl]; exact hown, hS, hb⟩
          case measure => simp [intOf]; omega
        · have d0 : (kind != 2) = true := by simpa using hk2
          have hal : Below wr.heap.size wr (wr.alloc (.cells #[.int .i64 who] 3)) := (Below.refl _ _).alloc (Nat.le_refl _) _
          go_wp2_with (at_builtin; refine wpList_append_own_at _ rfl (.tmp 33) (.tmp 39) 23 rfl w.heap.size 3 i0 _ 1 8 Try.underlying23 hi0 hz0 hz1 hz2 rfl (by decide) (.slice (some ⟨G, 0, none⟩) n3 c3) n3 _ rfl (hown.row.alloc _) ⟨wr.heap.size, 0, none⟩ 1 1 [.int .i64 who] rfl rfl (cell_one_new _ _ _) (by simp [Value.oneCell']) (by unfold maxLen; omega) (by omega) (by simp; omega) ?_; intro v1 w5 hown5 hg5 hv5 hat5; obtain ⟨G5, c5, rfl, hnc5, hGb5⟩ := own_form' hown5 (fun e => by have := hv5.1 e; cases this.1); clear hv5)
          go_roundw
          case rel =>
            have hS5 := ((hS.keep hal).avoid (y := (wr.alloc (.cells #[.int .i64 who] 3)).heap.size) (Nat.le_refl _)).kept (w' := w5) (grownBy_kept hg5 (by simp) (Nat.le_refl _))
            have hS6 : OwnS w5 w1.heap.size [G5] (.slice (some ⟨g, o, none⟩) k c1) k ss := hS5.less (fun y hy => by
              rw [List.mem_singleton.1 hy]
              rcases hat5 with e | e
              · have : G5 = G := Option.some.inj e
                simp [this]
              · have : G5 = _ := Option.some.inj e
                simp [this])
            refine ⟨j + 1, G5, n3 + 1, c5, by omega, by go_num, rfl, hnc5, by omega, ?_, hS6, (hb.trans (hal.mono hz)).grown hg5 (by simp; omega) (fun g hg => (hown.row.lt g hg).1)⟩
            rw [Hst.out, if_neg hk2]
            unfold Own
            rw [List.map_append]
            exact hown5
          case measure => simp [intOf]; omega
      · have hjk : j = k := by omega
        have htk : Bp.twinTo ss j = Bp.twin ss := by
          unfold Bp.twinTo
          rw [List.take_of_length_le (by rw [hl.out]; omega)]
        rw [htk] at hown
        have Hown := Lib.hid hown
        clear hown htk
        go_wp2_with fail
        go_ret
        exact ⟨_, n3, c3, rfl, hnc3, by omega, by rw [sres_yes rfl, Hss.out]; exact Hown.out, hb⟩
end Go.Proofs.Ytiglkajafdecgaa
