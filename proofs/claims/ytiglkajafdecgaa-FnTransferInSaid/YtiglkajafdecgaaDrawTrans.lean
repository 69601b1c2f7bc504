/-
  Drawn piles, lots and seats of a transfer: some of the call's own.
-/
import Derived.Test.YtiglkajafdecgaaDrawLots
import Derived.Test.YtiglkajafdecgaaTotals
namespace Go.Proofs.Ytiglkajafdecgaa
set_option linter.unusedVariables false
open Go.RowKit

/-- drawn piles, lots and a number -/
def DrawnPLS (w : World) (g b : Nat) (e : Ending) (w' : World) : Prop :=
  ∃ (g1 n c : Nat) (A : Option Addr) (m c' : Nat) (ps : List (ByteArray × Int)) (zs : List Int) (s : Int), e = .returned (.tuple #[.slice (some ⟨g1, 0, none⟩) n c, .slice A m c', .int .i64 s]) ∧ n ≤ c ∧ n ≤ 100 ∧ m ≤ c' ∧ m ≤ 10 ∧ (0 ≤ s ∧ s ≤ 5) ∧ (∀ p ∈ ps, p.1.size ≤ 1048576) ∧
    OwnP w' w.heap.size (.slice (some ⟨g1, 0, none⟩) n c) n ps ∧ Own w' w.heap.size (.slice A m c') m zs ∧ w.grownBy w' (some g) ∧ RdLe w' g b
set_option maxRecDepth 100000 in
set_option maxHeartbeats 4000000 in
theorem l93Transfer_some (g b : Nat) (w : World) (h : RdLe w g b) (hp : b ≤ 1000000) :
    Calls Try.prog 39 #[.pointer (some ⟨g, 0, none⟩)] w (DrawnPLS w g (b + 1000)) := by
  have hlt := h.lt
  obtain ⟨i0, hi0, hz0, hz1, hz2⟩ := info_parts pile_row0
  go_enter Try.func39, Try.ntmps39
  go_wp2_with fail
  refine (pick_b g b 4 _ h (by omega)).mono ?_
  rintro e w1 ⟨q, rfl, hq0, hq1, -, hg1, hr1⟩
  have hq := hq1 (by omega)
  have hs1 := hg1.size
  have hn0 : -1000 ≤ 2 + q := by omega
  have hn1 : 2 + q ≤ 1000 := by omega
  clear hq1
  go_wp2_with fail
  have O1 : w.grownBy (w1.alloc (.cells #[] 57)) (some g) := only_alloc hg1 _
  have own1 : OwnP (w1.alloc (.cells #[] 57)) w.heap.size (.slice (some ⟨w1.heap.size, 0, none⟩) 0 0) 0 [] := own_lit0 hs1
  refine (pick_b g (b + 1) 9 _ (hr1.alloc _) (by omega)).mono ?_
  rintro e w2 ⟨x, rfl, hx0, hx1, -, hg2, hr2⟩
  have hx := hx1 (by omega)
  have O2 := only_trans O1 hg2
  have own2 := OwnP.only own1 hg2 hlt
  clear O1 own1 hr1 hg2 hg1 hx1
  go_wp2_with fail
  go_loopw [6, 8] (fun v i wr => ∃ j : Nat, (j : Int) ≤ x ∧ i = .int .i64 j ∧ (∃ gl k c ps, v = .slice (some ⟨gl, 0, none⟩) k c ∧ k ≤ c ∧ k ≤ j ∧ Hid (∀ p ∈ ps, p.1.size ≤ 1048576) ∧ OwnP wr w.heap.size (.slice (some ⟨gl, 0, none⟩) k c) k ps) ∧ w.grownBy wr (some g) ∧ RdLe wr g (b + 2 + 20 * j)) (fun _ i _ => (x - intOf i).toNat)
  case atStart => exact ⟨0, by omega, rfl, ⟨_, 0, 0, [], rfl, Nat.le_refl _, Nat.le_refl _, (fun p hp => by cases hp), own2⟩, O2, hr2.mono (by omega)⟩
  case round =>
    obtain ⟨j, hj, rfl, ⟨gl, k, c, ps, rfl, hkc, hkj, hsz, hown⟩, hO, hr⟩ := hrel
    clear own2 O2 hr2
    by_cases hjM : (j : Int) < x
    · go_wp2_with fail
      refine (l91Ballot_some g (b + 2 + 20 * j) (2 + q) _ hr (by omega) hn0 hn1).mono ?_
      rintro e w3 ⟨A3, n3, c3, zs, rfl, hc3, hn3, own3, hg3, hr3⟩
      have O3 := only_trans hO hg3
      have ownp3 := OwnP.only hown hg3 hlt
      clear hown hg3 hO hr
      go_wp2_with fail
      refine (sBallotText_some A3 n3 c3 zs _ _ own3.ints (by omega) hc3).mono ?_
      rintro e w4 ⟨t, rfl, ht, hd4⟩
      have hb4 := hd4.below w3.heap.size
      have O4 := only_keep O3 hb4
      have ownp4 := ownp3.keep hb4
      have hr4 := hr3.keep hb4
      clear ownp3 O3 hr3 hd4 hb4 own3
      go_wp2_with fail
      refine (pick_b g (b + 2 + 20 * j + 12) 8 _ hr4 (by omega)).mono ?_
      rintro e w5 ⟨y, rfl, hy0, hy1, -, hg5, hr5⟩
      have hy := hy1 (by omega)
      have O5 := only_trans O4 hg5
      have ownp5 := OwnP.only ownp4 hg5 hlt
      clear ownp4 O4 hr4 hg5 hy1
      have hs5 := O5.size
      go_wp2_with fail
      refine (sPilesAdd_some gl k c ps t (1 + y) _ (ownp5.piles.fine hsz.out) (by omega) hkc (by omega)).mono ?_
      rintro e w6 ⟨A6, n6, c6, ok, rfl, hok, hb6⟩
      have O6 := only_keep O5 hb6
      have ownp6 := ownp5.keep hb6
      have hr6 := hr5.keep hb6
      cases ok
      · clear hok
        go_wp2_with fail
        go_roundw
        case rel => exact ⟨j + 1, by omega, by go_num, ⟨gl, k, c, ps, rfl, hkc, by omega, hsz, ownp6⟩, O6, hr6.mono (by omega)⟩
        case measure => simp [intOf]; omega
      · obtain ⟨g6, ps6, rfl, hnc6, hn6, hsz6, hv6, own6⟩ := hok rfl
        have hpsum := Bp.psum_bd hv6
        obtain ⟨tot, htot⟩ : ∃ tot, Bp.psum ps6 = tot := ⟨_, rfl⟩
        rw [htot] at hpsum
        have Htot := Lib.hid htot
        have Hv6 := Lib.hid hv6
        have Hsz6 := Lib.hid hsz6
        clear hok hsz6 hv6 htot
        go_wp2_with (go_at_call 53; refine (l3Total_any _ n6 c6 ps6 _ w6 (own6.piles.fine Hsz6.out) (by omega) Hv6.out).mono ?_; rw [Htot.out]; rintro e w' ⟨rfl, rfl⟩)
        refine (pick_b g (b + 2 + 20 * j + 13) 30 _ hr6 (by omega)).mono ?_
        rintro e w7 ⟨p, rfl, hp0, hp1, -, hg7, hr7⟩
        have hp30 := hp1 (by omega)
        have O7 := only_trans O6 hg7
        have own7 := OwnP.only own6 hg7 (by omega)
        have ownp7 := OwnP.only ownp6 hg7 hlt
        obtain ⟨z, hz⟩ : ∃ z, p / 29 = z := ⟨_, rfl⟩
        have hz0' : 0 ≤ z := by omega
        have hz1' : z ≤ 1 := by omega
        clear hp1 O6 own6 ownp6 hg7 hr6
        by_cases hle : tot ≤ 60 + z
        · have d0 : decide (tot ≤ 60 + z) = true := decide_eq_true hle
          go_wp2_with fail
          all_goals
            go_roundw
            case rel => exact ⟨j + 1, by omega, by go_num, ⟨g6, n6, c6, ps6, rfl, hnc6, by omega, Hsz6, own7.base hs5⟩, O7, hr7.mono (by omega)⟩
            case measure => simp [intOf]; omega
        · have d0 : decide (tot ≤ 60 + z) = false := decide_eq_false hle
          go_wp2_with fail
          all_goals
            go_roundw
            case rel => exact ⟨j + 1, by omega, by go_num, ⟨gl, k, c, ps, rfl, hkc, by omega, hsz, ownp7⟩, O7, hr7.mono (by omega)⟩
            case measure => simp [intOf]; omega
    · have hjx : (j : Int) = x := by omega
      have hjb : j ≤ 9 := by omega
      have hs := hO.size
      go_wp2_with fail
      refine (l91Lots_some g (b + 2 + 20 * j) (2 + q) _ hr (by omega)).mono ?_
      rintro e w3 ⟨A3, n3, c3, zs, rfl, hc3, hn3, own3, hg3, hr3⟩
      have O3 := only_trans hO hg3
      have ownp3 := OwnP.only hown hg3 hlt
      have own3' := own3.base hs
      clear hown hg3 hO hr own3
      go_wp2_with fail
      refine (pick_b g (b + 2 + 20 * j + 10) 20 _ hr3 (by omega)).mono ?_
      rintro e w4 ⟨y, rfl, hy0, -, -, hg4, hr4⟩
      have O4 := only_trans O3 hg4
      have ownp4 := OwnP.only ownp3 hg4 hlt
      have own4 := own3'.only hg4 hlt
      clear ownp3 own3' hg4 O3 hr3
      by_cases hy : y = 0
      · subst hy
        go_wp2_with fail
        refine (pick_b g (b + 2 + 20 * j + 11) 5 _ hr4 (by omega)).mono ?_
        rintro e w5 ⟨s, rfl, hs0, hs1, -, hg5, hr5⟩
        have hs5 := hs1 (by omega)
        go_wp2_with fail
        go_ret3
        exact ⟨gl, k, c, A3, n3, c3, ps, zs, s, rfl, hkc, by omega, hc3, hn3, by omega, hsz.out, OwnP.only ownp4 hg5 hlt, own4.only hg5 hlt, only_trans O4 hg5, hr5.mono (by omega)⟩
      · have dy : (y == 0) = false := by simpa using hy
        go_wp2_with fail
        refine (pick_b g (b + 2 + 20 * j + 11) 2 _ hr4 (by omega)).mono ?_
        rintro e w5 ⟨s, rfl, hs0, hs1, -, hg5, hr5⟩
        have hs5 := hs1 (by omega)
        go_wp2_with fail
        go_ret3
        exact ⟨gl, k, c, A3, n3, c3, ps, zs, 1 + s, rfl, hkc, by omega, hc3, hn3, by omega, hsz.out, OwnP.only ownp4 hg5 hlt, own4.only hg5 hlt, only_trans O4 hg5, hr5.mono (by omega)⟩
/-- what a draw of piles, lots and seats leaves -/
def DrawnTransfer (w : World) (e : Ending) (w' : World) : Prop :=
  ∃ (g1 n c : Nat) (A : Option Addr) (m c' : Nat) (ps : List (ByteArray × Int)) (zs : List Int) (s : Int), e = .returned (.tuple #[.slice (some ⟨g1, 0, none⟩) n c, .slice A m c', .int .i64 s]) ∧ n ≤ c ∧ n ≤ 100 ∧ m ≤ c' ∧ m ≤ 10 ∧ (0 ≤ s ∧ s ≤ 5) ∧
    Piles w' w'.heap.size (some ⟨g1, 0, none⟩) n ps ∧ Ints w' w'.heap.size A m zs ∧ Below w.heap.size w w'
set_option maxRecDepth 100000 in
set_option maxHeartbeats 400000 in
theorem drawTransferSteps_some (A : Option Addr) (n c : Nat) (w : World) (h : Bytes w w.heap.size A n) (hn : n ≤ 9223372036854775807) (hc : n ≤ c) :
    Calls Try.prog 20 #[.slice A n c] w (DrawnTransfer w) := by
  go_enter Try.func20, Try.ntmps20
  go_wp2_with fail
  refine (l6Open_any A n c _ h hn hc).mono ?_
  rintro e w1 ⟨g, rfl, hg, hgl, hr1, hb1⟩
  go_wp2_with fail
  refine (l93Transfer_some g 0 _ ⟨0, Nat.le_refl _, hr1⟩ (by omega)).mono ?_
  rintro e w2 ⟨g1, n1, c1, A1, m1, c2, ps, zs, s, rfl, hc1, hn1, hc2, hm1, hs, hsz, ownp, own, hg2, hr2⟩
  have hB := drawn_below hb1 hg2 hg
  go_wp2_with fail
  go_ret3
  exact ⟨g1, n1, c1, A1, m1, c2, ps, zs, s, rfl, hc1, hn1, hc2, hm1, hs, ownp.piles.fine hsz, own.ints, hB⟩
set_option maxRecDepth 100000 in
set_option maxHeartbeats 400000 in
theorem drawTransferWinners_some (A : Option Addr) (n c : Nat) (w : World) (h : Bytes w w.heap.size A n) (hn : n ≤ 9223372036854775807) (hc : n ≤ c) :
    Calls Try.prog 30 #[.slice A n c] w (DrawnTransfer w) := by
  go_enter Try.func30, Try.ntmps30
  go_wp2_with fail
  refine (l6Open_any A n c _ h hn hc).mono ?_
  rintro e w1 ⟨g, rfl, hg, hgl, hr1, hb1⟩
  go_wp2_with fail
  refine (l93Transfer_some g 0 _ ⟨0, Nat.le_refl _, hr1⟩ (by omega)).mono ?_
  rintro e w2 ⟨g1, n1, c1, A1, m1, c2, ps, zs, s, rfl, hc1, hn1, hc2, hm1, hs, hsz, ownp, own, hg2, hr2⟩
  have hB := drawn_below hb1 hg2 hg
  go_wp2_with fail
  go_ret3
  exact ⟨g1, n1, c1, A1, m1, c2, ps, zs, s, rfl, hc1, hn1, hc2, hm1, hs, ownp.piles.fine hsz, own.ints, hB⟩
end Go.Proofs.Ytiglkajafdecgaa
