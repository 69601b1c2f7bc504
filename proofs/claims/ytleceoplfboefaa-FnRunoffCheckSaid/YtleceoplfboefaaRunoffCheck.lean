/-
  The walks of RunoffCheck: the program's, with its closure and the library's loop, and the reference's.
-/
import Derived.Test.YtleceoplfboefaaRoundsS
import Derived.Test.YtleceoplfboefaaRoundsI
import Derived.Test.YtleceoplfboefaaSameInts
import Derived.Test.YtleceoplfboefaaLawRounds
import Derived.Test.YtleceoplfboefaaLawRoundTab
import Derived.Deep.RegionHeld
namespace Go.Proofs.Ytleceoplfboefaa
set_option linter.unusedVariables false
open Go.RowKit

set_option maxRecDepth 100000 in
set_option maxHeartbeats 400000 in
theorem l12Same_any (A A' : Option Addr) (n c n' c' : Nat) (xs ys : List Int) (B B' : Nat) (w : World) (h : Ints w B A n xs) (h' : Ints w B' A' n' ys) (hn : n ≤ 4611686018427387904) :
    Calls Try.prog 38 #[.slice A n c, .slice A' n' c'] w fun e w' => e = .returned (.bool (decide (xs = ys))) ∧ Drawn w w' := by
  have hl := Lib.hid h.1
  have hl' := Lib.hid h'.1
  by_cases hne : n = n'
  · have d0 : ((n : Int) != (n' : Int)) = false := by simp; omega
    have Hne := Lib.hid hne
    have Hle : n ≤ n' := by omega
    clear hne
    go_enter Try.func38, Try.ntmps38
    go_wp2
    go_loopw [5] (fun i wr => ∃ k : Nat, k ≤ n ∧ i = .int .i64 k ∧ Hid (∀ j, j < k → xs.getD j 0 = ys.getD j 0) ∧ Drawn w wr) (fun i _ => n - (intOf i).toNat)
    case atStart => exact ⟨0, Nat.zero_le _, rfl, fun j hj => absurd hj (by omega), Drawn.refl w⟩
    case round =>
      obtain ⟨k, hk, rfl, hq, hd⟩ := hrel
      by_cases hlt : k < n
      · obtain ⟨g, o, z, rfl, _, hc, hz⟩ := (h.below (hd.below B)).at hlt
        obtain ⟨g', o', z', rfl, _, hc', hz'⟩ := (h'.below (hd.below B')).at (show k < n' by omega)
        have hlt' : k < n' := by omega
        have hi1 : (0 : Int) ≤ (k : Int) := by omega
        have hi2 : (k : Int) < (n : Int) := by omega
        have hi3 : (k : Int) < (n' : Int) := by omega
        by_cases hzz : z = z'
        · have hb : (z != z') = false := by simpa using hzz
          have Hzz := Lib.hid hzz
          clear hzz
          go_wp2_with fail
          go_quiet (fail)
          go_wp2_with fail
          go_roundw
          case rel => exact ⟨k + 1, by omega, by go_num, fun j hj => by
            by_cases hj' : j = k
            · subst hj'; rw [hz.out, hz'.out]; exact Hzz.out
            · exact hq.out j (by omega), hd.drewN _⟩
          case measure => simp [intOf]; omega
        · have hb : (z != z') = true := by simpa using hzz
          have Hzz := Lib.hid hzz
          clear hzz
          go_wp2_with fail
          go_quiet (fail)
          go_wp2_with fail
          go_ret
          exact ⟨ret_bool (by
            symm
            rw [decide_eq_false_iff_not]
            intro e
            apply Hzz.out
            rw [← hz.out, ← hz'.out, e]), hd.drewN _⟩
      · go_wp2_with fail
        go_ret
        exact ⟨ret_bool (by
          symm
          rw [decide_eq_true_iff]
          exact ints_same _ _ (by rw [hl.out, hl'.out, Hne.out]) (fun j hj => hq.out j (by rw [hl.out] at hj; omega))), hd⟩
  · have d0 : ((n : Int) != (n' : Int)) = true := by simp; omega
    have Hne := Lib.hid hne
    clear hne
    go_enter Try.func38, Try.ntmps38
    go_wp2_with fail
    go_ret
    exact ⟨ret_bool (by
      symm
      rw [decide_eq_false_iff_not]
      intro e
      apply Hne.out
      rw [← hl.out, ← hl'.out, e]), Drawn.refl w⟩
set_option maxRecDepth 100000 in
set_option maxHeartbeats 400000 in
theorem slicesEqual_any (A A' : Option Addr) (n c n' c' : Nat) (xs ys : List Int) (B B' : Nat) (w : World) (h : Ints w B A n xs) (h' : Ints w B' A' n' ys) (hn : n ≤ 4611686018427387904) :
    Calls Try.prog 42 #[.slice A n c, .slice A' n' c'] w fun e w' => e = .returned (.bool (decide (xs = ys))) ∧ Drawn w w' := by
  have hl := Lib.hid h.1
  have hl' := Lib.hid h'.1
  by_cases hne : n = n'
  · have d0 : ((n : Int) != (n' : Int)) = false := by simp; omega
    have Hne := Lib.hid hne
    have Hle : n ≤ n' := by omega
    clear hne
    go_enter Try.func42, Try.ntmps42
    go_wp2
    go_loopw [13] (fun i wr => ∃ k : Nat, k ≤ n ∧ i = .int .i64 k ∧ Hid (∀ j, j < k → xs.getD j 0 = ys.getD j 0) ∧ Drawn w wr) (fun i _ => n - (intOf i).toNat)
    case atStart => exact ⟨0, Nat.zero_le _, rfl, fun j hj => absurd hj (by omega), Drawn.refl w⟩
    case round =>
      obtain ⟨k, hk, rfl, hq, hd⟩ := hrel
      by_cases hlt : k < n
      · obtain ⟨g, o, z, rfl, _, hc, hz⟩ := (h.below (hd.below B)).at hlt
        obtain ⟨g', o', z', rfl, _, hc', hz'⟩ := (h'.below (hd.below B')).at (show k < n' by omega)
        have hlt' : k < n' := by omega
        have hi1 : (0 : Int) ≤ (k : Int) := by omega
        have hi2 : (k : Int) < (n : Int) := by omega
        have hi3 : (k : Int) < (n' : Int) := by omega
        by_cases hzz : z = z'
        · have hb : (z != z') = false := by simpa using hzz
          have Hzz := Lib.hid hzz
          clear hzz
          go_wp2_with fail
          go_quiet (fail)
          go_wp2_with fail
          go_roundw
          case rel => exact ⟨k + 1, by omega, by go_num, fun j hj => by
            by_cases hj' : j = k
            · subst hj'; rw [hz.out, hz'.out]; exact Hzz.out
            · exact hq.out j (by omega), hd.drewN _⟩
          case measure => simp [intOf]; omega
        · have hb : (z != z') = true := by simpa using hzz
          have Hzz := Lib.hid hzz
          clear hzz
          go_wp2_with fail
          go_quiet (fail)
          go_wp2_with fail
          go_ret
          exact ⟨ret_bool (by
            symm
            rw [decide_eq_false_iff_not]
            intro e
            apply Hzz.out
            rw [← hz.out, ← hz'.out, e]), hd.drewN _⟩
      · go_wp2_with fail
        go_ret
        exact ⟨ret_bool (by
          symm
          rw [decide_eq_true_iff]
          exact ints_same _ _ (by rw [hl.out, hl'.out, Hne.out]) (fun j hj => hq.out j (by rw [hl.out] at hj; omega))), hd⟩
  · have d0 : ((n : Int) != (n' : Int)) = true := by simp; omega
    have Hne := Lib.hid hne
    clear hne
    go_enter Try.func42, Try.ntmps42
    go_wp2_with fail
    go_ret
    exact ⟨ret_bool (by
      symm
      rw [decide_eq_false_iff_not]
      intro e
      apply Hne.out
      rw [← hl.out, ← hl'.out, e]), Drawn.refl w⟩

set_option maxRecDepth 100000 in
set_option maxHeartbeats 400000 in
theorem checkLit_any (A A' : Option Addr) (n c n' c' : Nat) (xs ys : List Int) (t t' : Int) (B B' : Nat) (w : World) (h : Ints w B A n xs) (h' : Ints w B' A' n' ys) (hB : B ≤ w.heap.size) (hB' : B' ≤ w.heap.size) (hn : n ≤ 1048576) :
    Calls Try.prog 41 #[.agg #[.slice A n c, .int .i64 t], .agg #[.slice A' n' c', .int .i64 t']] w fun e w' => e = .returned (.bool (decide ((xs, t) = (ys, t')))) ∧ Below w.heap.size w w' := by
  have H := Lib.hid h
  have H' := Lib.hid h'
  clear h h'
  by_cases ht : t = t'
  · subst ht
    have He : Hid (decide ((xs, t) = (ys, t)) = decide (xs = ys)) := by show decide _ = decide _; simp
    go_enter Try.func41, Try.ntmps41
    go_wp2_with fail
    refine (slicesEqual_any A A' n c n' c' xs ys B B' _ (H.out.below ?_) (H'.out.below ?_) (by omega)).mono ?_
    · exact (((Below.refl _ _).alloc hB _).alloc (by simp; omega) _)
    · exact (((Below.refl _ _).alloc hB' _).alloc (by simp; omega) _)
    rintro e w1 ⟨rfl, hd⟩
    have hb := hd.below w.heap.size
    go_wp2_with fail
    go_ret
    exact ⟨ret_bool He.out.symm, (((Below.refl _ _).alloc (Nat.le_refl _) _).alloc (by simp) _).trans hb⟩
  · have dne : (t == t') = false := by simpa using ht
    have Ht := Lib.hid ht
    clear ht
    go_enter Try.func41, Try.ntmps41
    go_wp2_with fail
    go_ret
    exact ⟨ret_bool (by
      symm
      rw [decide_eq_false_iff_not]
      intro e
      exact Ht.out (congrArg Prod.snd e)), ((Below.refl _ _).alloc (Nat.le_refl _) _).alloc (by simp) _⟩
set_option maxRecDepth 100000 in
set_option maxHeartbeats 4000000 in
theorem equalFunc_any (A A' : Option Addr) (n c n' c' : Nat) (xs ys : List Bp.Rnd) (w : World) (h : RoundsV w w.heap.size A n xs) (h' : RoundsV w w.heap.size A' n' ys) (hn : n ≤ 1048576) (hs : ∀ k, (xs.getD k default).1.length ≤ 1048576) :
    Calls Try.prog 40 #[.slice A n c, .slice A' n' c', .func (.func 41) #[] #[]] w fun e w' => e = .returned (.bool (decide (xs = ys))) ∧ Below w.heap.size w w' := by
  have hl := Lib.hid h.1
  have hl' := Lib.hid h'.1
  have Hs := Lib.hid hs
  clear hs
  by_cases hnn : n = n'
  · subst hnn
    go_enter Try.func40, Try.ntmps40
    go_wp2
    go_loopw [17] (fun i wr => ∃ k : Nat, k ≤ n ∧ i = .int .i64 k ∧ Hid (∀ j, j < k → xs.getD j default = ys.getD j default) ∧ Below w.heap.size w wr) (fun i _ => n - (intOf i).toNat)
    case atStart => exact ⟨0, Nat.zero_le _, rfl, (fun j hj => absurd hj (by omega)), Below.refl _ _⟩
    case round =>
      obtain ⟨k, hk, rfl, hE, hb⟩ := hrel
      have hz := hb.size
      by_cases hlt : k < n
      · obtain ⟨g1, o1, B1, m1, d1, zs1, t1, rfl, hg1, hc1, hm1, hz1, hco1, hr1⟩ := (h.below hb).at hlt
        obtain ⟨g2, o2, B2, m2, d2, zs2, t2, rfl, hg2, hc2, hm2, hz2, hco2, hr2⟩ := (h'.below hb).at hlt
        have hm1b : m1 ≤ 1048576 := by
          have := Hs.out k
          rw [hr1.out] at this
          have h3 := hz1.1
          simp only at this
          omega
        have i1 : (0 : Int) ≤ (k : Int) := by omega
        have i2 : (k : Int) < (n : Int) := by omega
        have hg1' : g1 < wr.heap.size := by omega
        have hg2' : g2 < wr.heap.size := by omega
        have hal : Below wr.heap.size wr (wr.alloc (.cells #[.slice B1 m1 d1, .int .i64 t1] 58)) := (Below.refl _ _).alloc (Nat.le_refl _) _
        have f1 := (hal.cell (p := ⟨g2, o2 + k * 2, none⟩) hg2').trans hc2
        have f2 := (hal.cell (p := ⟨g2, o2 + k * 2 + 1, none⟩) hg2').trans hco2
        have hal2 : Below wr.heap.size wr ((wr.alloc (.cells #[.slice B1 m1 d1, .int .i64 t1] 58)).alloc (.cells #[.slice B2 m2 d2, .int .i64 t2] 58)) := hal.alloc (by simp) _
        have hcall := checkLit_any B1 B2 m1 d1 m2 d2 zs1 zs2 t1 t2 w.heap.size w.heap.size _ (hz1.below (hal2.mono hz)) (hz2.below (hal2.mono hz)) (by simp; omega) (by simp; omega) hm1b
        cases hq : decide ((zs1, t1) = (zs2, t2))
        · rw [hq] at hcall
          have Hcall := Lib.hid hcall
          have Hq := Lib.hid hq
          have Hal := Lib.hid (hb.trans (hal2.mono hz))
          clear hcall hq hal hal2 hz1 hz2
          go_wp2_with fail
          refine Hcall.out.mono ?_
          rintro e w5 ⟨rfl, hb5⟩
          go_wp2_with fail
          go_ret
          exact ⟨ret_bool (by
            symm
            rw [decide_eq_false_iff_not]
            intro e
            apply decide_eq_false_iff_not.1 Hq.out
            rw [← hr1.out, e, hr2.out]), Hal.out.trans (hb5.mono (by simp; omega))⟩
        · rw [hq] at hcall
          have Hcall := Lib.hid hcall
          have Hq := Lib.hid hq
          have Hal := Lib.hid (hb.trans (hal2.mono hz))
          clear hcall hq hal hal2 hz1 hz2
          go_wp2_with fail
          refine Hcall.out.mono ?_
          rintro e w5 ⟨rfl, hb5⟩
          go_wp2_with fail
          go_roundw
          case rel => exact ⟨k + 1, by omega, by go_num, (fun j hj => by
            by_cases hjk : j = k
            · subst hjk
              rw [hr1.out, hr2.out]
              exact of_decide_eq_true Hq.out
            · exact hE.out j (by omega)), Hal.out.trans (hb5.mono (by simp; omega))⟩
          case measure => simp [intOf]; omega
      · have hkn : k = n := by omega
        have HE := hE.out
        rw [hkn] at HE
        have he := Bp.rnds_eq (xs := xs) (ys := ys) (by rw [hl.out, hl'.out]) (by rw [hl.out]; exact HE)
        have He := Lib.hid he
        clear he HE hkn
        go_wp2_with fail
        go_ret
        exact ⟨ret_bool (by rw [He.out]; simp), hb⟩
  · have Hne := Lib.hid hnn
    go_enter Try.func40, Try.ntmps40
    go_wp2_with fail
    go_ret
    exact ⟨ret_bool (by
      symm
      rw [decide_eq_false_iff_not]
      intro e
      apply Hne.out
      rw [← hl.out, ← hl'.out, e]), Below.refl _ _⟩
/-- are these the rounds of a runoff? -/
def Bp.rcheck (ps : List Bp.Pile) (lots : List Int) (rs : List Bp.Rnd) : Bool := Bp.ok ps lots && decide (Bp.rounds ps lots = rs)
theorem Bp.rcheck_no {ps : List Bp.Pile} {lots : List Int} (rs : List Bp.Rnd) (h : Bp.ok ps lots = false) : Bp.rcheck ps lots rs = false := by simp [Bp.rcheck, h]
theorem Bp.rcheck_yes {ps : List Bp.Pile} {lots : List Int} (rs : List Bp.Rnd) (h : Bp.ok ps lots = true) : Bp.rcheck ps lots rs = decide (Bp.rounds ps lots = rs) := by simp [Bp.rcheck, h]
theorem Bp.rounds_small (ps : List Bp.Pile) (lots : List Int) (h : Bp.ok ps lots = true) (i : Nat) : ((Bp.rounds ps lots).getD i default).1.length ≤ 1048576 := by
  have := smallRunoffRounds ps lots i
  rw [h, rres_yes rfl] at this
  omega
set_option maxRecDepth 100000 in
set_option maxHeartbeats 4000000 in
theorem iRunoffCheck_any (A : Option Addr) (n c : Nat) (A' : Option Addr) (m c' : Nat) (A2 : Option Addr) (n2 c2 : Nat) (ps : List Bp.Pile) (lots : List Int) (rs : List Bp.Rnd) (w : World) (h : Piles w w.heap.size A n ps) (hn : n ≤ 1048576) (hnc : n ≤ c) (h' : Ints w w.heap.size A' m lots) (hm : m ≤ 1048576) (hmc : m ≤ c') (h2 : RoundsV w w.heap.size A2 n2 rs) :
    Calls Try.prog 21 #[.slice A n c, .slice A' m c', .slice A2 n2 c2] w fun e w' => e = .returned (.bool (Bp.rcheck ps lots rs)) ∧ Below w.heap.size w w' := by
  have hcall := iRunoffRounds_any A n c A' m c' ps lots w h hn hnc h' hm hmc
  cases hok : Bp.ok ps lots
  · have H := Lib.hid (Bp.rcheck_no rs hok)
    rw [hok] at hcall
    have Hcall := Lib.hid hcall
    clear hok hcall
    go_enter Try.func21, Try.ntmps21
    go_wp2_with fail
    refine Hcall.out.mono ?_
    rintro e w1 ⟨A1, n1, c1, rfl, hc1, hn1, hown, hb1⟩
    go_wp2_with fail
    go_ret
    exact ⟨ret_bool H.out.symm, hb1⟩
  · have H := Lib.hid (Bp.rcheck_yes rs hok)
    have Hsm := Lib.hid (Bp.rounds_small ps lots hok)
    rw [hok] at hcall
    have Hcall := Lib.hid hcall
    clear hok hcall
    go_enter Try.func21, Try.ntmps21
    go_wp2_with fail
    refine Hcall.out.mono ?_
    rintro e w1 ⟨A1, n1, c1, rfl, hc1, hn1, hown, hb1⟩
    rw [rres_yes rfl] at hown
    have hv := hown.view
    have hs1 := hb1.size
    go_wp2_with fail
    refine (equalFunc_any A1 A2 n1 c1 n2 c2 _ rs w1 hv ((h2.below hb1).mono hs1) (by omega) Hsm.out).mono ?_
    rintro e w2 ⟨rfl, hb2⟩
    go_wp2_with fail
    go_ret
    exact ⟨ret_bool H.out.symm, hb1.trans (hb2.mono hs1)⟩
set_option maxRecDepth 100000 in
set_option maxHeartbeats 8000000 in
theorem sRunoffCheck_any (A0 : Option Addr) (n0 c0 : Nat) (A1 : Option Addr) (m0 c1 : Nat) (A2 : Option Addr) (n2 c2 : Nat) (ps : List Bp.Pile) (lots : List Int) (xs : List Bp.Rnd) (w0 : World) (h0 : Piles w0 w0.heap.size A0 n0 ps) (hn0 : n0 ≤ 1048576) (h1 : Ints w0 w0.heap.size A1 m0 lots) (hm0 : m0 ≤ 1048576) (hmc : m0 ≤ c1) (h2 : RoundsV w0 w0.heap.size A2 n2 xs) (hn2 : n2 ≤ 1048576) (hs : ∀ k, (xs.getD k default).1.length ≤ 1048576) :
    Calls Try.prog 19 #[.slice A0 n0 c0, .slice A1 m0 c1, .slice A2 n2 c2] w0 fun e w' => e = .returned (.bool (Bp.rcheck ps lots xs)) ∧ Below w0.heap.size w0 w' := by
  have Hs := Lib.hid hs
  clear hs
  have hcall := sRunoffRounds_any A0 n0 c0 A1 m0 c1 ps lots w0 h0 hn0 h1 hm0 hmc
  cases hok : Bp.ok ps lots
  · have H := Lib.hid (Bp.rcheck_no xs hok)
    rw [hok] at hcall
    have Hcall := Lib.hid hcall
    clear hok hcall
    go_enter Try.func19, Try.ntmps19
    go_wp2_with fail
    refine Hcall.out.mono ?_
    rintro e w1 ⟨A3, n1, c3, rfl, hc1, hn1, hown, hb1⟩
    go_wp2_with fail
    go_ret
    exact ⟨ret_bool H.out.symm, hb1⟩
  · have H := Lib.hid (Bp.rcheck_yes xs hok)
    have Hsm := Lib.hid (Bp.rounds_small ps lots hok)
    rw [hok] at hcall
    have Hcall := Lib.hid hcall
    clear hok hcall
    go_enter Try.func19, Try.ntmps19
    go_wp2_with fail
    refine Hcall.out.mono ?_
    rintro e w ⟨A', n', c', rfl, hc', hn', hown, hb1⟩
    rw [rres_yes rfl] at hown
    obtain ⟨ys, hys⟩ : ∃ ys, Bp.rounds ps lots = ys := ⟨_, rfl⟩
    have Hsm' := Lib.hid (hys ▸ Hsm.out)
    rw [hys] at hown
    have H3 := Lib.hid (hys ▸ H.out)
    have hs1 := hb1.size
    have h' := hown.view
    have h := (h2.below hb1).mono hs1
    have hl := Lib.hid h.1
    have hl' := Lib.hid h'.1
    have Hb1 := Lib.hid hb1
    clear hown hys H Hsm h0 h1 h2 Hcall hb1
    by_cases hnn : n2 = n'
    · subst hnn
      have hn := hn2
      go_wp2_with fail
      go_loopw [9] (fun i wr => ∃ k : Nat, k ≤ n2 ∧ i = .int .i64 k ∧ Hid (∀ j, j < k → xs.getD j default = ys.getD j default) ∧ Drawn w wr) (fun i _ => n2 - (intOf i).toNat)
      case atStart => exact ⟨0, Nat.zero_le _, rfl, (fun j hj => absurd hj (by omega)), Drawn.refl _⟩
      case round =>
        obtain ⟨k, hk, rfl, hE, hd⟩ := hrel
        have hb := hd.below w.heap.size
        by_cases hlt : k < n2
        · obtain ⟨g1, o1, B1, m1, d1, zs1, t1, rfl, hg1, hc1, hm1, hz1, hco1, hr1⟩ := (h.below hb).at hlt
          obtain ⟨g2, o2, B2, m2, d2, zs2, t2, rfl, hg2, hc2, hm2, hz2, hco2, hr2⟩ := (h'.below hb).at hlt
          have hm1b : m1 ≤ 1048576 := by
            have := Hs.out k
            rw [hr1.out] at this
            have h3 := hz1.1
            simp only at this
            omega
          have i1 : (0 : Int) ≤ (k : Int) := by omega
          have i2 : (k : Int) < (n2 : Int) := by omega
          by_cases ht : t1 = t2
          · subst ht
            have hcall := l12Same_any B1 B2 m1 d1 m2 d2 zs1 zs2 _ _ wr.drew (hz1.below ((Below.refl _ _).drew)) (hz2.below ((Below.refl _ _).drew)) (by omega)
            have hg1' : g1 < wr.drew.heap.size := by show g1 < wr.heap.size; have := hb.size; omega
            have hg2' : g2 < wr.drew.heap.size := by show g2 < wr.heap.size; have := hb.size; omega
            cases hq : decide (zs1 = zs2)
            · rw [hq] at hcall
              have Hcall := Lib.hid hcall
              have Hq := Lib.hid hq
              clear hq hcall
              go_wp2_with fail
              go_region_held (fun w' => (w'.cell? ⟨g1, o1 + k * 2 + 1, none⟩ = some (.int .i64 t1) ∧ w'.cell? ⟨g1, o1 + k * 2, none⟩ = some (.slice B1 m1 d1)) ∧ w'.cell? ⟨g2, o2 + k * 2 + 1, none⟩ = some (.int .i64 t1) ∧ w'.cell? ⟨g2, o2 + k * 2, none⟩ = some (.slice B2 m2 d2)) (go_keep)
                ((go_at_call 38; refine Hcall.out.mono ?_; rintro e w5 ⟨rfl, hd5⟩; have hb5 := hd5.below wr.drew.heap.size; have f1 := (hb5.cell (p := ⟨g1, o1 + k * 2 + 1, none⟩) hg1').trans hco1; have f2 := (hb5.cell (p := ⟨g1, o1 + k * 2, none⟩) hg1').trans hc1; have f3 := (hb5.cell (p := ⟨g2, o2 + k * 2 + 1, none⟩) hg2').trans hco2; have f4 := (hb5.cell (p := ⟨g2, o2 + k * 2, none⟩) hg2').trans hc2))
              all_goals
                go_wp2_with fail
                go_ret
                exact ⟨ret_bool (by
                  rw [H3.out]
                  symm
                  rw [decide_eq_false_iff_not]
                  intro e
                  have h1 := decide_eq_false_iff_not.1 Hq.out
                  apply h1
                  have h2 := hr1.out
                  rw [← e, hr2.out] at h2
                  exact (congrArg Prod.fst h2).symm), Hb1.out.trans ((hd.drew.trans hd5).below _)⟩
            · rw [hq] at hcall
              have Hcall := Lib.hid hcall
              have Hq := Lib.hid hq
              clear hq hcall
              go_wp2_with fail
              go_region_held (fun w' => (w'.cell? ⟨g1, o1 + k * 2 + 1, none⟩ = some (.int .i64 t1) ∧ w'.cell? ⟨g1, o1 + k * 2, none⟩ = some (.slice B1 m1 d1)) ∧ w'.cell? ⟨g2, o2 + k * 2 + 1, none⟩ = some (.int .i64 t1) ∧ w'.cell? ⟨g2, o2 + k * 2, none⟩ = some (.slice B2 m2 d2)) (go_keep)
                ((go_at_call 38; refine Hcall.out.mono ?_; rintro e w5 ⟨rfl, hd5⟩; have hb5 := hd5.below wr.drew.heap.size; have f1 := (hb5.cell (p := ⟨g1, o1 + k * 2 + 1, none⟩) hg1').trans hco1; have f2 := (hb5.cell (p := ⟨g1, o1 + k * 2, none⟩) hg1').trans hc1; have f3 := (hb5.cell (p := ⟨g2, o2 + k * 2 + 1, none⟩) hg2').trans hco2; have f4 := (hb5.cell (p := ⟨g2, o2 + k * 2, none⟩) hg2').trans hc2))
              all_goals
                go_wp2_with fail
                go_roundw
                case rel => exact ⟨k + 1, by omega, by go_num, (fun j hj => by
                  by_cases hjk : j = k
                  · subst hjk
                    rw [hr1.out, hr2.out, of_decide_eq_true Hq.out]
                  · exact hE.out j (by omega)), hd.drew.trans hd5⟩
                case measure => simp [intOf]; omega
          · have Ht := Lib.hid ht
            have dne : (t1 == t2) = false := by simpa using ht
            go_wp2_with fail
            go_quiet (fail)
            all_goals
              go_wp2_with fail
              go_ret
              exact ⟨ret_bool (by
                rw [H3.out]
                symm
                rw [decide_eq_false_iff_not]
                intro e
                have h2 := hr1.out
                rw [← e, hr2.out] at h2
                exact Ht.out (congrArg Prod.snd h2).symm), Hb1.out.trans ((hd.drewN _).below _)⟩
        · have hkn : k = n2 := by omega
          have HE := hE.out
          rw [hkn] at HE
          have he := Bp.rnds_eq (xs := xs) (ys := ys) (by rw [hl.out, hl'.out]) (by rw [hl.out]; exact HE)
          have He := Lib.hid he
          clear he HE hkn
          go_wp2_with fail
          go_ret
          exact ⟨ret_bool (by rw [H3.out, He.out]; simp), Hb1.out.trans (hd.below _)⟩
    · have Hne := Lib.hid hnn
      have dne : ((n' : Int) != (n2 : Int)) = true := by simp; omega
      clear hnn
      go_wp2_with fail
      go_ret
      exact ⟨ret_bool (by
        rw [H3.out]
        symm
        rw [decide_eq_false_iff_not]
        intro e
        apply Hne.out
        rw [← hl.out, ← hl'.out, e]), Hb1.out⟩
end Go.Proofs.Ytleceoplfboefaa
