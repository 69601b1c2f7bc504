/-
  The walk of FnFirstCountsMerge.
-/
import Derived.Test.YtjknokphdagpbaaDrawPiles
import Derived.Test.YtjknokphdagpbaaPlural
import Derived.Test.YtjknokphdagpbaaMergePlain
import Derived.Test.YtjknokphdagpbaaLawKit
namespace Go.Proofs.Ytjknokphdagpbaa
set_option linter.unusedVariables false
open Go.RowKit

theorem PilesR.take {w : World} {B n : Nat} {A : Option Addr} {ps : List (ByteArray × Int)} (h : PilesR w B A n ps) {k : Nat} (hk : k ≤ n) : PilesR w B A k (ps.take k) := ⟨by rw [List.length_take, h.1]; omega, fun hn => by
  obtain ⟨g, o, e, hl, hc⟩ := h.2 (by omega)
  refine ⟨g, o, e, hl, fun j hj => ?_⟩
  have e2 : (ps.take k).getD j default = ps.getD j default := by simp [List.getD, hj]
  rw [e2]
  exact hc j (by omega)⟩
theorem PilesR.drop {w : World} {B n g o : Nat} {ps : List (ByteArray × Int)} (h : PilesR w B (some ⟨g, o, none⟩) n ps) {k : Nat} : PilesR w B (some ⟨g, o + k * 2, none⟩) (n - k) (ps.drop k) := ⟨by rw [List.length_drop, h.1], fun hn => by
  obtain ⟨g', o', e, hl, hc⟩ := h.2 (by omega)
  injection e with e
  injection e with e1 e2
  subst e1; subst e2
  refine ⟨g, o + k * 2, rfl, hl, fun j hj => ?_⟩
  have e2 : (ps.drop k).getD j default = ps.getD (k + j) default := by simp [List.getD]
  rw [e2, show o + k * 2 + j * 2 = o + (k + j) * 2 by omega]
  exact hc (k + j) (by omega)⟩
theorem Piles.take {w : World} {B n : Nat} {A : Option Addr} {ps : List (ByteArray × Int)} (h : Piles w B A n ps) {k : Nat} (hk : k ≤ n) : Piles w B A k (ps.take k) :=
  (h.raw.take hk).fine (fun p hp => h.1.2 p (List.mem_of_mem_take hp))
theorem Piles.drop {w : World} {B n g o : Nat} {ps : List (ByteArray × Int)} (h : Piles w B (some ⟨g, o, none⟩) n ps) {k : Nat} : Piles w B (some ⟨g, o + k * 2, none⟩) (n - k) (ps.drop k) :=
  h.raw.drop.fine (fun p hp => h.1.2 p (List.mem_of_mem_drop hp))
theorem Piles.empty {w : World} {B : Nat} (A : Option Addr) : Piles w B A 0 [] := ⟨⟨rfl, fun p hp => by cases hp⟩, fun h => absurd h (by omega)⟩

set_option maxRecDepth 100000 in
set_option maxHeartbeats 400000 in
theorem sameInts_any (A A' : Option Addr) (n c n' c' : Nat) (xs ys : List Int) (B B' : Nat) (w : World) (h : Ints w B A n xs) (h' : Ints w B' A' n' ys) (hn : n ≤ 4611686018427387904) :
    Calls Try.prog 31 #[.slice A n c, .slice A' n' c'] w fun e w' => e = .returned (.bool (decide (xs = ys))) ∧ Drawn w w' := by
  have hl := Lib.hid h.1
  have hl' := Lib.hid h'.1
  by_cases hne : n = n'
  · have d0 : ((n : Int) != (n' : Int)) = false := by simp; omega
    have Hne := Lib.hid hne
    have Hle : n ≤ n' := by omega
    clear hne
    go_enter Try.func31, Try.ntmps31
    go_wp2
    go_loopw [5] (fun i wr => ∃ k : Nat, k ≤ n ∧ i = .int .i64 k ∧ Hid (∀ j, j < k → xs.getD j 0 = ys.getD j 0) ∧ Drawn w wr) (fun i _ => n - (intOf i).toNat)
    case atStart => exact ⟨0, Nat.zero_le _, rfl, fun j hj => absurd hj (by omega), Drawn.refl w⟩
    case round =>
      obtain ⟨k, hk, rfl, hq, hd⟩ := hrel
      by_cases hlt : k < n
      · obtain ⟨g, o, z, rfl, _, hc, hz⟩ := (h.below (hd.below B)).at hlt
        obtain ⟨g', o', z', rfl, _, hc', hz'⟩ := (h'.below (hd.below B')).at (show k < n' by omega)
        have hlt' : k < n' := by omega
        have hi1 : (0 : Int) ≤ (k : Int) := by omega
        have hi2 : (k : Int) < (n : Int) := by omega
        have hi3 : (k : Int) < (n' : Int) := by omega
        by_cases hzz : z = z'
        · have hb : (z != z') = false := by simpa using hzz
          have Hzz := Lib.hid hzz
          clear hzz
          go_wp2_with fail
          go_quiet (fail)
          go_wp2_with fail
          go_roundw
          case rel => exact ⟨k + 1, by omega, by go_num, fun j hj => by
            by_cases hj' : j = k
            · subst hj'; rw [hz.out, hz'.out]; exact Hzz.out
            · exact hq.out j (by omega), hd.drewN _⟩
          case measure => simp [intOf]; omega
        · have hb : (z != z') = true := by simpa using hzz
          have Hzz := Lib.hid hzz
          clear hzz
          go_wp2_with fail
          go_quiet (fail)
          go_wp2_with fail
          go_ret
          exact ⟨ret_bool (by
            symm
            rw [decide_eq_false_iff_not]
            intro e
            apply Hzz.out
            rw [← hz.out, ← hz'.out, e]), hd.drewN _⟩
      · go_wp2_with fail
        go_ret
        exact ⟨ret_bool (by
          symm
          rw [decide_eq_true_iff]
          exact list_eq _ _ 0 (by rw [hl.out, hl'.out, Hne.out]) (fun j hj => hq.out j (by rw [hl.out] at hj; omega))), hd⟩
  · have d0 : ((n : Int) != (n' : Int)) = true := by simp; omega
    have Hne := Lib.hid hne
    clear hne
    go_enter Try.func31, Try.ntmps31
    go_wp2_with fail
    go_ret
    exact ⟨ret_bool (by
      symm
      rw [decide_eq_false_iff_not]
      intro e
      apply Hne.out
      rw [← hl.out, ← hl'.out, e]), Drawn.refl w⟩
theorem cres_len' {ok : Bool} {zs : List Int} {m : Nat} (h : zs.length = m) (hm : ok = true) : (cres ok zs).length = m := by rw [cres_yes hm]; exact h

set_option maxRecDepth 100000 in
set_option maxHeartbeats 2000000 in
theorem lawFirstMerge_any (A : Option Addr) (n c : Nat) (A' : Option Addr) (n' c' : Nat) (w : World) (h : Bytes w w.heap.size A n) (hn : n ≤ 9223372036854775807) (hc : n ≤ c) (h' : Bytes w w.heap.size A' n') (hn' : n' ≤ 9223372036854775807) (hc' : n' ≤ c') :
    Calls Try.prog 7 #[.slice A n c, .slice A' n' c'] w fun e w' => e = .returned (.bool true) ∧ Below w.heap.size w w' := by
  by_cases hb : 1048576 < n
  · go_enter Try.func7, Try.ntmps7
    go_wp2_with fail
    go_ret
    exact ⟨rfl, Below.refl _ _⟩
  by_cases hb' : 1048576 < n'
  · go_enter Try.func7, Try.ntmps7
    go_wp2_with fail
    go_ret
    exact ⟨rfl, Below.refl _ _⟩
  go_enter Try.func7, Try.ntmps7
  go_wp2_with fail
  refine (drawFirstCounts_some A n c _ h hn hc).mono ?_
  rintro e w1 ⟨gp, k, cp, Al, m, cl, ps, left, rfl, hcp, hkp, hcl, hml, hps, hlf, hb1⟩
  have hs1 := hb1.size
  have hlm := Lib.hid hlf.1
  have hpl := Lib.hid hps.1.1
  go_wp2_with fail
  refine (iFirstCounts_any _ k cp Al m cl ps left _ hps (by omega) hcp hlf (by omega) hcl).mono ?_
  rintro e w2 ⟨Aout, nout, cout, rfl, hcout, hnout, out, hb2⟩
  have hs2 := hb2.size
  have hps2 := (hps.below hb2).mono hs2
  have hlf2 := (hlf.below hb2).mono hs2
  have hB2 := hb1.trans (hb2.mono hs1)
  go_wp2_with fail
  refine (sFirstCounts_any _ k cp Al m cl ps left _ hps2 (by omega) hlf2 (by omega) hcl).mono ?_
  rintro e w3 ⟨Awant, nwant, cwant, rfl, hcwant, hnwant, want, hb3⟩
  have hs3 := hb3.size
  have hps3 := (hps2.below hb3).mono hs3
  have hlf3 := (hlf2.below hb3).mono hs3
  have hB3 := hB2.trans (hb3.mono (by omega))
  have out3 := out.keep hb3
  have hcmp : ∀ wx, Below w3.heap.size w3 wx → Calls Try.prog 31 #[.slice Aout nout cout, .slice Awant nwant cwant] wx fun e w' => e = .returned (.bool true) ∧ Drawn wx w' := fun wx hb => by
    have := sameInts_any _ _ nout cout nwant cwant _ _ _ _ wx (out3.ints.below hb) (want.ints.below hb) (by omega)
    rw [decide_eq_true rfl] at this
    exact this
  have Hcmp := Lib.hid hcmp
  clear hcmp
  go_wp2_with fail
  refine (Hcmp.out _ (Below.refl _ _)).mono ?_
  rintro e w4 ⟨rfl, hd4⟩
  have hb4 := hd4.below w3.heap.size
  have hs4 := hb4.size
  have hB4 := hB3.trans (hb4.mono (by omega))
  have out4 := out3.keep hb4
  have hps4 := (hps3.below hb4).mono hs4
  have hlf4 := (hlf3.below hb4).mono hs4
  cases hf : Bp.fits ps left.length
  · have Hf := Lib.hid hf
    go_wp2_with fail
    refine (Hcmp.out _ hb4).mono ?_
    rintro e w5 ⟨rfl, hd5⟩
    go_wp2_with fail
    go_ret
    exact ⟨rfl, hB4.trans (hd5.below _)⟩
  · have Hf := Lib.hid hf
    rw [cres_yes hf] at out4
    have hno : nout = m := by have := out4.len; rw [Bp.firsts_len, hlm.out] at this; omega
    subst hno
    have Hft := Lib.hid (Bp.fits_take hf)
    have Hfd := Lib.hid (Bp.fits_drop hf)
    obtain ⟨K, hK, hKk⟩ : ∃ K : Nat, (n' : Int) % ((k : Int) + 1) = (K : Int) ∧ K ≤ k := ⟨n' % (k + 1), by simp, by have := Nat.mod_lt n' (show 0 < k + 1 by omega); omega⟩
    have hKc : K ≤ cp := by omega
    by_cases hcK : cp = K
    · have hcK' := hcK.symm
      subst hcK'
      have hcall1 := iFirstCounts_any (some ⟨gp, 0, none⟩) K K Al nout cl (ps.take K) left w4 (hps4.take hKk) (by omega) hKc hlf4 (by omega) hcl
      rw [Hft.out K] at hcall1
      have Hcall1 := Lib.hid hcall1
      clear hcall1
      go_wp2_with fail
      (with_reducible refine Hcall1.out.mono ?_)
      rintro e w5 ⟨Ax, nx, cx, rfl, hcx, hnx, x, hb5⟩
      have hs5 := hb5.size
      have hB5 := hB4.trans (hb5.mono (by omega))
      have out5 := out4.keep hb5
      have hps5 := (hps4.below hb5).mono hs5
      have hlf5 := (hlf4.below hb5).mono hs5
      rw [cres_yes rfl] at x
      have hnx2 : nx = nout := by have := x.len; rw [Bp.firsts_len, hlm.out] at this; omega
      subst hnx2
      have hview : Piles w5 w5.heap.size (some ⟨gp, 0, none⟩) 0 (ps.drop K) := by
        have e : ps.drop K = [] := List.drop_eq_nil_of_le (by rw [hpl.out]; omega)
        rw [e]
        exact Piles.empty _
      have hcall2 := iFirstCounts_any (some ⟨gp, 0, none⟩) 0 0 Al nx cl (ps.drop K) left w5 hview (by omega) (by omega) hlf5 (by omega) hcl
      rw [Hfd.out K] at hcall2
      have Hcall2 := Lib.hid hcall2
      clear hcall2 hview
      go_wp2_with fail
      (with_reducible refine Hcall2.out.mono ?_)
      rintro e w6 ⟨Ay, ny, cy, rfl, hcy, hny, y, hb6⟩
      have hs6 := hb6.size
      have hB6 := hB5.trans (hb6.mono (by omega))
      have hi := (out5.keep hb6).ints
      have hix := (x.keep hb6).ints
      rw [cres_yes rfl] at y
      have hny2 : ny = nx := by have := y.len; rw [Bp.firsts_len, hlm.out] at this; omega
      subst hny2
      have hiy := y.ints
      have Hbx : Hid (Bp.Bd (Bp.firsts (ps.take K) left) 1188) := Bp.firsts_bd (Bp.fits_val (Hft.out K))
      have Hby : Hid (Bp.Bd (Bp.firsts (ps.drop K) left) 1188) := Bp.firsts_bd (Bp.fits_val (Hfd.out K))
      clear out5 out4 x y hK hf
      go_wp2_with fail
      go_loopw [16] (fun i wr => ∃ j : Nat, j ≤ ny ∧ i = .int .i64 j ∧ Drawn w6 wr) (fun i _ => ny - (intOf i).toNat)
      case atStart => exact ⟨0, Nat.zero_le _, rfl, Drawn.refl _⟩
      case round =>
        obtain ⟨j, hj, rfl, hd⟩ := hrel
        by_cases hlt : j < ny
        · have hbw := hd.below w6.heap.size
          obtain ⟨g1, o1, z1, rfl, _, hz1, e1⟩ := (hi.below hbw).at hlt
          obtain ⟨g2, o2, z2, rfl, _, hz2, e2⟩ := (hix.below hbw).at hlt
          obtain ⟨g3, o3, z3, rfl, _, hz3, e3⟩ := (hiy.below hbw).at hlt
          have hx2 := Hbx.out.nth j
          have hy2 := Hby.out.nth j
          rw [e2.out] at hx2
          rw [e3.out] at hy2
          have hsum : z1 = z2 + z3 := by
            rw [← e1.out, ← e2.out, ← e3.out]
            exact Bp.firsts_parts ps left K j (by rw [hpl.out]; exact hKk)
          have d1 : (z1 != z2 + z3) = false := by rw [hsum]; simp
          have hwr : IntKind.i64.wrap (z2 + z3) = z2 + z3 := IntWalk.i64_in _ (by omega)
          have i1 : (0 : Int) ≤ (j : Int) := by omega
          have i2 : (j : Int) < (ny : Int) := by omega
          have Hsum := Lib.hid hsum
          clear hsum
          go_wp2_with fail
          go_quiet (fail)
          go_wp2_with fail
          go_roundw
          case rel => exact ⟨j + 1, by omega, by go_num, hd.drewN _⟩
          case measure => simp [intOf]; omega
        · go_wp2_with fail
          go_ret
          exact ⟨rfl, hB6.trans (hd.below _)⟩
    · skip
      have hcall1 := iFirstCounts_any (some ⟨gp, 0, none⟩) K cp Al nout cl (ps.take K) left w4 (hps4.take hKk) (by omega) hKc hlf4 (by omega) hcl
      rw [Hft.out K] at hcall1
      have Hcall1 := Lib.hid hcall1
      clear hcall1
      go_wp2_with fail
      (with_reducible refine Hcall1.out.mono ?_)
      rintro e w5 ⟨Ax, nx, cx, rfl, hcx, hnx, x, hb5⟩
      have hs5 := hb5.size
      have hB5 := hB4.trans (hb5.mono (by omega))
      have out5 := out4.keep hb5
      have hps5 := (hps4.below hb5).mono hs5
      have hlf5 := (hlf4.below hb5).mono hs5
      rw [cres_yes rfl] at x
      have hnx2 : nx = nout := by have := x.len; rw [Bp.firsts_len, hlm.out] at this; omega
      subst hnx2
      have hview : Piles w5 w5.heap.size (some ⟨gp, K * 2, none⟩) (k - K) (ps.drop K) := by
        have := hps5.drop (k := K)
        rw [Nat.zero_add] at this
        exact this
      have hcall2 := iFirstCounts_any (some ⟨gp, K * 2, none⟩) (k - K) (cp - K) Al nx cl (ps.drop K) left w5 hview (by omega) (by omega) hlf5 (by omega) hcl
      rw [Hfd.out K] at hcall2
      have Hcall2 := Lib.hid hcall2
      clear hcall2 hview
      go_wp2_with fail
      (with_reducible refine Hcall2.out.mono ?_)
      rintro e w6 ⟨Ay, ny, cy, rfl, hcy, hny, y, hb6⟩
      have hs6 := hb6.size
      have hB6 := hB5.trans (hb6.mono (by omega))
      have hi := (out5.keep hb6).ints
      have hix := (x.keep hb6).ints
      rw [cres_yes rfl] at y
      have hny2 : ny = nx := by have := y.len; rw [Bp.firsts_len, hlm.out] at this; omega
      subst hny2
      have hiy := y.ints
      have Hbx : Hid (Bp.Bd (Bp.firsts (ps.take K) left) 1188) := Bp.firsts_bd (Bp.fits_val (Hft.out K))
      have Hby : Hid (Bp.Bd (Bp.firsts (ps.drop K) left) 1188) := Bp.firsts_bd (Bp.fits_val (Hfd.out K))
      clear out5 out4 x y hK hf
      go_wp2_with fail
      go_loopw [16] (fun i wr => ∃ j : Nat, j ≤ ny ∧ i = .int .i64 j ∧ Drawn w6 wr) (fun i _ => ny - (intOf i).toNat)
      case atStart => exact ⟨0, Nat.zero_le _, rfl, Drawn.refl _⟩
      case round =>
        obtain ⟨j, hj, rfl, hd⟩ := hrel
        by_cases hlt : j < ny
        · have hbw := hd.below w6.heap.size
          obtain ⟨g1, o1, z1, rfl, _, hz1, e1⟩ := (hi.below hbw).at hlt
          obtain ⟨g2, o2, z2, rfl, _, hz2, e2⟩ := (hix.below hbw).at hlt
          obtain ⟨g3, o3, z3, rfl, _, hz3, e3⟩ := (hiy.below hbw).at hlt
          have hx2 := Hbx.out.nth j
          have hy2 := Hby.out.nth j
          rw [e2.out] at hx2
          rw [e3.out] at hy2
          have hsum : z1 = z2 + z3 := by
            rw [← e1.out, ← e2.out, ← e3.out]
            exact Bp.firsts_parts ps left K j (by rw [hpl.out]; exact hKk)
          have d1 : (z1 != z2 + z3) = false := by rw [hsum]; simp
          have hwr : IntKind.i64.wrap (z2 + z3) = z2 + z3 := IntWalk.i64_in _ (by omega)
          have i1 : (0 : Int) ≤ (j : Int) := by omega
          have i2 : (j : Int) < (ny : Int) := by omega
          have Hsum := Lib.hid hsum
          clear hsum
          go_wp2_with fail
          go_quiet (fail)
          go_wp2_with fail
          go_roundw
          case rel => exact ⟨j + 1, by omega, by go_num, hd.drewN _⟩
          case measure => simp [intOf]; omega
        · go_wp2_with fail
          go_ret
          exact ⟨rfl, hB6.trans (hd.below _)⟩
end Go.Proofs.Ytjknokphdagpbaa
