/-
  The walk of the laws' sameRounds.
-/
import Derived.Test.YtleceoplfboefaaRoundsMem
import Derived.Test.YtleceoplfboefaaSameInts
import Derived.Deep.RegionHeld
namespace Go.Proofs.Ytleceoplfboefaa
set_option linter.unusedVariables false
open Go.RowKit

theorem Bp.rnds_eq {xs ys : List Bp.Rnd} (h : xs.length = ys.length) (hk : ∀ j, j < xs.length → xs.getD j default = ys.getD j default) : xs = ys := by
  apply List.ext_getElem h
  intro i h1 h2
  have := hk i h1
  simpa [List.getD, h1, h2] using this
set_option maxRecDepth 100000 in
set_option maxHeartbeats 4000000 in
theorem sameRounds_any (A A' : Option Addr) (n c n' c' : Nat) (xs ys : List Bp.Rnd) (w : World) (h : RoundsV w w.heap.size A n xs) (h' : RoundsV w w.heap.size A' n' ys) (hn : n ≤ 1048576) (hs : ∀ k, (xs.getD k default).1.length ≤ 1048576) :
    Calls Try.prog 23 #[.slice A n c, .slice A' n' c'] w fun e w' => e = .returned (.bool (decide (xs = ys))) ∧ Drawn w w' := by
  have hl := Lib.hid h.1
  have hl' := Lib.hid h'.1
  have Hs := Lib.hid hs
  clear hs
  by_cases hnn : n = n'
  · subst hnn
    go_enter Try.func23, Try.ntmps23
    go_wp2
    go_loopw [5] (fun i wr => ∃ k : Nat, k ≤ n ∧ i = .int .i64 k ∧ Hid (∀ j, j < k → xs.getD j default = ys.getD j default) ∧ Drawn w wr) (fun i _ => n - (intOf i).toNat)
    case atStart => exact ⟨0, Nat.zero_le _, rfl, (fun j hj => absurd hj (by omega)), Drawn.refl _⟩
    case round =>
      obtain ⟨k, hk, rfl, hE, hd⟩ := hrel
      have hb := hd.below w.heap.size
      by_cases hlt : k < n
      · obtain ⟨g1, o1, B1, m1, d1, zs1, t1, rfl, hg1, hc1, hm1, hz1, hco1, hr1⟩ := (h.below hb).at hlt
        obtain ⟨g2, o2, B2, m2, d2, zs2, t2, rfl, hg2, hc2, hm2, hz2, hco2, hr2⟩ := (h'.below hb).at hlt
        have hm1b : m1 ≤ 1048576 := by
          have := Hs.out k
          rw [hr1.out] at this
          have h3 := hz1.1
          simp only at this
          omega
        have i1 : (0 : Int) ≤ (k : Int) := by omega
        have i2 : (k : Int) < (n : Int) := by omega
        by_cases ht : t1 = t2
        · subst ht
          have hcall := sameInts_any B1 B2 m1 d1 m2 d2 zs1 zs2 _ _ wr.drew (hz1.below ((Below.refl _ _).drew)) (hz2.below ((Below.refl _ _).drew)) (by omega)
          have hg1' : g1 < wr.drew.heap.size := by show g1 < wr.heap.size; have := hb.size; omega
          have hg2' : g2 < wr.drew.heap.size := by show g2 < wr.heap.size; have := hb.size; omega
          cases hq : decide (zs1 = zs2)
          · rw [hq] at hcall
            have Hcall := Lib.hid hcall
            have Hq := Lib.hid hq
            clear hq hcall
            go_wp2_with fail
            go_region_held (fun w' => (w'.cell? ⟨g1, o1 + k * 2 + 1, none⟩ = some (.int .i64 t1) ∧ w'.cell? ⟨g1, o1 + k * 2, none⟩ = some (.slice B1 m1 d1)) ∧ w'.cell? ⟨g2, o2 + k * 2 + 1, none⟩ = some (.int .i64 t1) ∧ w'.cell? ⟨g2, o2 + k * 2, none⟩ = some (.slice B2 m2 d2)) (go_keep)
              ((go_at_call 46; refine Hcall.out.mono ?_; rintro e w5 ⟨rfl, hd5⟩; have hb5 := hd5.below wr.drew.heap.size; have f1 := (hb5.cell (p := ⟨g1, o1 + k * 2 + 1, none⟩) hg1').trans hco1; have f2 := (hb5.cell (p := ⟨g1, o1 + k * 2, none⟩) hg1').trans hc1; have f3 := (hb5.cell (p := ⟨g2, o2 + k * 2 + 1, none⟩) hg2').trans hco2; have f4 := (hb5.cell (p := ⟨g2, o2 + k * 2, none⟩) hg2').trans hc2))
            all_goals
              go_wp2_with fail
              go_ret
              exact ⟨ret_bool (by
                symm
                rw [decide_eq_false_iff_not]
                intro e
                have h1 := decide_eq_false_iff_not.1 Hq.out
                apply h1
                have h2 := hr1.out
                rw [e, hr2.out] at h2
                exact (congrArg Prod.fst h2).symm), hd.drew.trans hd5⟩
          · rw [hq] at hcall
            have Hcall := Lib.hid hcall
            have Hq := Lib.hid hq
            clear hq hcall
            go_wp2_with fail
            go_region_held (fun w' => (w'.cell? ⟨g1, o1 + k * 2 + 1, none⟩ = some (.int .i64 t1) ∧ w'.cell? ⟨g1, o1 + k * 2, none⟩ = some (.slice B1 m1 d1)) ∧ w'.cell? ⟨g2, o2 + k * 2 + 1, none⟩ = some (.int .i64 t1) ∧ w'.cell? ⟨g2, o2 + k * 2, none⟩ = some (.slice B2 m2 d2)) (go_keep)
              ((go_at_call 46; refine Hcall.out.mono ?_; rintro e w5 ⟨rfl, hd5⟩; have hb5 := hd5.below wr.drew.heap.size; have f1 := (hb5.cell (p := ⟨g1, o1 + k * 2 + 1, none⟩) hg1').trans hco1; have f2 := (hb5.cell (p := ⟨g1, o1 + k * 2, none⟩) hg1').trans hc1; have f3 := (hb5.cell (p := ⟨g2, o2 + k * 2 + 1, none⟩) hg2').trans hco2; have f4 := (hb5.cell (p := ⟨g2, o2 + k * 2, none⟩) hg2').trans hc2))
            all_goals
              go_wp2_with fail
              go_roundw
              case rel => exact ⟨k + 1, by omega, by go_num, (fun j hj => by
                by_cases hjk : j = k
                · subst hjk
                  rw [hr1.out, hr2.out, of_decide_eq_true Hq.out]
                · exact hE.out j (by omega)), hd.drew.trans hd5⟩
              case measure => simp [intOf]; omega
        · have Ht := Lib.hid ht
          have dne : (t1 == t2) = false := by simpa using ht
          go_wp2_with fail
          go_quiet (fail)
          all_goals
            go_wp2_with fail
            go_ret
            exact ⟨ret_bool (by
              symm
              rw [decide_eq_false_iff_not]
              intro e
              have h2 := hr1.out
              rw [e, hr2.out] at h2
              exact Ht.out (congrArg Prod.snd h2).symm), hd.drewN _⟩
      · have hkn : k = n := by omega
        have HE := hE.out
        rw [hkn] at HE
        have he := Bp.rnds_eq (xs := xs) (ys := ys) (by rw [hl.out, hl'.out]) (by rw [hl.out]; exact HE)
        have He := Lib.hid he
        clear he HE hkn
        go_wp2_with fail
        go_ret
        exact ⟨ret_bool (by rw [He.out]; simp), hd⟩
  · have Hne := Lib.hid hnn
    go_enter Try.func23, Try.ntmps23
    go_wp2_with fail
    go_ret
    exact ⟨ret_bool (by
      symm
      rw [decide_eq_false_iff_not]
      intro e
      apply Hne.out
      rw [← hl.out, ← hl'.out, e]), Drawn.refl w⟩
end Go.Proofs.Ytleceoplfboefaa
