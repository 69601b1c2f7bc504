/-
  The walk of FnPairTurned.
-/
import Derived.Test.YtdcfpobjiofnmaaLawTurned
import Derived.Test.YtdcfpobjiofnmaaTurnSum
import Derived.Test.YtdcfpobjiofnmaaDrawPairs
import Derived.Test.YtdcfpobjiofnmaaPairWin
namespace Go.Proofs.Ytdcfpobjiofnmaa.Bp
set_option linter.unusedVariables false
open Go

theorem idxFrom_turn (x y a : Int) : ∀ b : List Int, idx (b.map (sw x y)) (sw x y a) = idx b a := fun b => by
  by_cases h : ∃ k, k < b.length ∧ b.getD k 0 = a ∧ ∀ j, j < k → b.getD j 0 ≠ a
  · obtain ⟨k, hk, h1, h2⟩ := h
    have e : ∀ j, j < b.length → (b.map (sw x y)).getD j 0 = sw x y (b.getD j 0) := fun j hj => by
      rw [getD_get _ _ (by rw [List.length_map]; exact hj), getD_get _ _ hj, List.getElem_map]
    rw [idx_found b a k hk h1 h2, idx_found (b.map (sw x y)) (sw x y a) k (by rw [List.length_map]; exact hk) (by rw [e k hk, h1]) (fun j hj e2 => h2 j hj (by rw [e j (by omega)] at e2; exact sw_inj e2))]
  · have hn : a ∉ b := fun hm => h (by
      obtain ⟨k, hk, he⟩ := List.getElem_of_mem hm
      have : ∀ m k, k ≤ m → k < b.length → b.getD k 0 = a → ∃ k, k < b.length ∧ b.getD k 0 = a ∧ ∀ j, j < k → b.getD j 0 ≠ a := by
        intro m
        induction m with
        | zero => intro k hk hkl e; exact ⟨k, hkl, e, fun j hj => by omega⟩
        | succ m ih =>
          intro k hk hkl e
          by_cases h3 : ∃ j, j < k ∧ b.getD j 0 = a
          · obtain ⟨j, hj, e2⟩ := h3
            exact ih j (by omega) (by omega) e2
          · exact ⟨k, hkl, e, fun j hj e2 => h3 ⟨j, hj, e2⟩⟩
      exact this k k (Nat.le_refl _) hk (by rw [getD_get _ _ hk]; exact he))
    have hn2 : sw x y a ∉ b.map (sw x y) := fun hm => by
      obtain ⟨c, hc, e⟩ := List.mem_map.1 hm
      rw [sw_inj e] at hc
      exact hn hc
    rw [idx_none (b.map (sw x y)) (sw x y a) (fun j hj e => hn2 (by rw [← e]; exact getD_mem _ j hj)), idx_none b a (fun j hj e => hn (by rw [← e]; exact getD_mem b j hj))]
theorem prefers_turn (x y a c : Int) (b : List Int) : prefers (b.map (sw x y)) (sw x y a) (sw x y c) = prefers b a c := by
  by_cases h : a = c
  · rw [prefers_self _ h, prefers_self _ (by rw [h])]
  · rw [prefers_ne _ h, prefers_ne _ (fun e => h (sw_inj e)), idxFrom_turn, idxFrom_turn]
theorem pref_turn {ps qs : List Pile} {x y : Int} (hv : psval ps = true) (hx : 0 ≤ x ∧ x < 5) (hy : 0 ≤ y ∧ y < 5) (h : Merged (ps.map (tp x y)) qs) (a c : Int) : pref qs (sw x y a) (sw x y c) = pref ps a c := by
  rw [pref_wsum, pref_wsum, turn_wsum hv hx hy h (fun b => if prefers b (sw x y a) (sw x y c) then 1 else 0)]
  refine wsum_congr ps fun p _ => ?_
  rw [prefers_turn]
theorem turn_pairWin {ps qs : List Pile} {x y : Int} {n : Nat} (hf : fits ps n = true) (hx : 0 ≤ x ∧ x < n) (hy : 0 ≤ y ∧ y < n) (h : Merged (ps.map (tp x y)) qs) {c : Nat} (hc : c < n) (hw : winsB ps n c = true) : pairWin qs n = sw x y c := by
  have hn := fits_n hf
  have hr := sw_range hx hy (show 0 ≤ (c : Int) ∧ (c : Int) < n by omega)
  have e := pairWin_yes qs (n := n) (x := (sw x y c).toNat) (by omega) ((wins_iff _ _ _).2 fun z hz hne => ?_)
  · rw [e]; omega
  · have hzr := sw_range hx hy (show 0 ≤ (z : Int) ∧ (z : Int) < n by omega)
    have h1 := (wins_iff ps n c).1 hw (sw x y z).toNat (by omega) (fun e2 => hne (by
      have e3 : sw x y z = c := by omega
      rw [← e3, sw_sw]; omega))
    have e1 : (((sw x y c).toNat : Nat) : Int) = sw x y c := by omega
    have e2 : (((sw x y z).toNat : Nat) : Int) = sw x y z := by omega
    have p1 := pref_turn (fits_val hf) (by omega) (by omega) h (sw x y z) c
    have p2 := pref_turn (fits_val hf) (by omega) (by omega) h c (sw x y z)
    rw [sw_sw] at p1 p2
    rw [e1, p1, p2, ← e2]
    exact h1
end Go.Proofs.Ytdcfpobjiofnmaa.Bp
namespace Go.Proofs.Ytdcfpobjiofnmaa
open Go.RowKit

set_option maxRecDepth 100000 in
set_option maxHeartbeats 4000000 in
theorem lawPairTurned_any (A : Option Addr) (n c : Nat) (A2 : Option Addr) (n2 c2 : Nat) (w : World) (h : Bytes w w.heap.size A n) (hn : n ≤ 9223372036854775807) (hc : n ≤ c) (_h2 : Bytes w w.heap.size A2 n2) (hn2 : n2 ≤ 9223372036854775807) (_hc2 : n2 ≤ c2) :
    Calls Try.prog 3 #[.slice A n c, .slice A2 n2 c2] w fun e w' => e = .returned (.bool true) ∧ Below w.heap.size w w' := by
  by_cases hb : 1048576 < n
  · go_enter Try.func3, Try.ntmps3
    go_wp2_with fail
    go_ret
    exact ⟨rfl, Below.refl _ _⟩
  by_cases hb' : 1048576 < n2
  · go_enter Try.func3, Try.ntmps3
    go_wp2_with fail
    go_ret
    exact ⟨rfl, Below.refl _ _⟩
  go_enter Try.func3, Try.ntmps3
  go_wp2_with fail
  refine (drawPairWinner_some A n c _ h hn hc).mono ?_
  rintro e w1 ⟨gp, k, cp, mi, ps, rfl, hcp, hkp, hm0, hm6, hps, hb1⟩
  have hs1 := hb1.size
  obtain ⟨m, rfl⟩ := Int.eq_ofNat_of_zero_le hm0
  go_wp2_with fail
  refine (iPairWinner_any _ k cp (m : Int) ps _ hps (by omega) hcp).mono ?_
  rintro e w2 ⟨rfl, hb2⟩
  have hs2 := hb2.size
  have hps2 := (hps.below hb2).mono hs2
  have hB2 := hb1.trans (hb2.mono hs1)
  go_wp2_with fail
  refine (sPairWinner_any _ k cp (m : Int) ps _ hps2 (by omega)).mono ?_
  rintro e w3 ⟨rfl, hb3⟩
  have hs3 := hb3.size
  have hps3 := (hps2.below hb3).mono hs3
  have hB3 := hB2.trans (hb3.mono (by omega))
  clear hps hps2
  by_cases hneg : Bp.pwinner ps m = -1
  · rw [hneg]
    clear hneg
    go_wp2_with fail
    go_ret
    exact ⟨rfl, hB3⟩
  · have hok : Bp.fits ps m = true := by
      cases hf : Bp.fits ps m
      · exact absurd (Bp.pwinner_no hf) hneg
      · rfl
    have hm5 := Bp.fits_n hok
    have hpw := Bp.pwinner_yes hok
    rw [Int.toNat_natCast] at hpw
    obtain ⟨b, hbm, hwb, hwins⟩ : ∃ b : Nat, b < m ∧ Bp.pwinner ps m = b ∧ Bp.winsB ps m b = true := by
      rcases Bp.pairWin_cases ps m with ⟨b, h1, h2, h3, _⟩ | ⟨h1, _⟩
      · exact ⟨b, h1, by rw [hpw, h2], h3⟩
      · exact absurd (by rw [hpw, h1]) hneg
    rw [hwb]
    have hv := Bp.fits_val hok
    have Hok := Lib.hid hok
    have Hbm := Lib.hid hbm
    have Hv := Lib.hid hv
    have Hwins := Lib.hid hwins
    have hbm0 : decide ((b : Int) < 0) = false := by simp
    clear hok hwb hv hneg hpw hbm hwins
    go_wp2_with fail
    have hx := Int.emod_nonneg (n2 : Int) (show (m : Int) ≠ 0 by omega)
    have hx' := Int.emod_lt_of_pos (n2 : Int) (show (0 : Int) < (m : Int) by omega)
    have hy := Int.emod_nonneg ((n2 : Int) / 7) (show (m : Int) ≠ 0 by omega)
    have hy' := Int.emod_lt_of_pos ((n2 : Int) / 7) (show (0 : Int) < (m : Int) by omega)
    obtain ⟨x, hxe⟩ : ∃ x : Int, (n2 : Int) % (m : Int) = x := ⟨_, rfl⟩
    obtain ⟨y, hye⟩ : ∃ y : Int, (n2 : Int) / 7 % (m : Int) = y := ⟨_, rfl⟩
    rw [hxe] at hx hx' ⊢
    rw [hye] at hy hy' ⊢
    clear hxe hye
    refine (iPilesTurn_yes _ k cp ps x y _ hps3 (by omega) hcp Hv.out hx (by omega) hy (by omega)).mono ?_
    rintro e w4 ⟨A4, n4, c4, qs, rfl, hc4, hn4, hM, hord, hp4, hb4⟩
    have hq := Bp.turn_psval Hv.out ⟨hx, by omega⟩ ⟨hy, by omega⟩ hM hord
    rw [hq, if_pos rfl] at hp4
    rw [hq]
    have hs4 := hb4.size
    have hB4 := hB3.trans (hb4.mono (by omega))
    have hwin := Bp.turn_pairWin Hok.out (x := x) (y := y) ⟨hx, hx'⟩ ⟨hy, hy'⟩ hM Hbm.out Hwins.out
    have hwin2 : Bp.pwinner qs m = Bp.sw x y b := by
      rw [Bp.pwinner_yes (Bp.turn_fits Hok.out ⟨hx, hx'⟩ ⟨hy, hy'⟩ hM hq), Int.toNat_natCast, hwin]
    have Hwin := Lib.hid hwin2
    have Hp4 := Lib.hid hp4
    clear hM hord hq hwin hwin2 hp4 hps3
    go_wp2_with (first
      | (go_at_call 10; with_reducible refine (iPairWinner_any A4 n4 c4 (m : Int) qs _ Hp4.out (by omega) hc4).mono ?_; rw [Hwin.out]; rintro e w6 ⟨rfl, hb6⟩)
      | (go_at_call 13; with_reducible refine (turned_any (b : Int) x y _).mono ?_; rintro e w7 ⟨rfl, rfl⟩))
    go_ret
    exact ⟨ret_bool (by simp), hB4.trans (hb6.mono (by omega))⟩
end Go.Proofs.Ytdcfpobjiofnmaa
