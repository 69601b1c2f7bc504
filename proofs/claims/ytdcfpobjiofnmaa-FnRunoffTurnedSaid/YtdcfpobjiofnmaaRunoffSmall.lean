/-
  The walks of the small functions of a runoff: whether a round is the last one, who leaves.
-/
import Derived.Test.YtdcfpobjiofnmaaFirsts
import Derived.Test.YtdcfpobjiofnmaaRunoffPlain
namespace Go.Proofs.Ytdcfpobjiofnmaa
set_option linter.unusedVariables false
open Go.RowKit

/-- the greatest of some numbers -/
def Bp.topTo (l : List Int) : Nat → Int
  | 0 => l.getD 0 0
  | k + 1 => max (Bp.topTo l k) (l.getD (k + 1) 0)
theorem Bp.topTo_max (l : List Int) (h : ∀ j, 0 ≤ l.getD j 0) : ∀ k, Bp.topTo l k = Bp.maxTo l (k + 1)
  | 0 => by
    show l.getD 0 0 = max 0 (l.getD 0 0)
    have := h 0
    omega
  | k + 1 => by
    show max (Bp.topTo l k) (l.getD (k + 1) 0) = max (Bp.maxTo l (k + 1)) (l.getD (k + 1) 0)
    rw [Bp.topTo_max l h k]
set_option maxRecDepth 100000 in
set_option maxHeartbeats 400000 in
theorem slicesMax_any (A : Option Addr) (n c : Nat) (zs : List Int) (B : Nat) (w : World) (h : Ints w B A n zs) (hn : n ≤ 1048576) (hn0 : 0 < n) (hz0 : ∀ j, 0 ≤ zs.getD j 0) :
    Calls Try.prog 90 #[.slice A n c] w fun e w' => e = .returned (.int .i64 (Bp.maxTo zs n)) ∧ w = w' := by
  obtain ⟨p, hp⟩ : ∃ p, n = p + 1 := ⟨n - 1, by omega⟩
  have Hp := Lib.hid hp
  have Hm := Lib.hid (Bp.topTo_max zs hz0)
  clear hp hz0
  obtain ⟨g, o, z, rfl, _, hc, hz⟩ := h.at hn0
  have hc0 : w.cell? ⟨g, o, none⟩ = some (.int .i64 z) := hc
  have Hz := Lib.hid hz.out
  clear hc hz
  go_enter Try.func90, Try.ntmps90
  go_wp2
  go_loop [3, 4] (fun m i => ∃ k : Nat, 1 ≤ k ∧ k ≤ n ∧ i = .int .i64 k ∧ m = .int .i64 (Bp.topTo zs (k - 1))) (fun _ i => n - (intOf i).toNat)
  case atStart => exact ⟨1, by omega, by omega, rfl, by show _ = Value.int .i64 (zs.getD 0 0); rw [Hz.out]⟩
  case round =>
    obtain ⟨k, hk1, hk, rfl, rfl⟩ := hrel
    clear hc0
    have Hs := Lib.hid (show Bp.topTo zs k = max (Bp.topTo zs (k - 1)) (zs.getD k 0) by
      obtain ⟨j, rfl⟩ : ∃ j, k = j + 1 := ⟨k - 1, by omega⟩
      rfl)
    obtain ⟨x, hx⟩ : ∃ x, Bp.topTo zs (k - 1) = x := ⟨_, rfl⟩
    rw [hx]
    by_cases hlt : k < n
    · obtain ⟨g', o', y, hA, _, hc, hy⟩ := h.at hlt
      injection hA with hA
      injection hA with e1 e2
      subst e1; subst e2
      have Hx := Lib.hid hx
      clear hx
      go_wp2_with fail
      all_goals
        go_round
        case rel => exact ⟨k + 1, by omega, by omega, by go_num, by rw [show k + 1 - 1 = k by omega, Hs.out, Hx.out, hy.out]; first | rfl | (congr 1; omega)⟩
        case measure => simp [intOf]; omega
    · have hkn : k = n := by omega
      have Hkn := Lib.hid hkn
      have Hx := Lib.hid hx
      clear hkn hx
      go_wp2_with fail
      go_ret
      exact ⟨ret_int (by rw [← Hx.out, Hm.out]; congr 1; have := Hkn.out; omega), rfl⟩

set_option maxRecDepth 100000 in
set_option maxHeartbeats 400000 in
theorem runoffDone_any (A A' : Option Addr) (n c n' c' : Nat) (counts : List Int) (left : List Bool) (B B' : Nat) (w : World) (h : Ints w B A n counts) (h' : Bools w B' A' n' left) (hnn : n = n') (hn0 : 0 < n) (hn : n ≤ 5) (q : Int) (hbd : Bp.Bd counts q) (hq : q ≤ 100000) :
    Calls Try.prog 69 #[.slice A n c, .slice A' n' c'] w fun e w' => e = .returned (.bool (Bp.rdone counts left)) ∧ Drawn w w' := by
  have hl := h.1
  have hl' := h'.1
  have hd : Bp.rdone counts left = (decide (Bp.thereTo left n = 1) || decide (Bp.addUp counts n < 2 * Bp.maxTo counts n)) := by
    unfold Bp.rdone Bp.there
    rw [hl, hl', hnn]
  have hmb := Bp.maxTo_bd hbd n
  have Hd := Lib.hid hd
  have Hnn := Lib.hid hnn
  have hnn1 : n ≤ n' := by omega
  have Hbd := Lib.hid hbd
  have hq0 : 0 ≤ q := by have := hbd 0; omega
  clear hl hl' hd hnn hbd
  go_enter Try.func69, Try.ntmps69
  go_wp2
  go_loop [5, 6, 11] (fun s t i => ∃ k : Nat, k ≤ n ∧ i = .int .i64 k ∧ s = .int .i64 (Bp.addUp counts k) ∧ t = .int .i64 (Bp.thereTo left k)) (fun _ _ i => n - (intOf i).toNat)
  case atStart => exact ⟨0, Nat.zero_le _, rfl, rfl, rfl⟩
  case round =>
    obtain ⟨k, hk, rfl, rfl, rfl⟩ := hrel
    have hab := Bp.addUp_bd Hbd.out k
    have hab2 : q * (k : Int) ≤ 100000 * 5 := Int.mul_le_mul hq (by omega) (by omega) (by omega)
    have htb := Bp.thereTo_bd left k
    have Hs := Lib.hid (show Bp.addUp counts (k + 1) = Bp.addUp counts k + counts.getD k 0 from rfl)
    have Ht := Lib.hid (show Bp.thereTo left (k + 1) = if left.getD k false then Bp.thereTo left k else Bp.thereTo left k + 1 from rfl)
    obtain ⟨x, hx⟩ : ∃ x, Bp.addUp counts k = x := ⟨_, rfl⟩
    obtain ⟨y, hy⟩ : ∃ y, Bp.thereTo left k = y := ⟨_, rfl⟩
    rw [hx] at hab ⊢
    rw [hy] at htb ⊢
    by_cases hlt : k < n
    · obtain ⟨g, o, z, rfl, _, hc, hz⟩ := h.at hlt
      obtain ⟨g', o', b, rfl, _, hc', hb⟩ := h'.at (show k < n' by omega)
      have hk' : k < n' := by omega
      have hzb := Hbd.out.nth k
      rw [hz.out] at hzb
      have Hx := Lib.hid hx
      have Hy := Lib.hid hy
      clear hx hy
      cases b
      · go_wp2_with fail
        go_round
        case rel => exact ⟨k + 1, by omega, by go_num, by rw [Hs.out, Hx.out, hz.out], by rw [Ht.out, Hy.out, hb.out]; rfl⟩
        case measure => simp [intOf]; omega
      · go_wp2_with fail
        go_round
        case rel => exact ⟨k + 1, by omega, by go_num, by rw [Hs.out, Hx.out, hz.out], by rw [Ht.out, Hy.out, hb.out]; rfl⟩
        case measure => simp [intOf]; omega
    · have hkn : k = n := by omega
      subst hkn
      have Hx := Lib.hid hx
      have Hy := Lib.hid hy
      clear hx hy
      have hcall := slicesMax_any A k c counts _ _ h (by omega) hn0 (fun j => (Hbd.out j).1)
      obtain ⟨m, hm⟩ : ∃ m, Bp.maxTo counts k = m := ⟨_, rfl⟩
      rw [hm] at hcall hmb
      have Hm := Lib.hid hm
      have Hcall := Lib.hid hcall
      clear hm hcall
      by_cases hy1 : y = 1
      · have d1 : (y == 1) = true := by simpa using hy1
        have H1 := Lib.hid hy1
        clear hy1
        go_wp2_with fail
        try go_quiet (fail)
        go_wp2_with fail
        go_ret
        exact ⟨ret_bool (by rw [Hd.out, Hy.out, H1.out]; rfl), by first | exact Drawn.refl _ | exact (Drawn.refl _).drewN _⟩
      · have d1 : (y == 1) = false := by simpa using hy1
        have H1 := Lib.hid hy1
        clear hy1
        by_cases hg : x < 2 * m
        · go_wp2_with (go_at_call 90; refine Hcall.out.mono ?_; rintro e w' ⟨rfl, rfl⟩)
          go_ret
          exact ⟨ret_bool (by rw [Hd.out, Hy.out, Hx.out, Hm.out, decide_eq_true hg, Bool.or_true]), by first | exact Drawn.refl _ | exact (Drawn.refl _).drewN _⟩
        · go_wp2_with (go_at_call 90; refine Hcall.out.mono ?_; rintro e w' ⟨rfl, rfl⟩)
          go_ret
          exact ⟨ret_bool (by rw [Hd.out, Hy.out, Hx.out, Hm.out, decide_eq_false (show ¬ x < 2 * m by omega), decide_eq_false H1.out]; rfl), by first | exact Drawn.refl _ | exact (Drawn.refl _).drewN _⟩

set_option maxRecDepth 100000 in
set_option maxHeartbeats 400000 in
theorem l12Many_any (A : Option Addr) (n c : Nat) (left : List Bool) (B : Nat) (w : World) (h : Bools w B A n left) (hn : n ≤ 1048576) :
    Calls Try.prog 99 #[.slice A n c] w fun e w' => e = .returned (.int .i64 (Bp.there left)) ∧ w = w' := by
  have hl := Lib.hid h.1
  go_enter Try.func99, Try.ntmps99
  go_wp2
  go_loop [3, 4] (fun t i => ∃ k : Nat, k ≤ n ∧ i = .int .i64 k ∧ t = .int .i64 (Bp.thereTo left k)) (fun _ i => n - (intOf i).toNat)
  case atStart => exact ⟨0, Nat.zero_le _, rfl, rfl⟩
  case round =>
    obtain ⟨k, hk, rfl, rfl⟩ := hrel
    have htb := Bp.thereTo_bd left k
    have Ht := Lib.hid (show Bp.thereTo left (k + 1) = if left.getD k false then Bp.thereTo left k else Bp.thereTo left k + 1 from rfl)
    obtain ⟨y, hy⟩ : ∃ y, Bp.thereTo left k = y := ⟨_, rfl⟩
    rw [hy] at htb ⊢
    by_cases hlt : k < n
    · obtain ⟨g', o', b, rfl, _, hc', hb⟩ := h.at hlt
      have Hy := Lib.hid hy
      clear hy
      cases b
      · go_wp2_with fail
        go_round
        case rel => exact ⟨k + 1, by omega, by go_num, by rw [Ht.out, Hy.out, hb.out]; rfl⟩
        case measure => simp [intOf]; omega
      · go_wp2_with fail
        go_round
        case rel => exact ⟨k + 1, by omega, by go_num, by rw [Ht.out, Hy.out, hb.out]; rfl⟩
        case measure => simp [intOf]; omega
    · have hkn : k = n := by omega
      have Hkn := Lib.hid hkn
      have Hy := Lib.hid hy
      clear hkn hy
      go_wp2_with fail
      go_ret
      exact ⟨ret_int (by unfold Bp.there; rw [hl.out, ← Hkn.out, Hy.out]), rfl⟩

set_option maxRecDepth 100000 in
set_option maxHeartbeats 400000 in
theorem l12Done_any (A A' : Option Addr) (n c n' c' : Nat) (counts : List Int) (left : List Bool) (B B' : Nat) (w : World) (h : Ints w B A n counts) (h' : Bools w B' A' n' left) (hnn : n = n') (hn : n ≤ 5) (q : Int) (hbd : Bp.Bd counts q) (hq : q ≤ 100000) :
    Calls Try.prog 91 #[.slice A n c, .slice A' n' c'] w fun e w' => e = .returned (.bool (Bp.rdone counts left)) ∧ Drawn w w' := by
  have hl := h.1
  have hd : Bp.rdone counts left = (decide (Bp.there left = 1) || decide (Bp.addUp counts n < 2 * Bp.maxTo counts n)) := by
    unfold Bp.rdone
    rw [hl]
  have Hd := Lib.hid hd
  have Hbd := Lib.hid hbd
  have hq0 : 0 ≤ q := by have := hbd 0; omega
  have hcall := l12Many_any A' n' c' left _ w h' (by omega)
  obtain ⟨y, hy⟩ : ∃ y, Bp.there left = y := ⟨_, rfl⟩
  rw [hy] at hcall
  have Hy := Lib.hid hy
  have Hcall := Lib.hid hcall
  clear hl hd hbd hy hcall
  go_enter Try.func91, Try.ntmps91
  go_wp2
  go_loop [5, 6, 7] (fun s t i => ∃ k : Nat, k ≤ n ∧ i = .int .i64 k ∧ s = .int .i64 (Bp.addUp counts k) ∧ t = .int .i64 (Bp.maxTo counts k)) (fun _ _ i => n - (intOf i).toNat)
  case atStart => exact ⟨0, Nat.zero_le _, rfl, rfl, rfl⟩
  case round =>
    obtain ⟨k, hk, rfl, rfl, rfl⟩ := hrel
    have hab := Bp.addUp_bd Hbd.out k
    have hab2 : q * (k : Int) ≤ 100000 * 5 := Int.mul_le_mul hq (by omega) (by omega) (by omega)
    have hmb := Bp.maxTo_bd Hbd.out k
    have Hs := Lib.hid (show Bp.addUp counts (k + 1) = Bp.addUp counts k + counts.getD k 0 from rfl)
    have Ht := Lib.hid (show Bp.maxTo counts (k + 1) = max (Bp.maxTo counts k) (counts.getD k 0) from rfl)
    obtain ⟨x, hx⟩ : ∃ x, Bp.addUp counts k = x := ⟨_, rfl⟩
    obtain ⟨m, hm⟩ : ∃ m, Bp.maxTo counts k = m := ⟨_, rfl⟩
    rw [hx] at hab ⊢
    rw [hm] at hmb ⊢
    by_cases hlt : k < n
    · obtain ⟨g, o, z, rfl, _, hc, hz⟩ := h.at hlt
      have hzb := Hbd.out.nth k
      rw [hz.out] at hzb
      have Hx := Lib.hid hx
      have Hm := Lib.hid hm
      clear hx hm
      go_wp2_with fail
      all_goals
        go_round
        case rel => exact ⟨k + 1, by omega, by go_num, by rw [Hs.out, Hx.out, hz.out], by rw [Ht.out, Hm.out, hz.out]; first | rfl | (congr 1; omega)⟩
        case measure => simp [intOf]; omega
    · have hkn : k = n := by omega
      subst hkn
      have Hx := Lib.hid hx
      have Hm := Lib.hid hm
      clear hx hm
      by_cases hg : x < 2 * m
      · go_wp2_with fail
        try go_quiet (fail)
        go_wp2_with fail
        go_ret
        exact ⟨ret_bool (by rw [Hd.out, Hx.out, Hm.out, decide_eq_true hg, Bool.or_true]), by first | exact Drawn.refl _ | exact (Drawn.refl _).drewN _⟩
      · by_cases hy1 : y = 1
        · have d1 : (y == 1) = true := by simpa using hy1
          have H1 := Lib.hid hy1
          clear hy1
          go_wp2_with (go_at_call 99; refine Hcall.out.mono ?_; rintro e w' ⟨rfl, rfl⟩)
          go_ret
          exact ⟨ret_bool (by rw [Hd.out, Hy.out, H1.out]; rfl), by first | exact Drawn.refl _ | exact (Drawn.refl _).drewN _⟩
        · have d1 : (y == 1) = false := by simpa using hy1
          have H1 := Lib.hid hy1
          clear hy1
          go_wp2_with (go_at_call 99; refine Hcall.out.mono ?_; rintro e w' ⟨rfl, rfl⟩)
          go_ret
          exact ⟨ret_bool (by rw [Hd.out, Hy.out, Hx.out, Hm.out, decide_eq_false (show ¬ x < 2 * m by omega), decide_eq_false H1.out]; rfl), by first | exact Drawn.refl _ | exact (Drawn.refl _).drewN _⟩
end Go.Proofs.Ytdcfpobjiofnmaa
