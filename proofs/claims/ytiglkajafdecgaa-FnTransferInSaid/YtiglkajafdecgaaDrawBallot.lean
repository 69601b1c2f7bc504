/-
  Drawn ballots, texts, truths: some of the call's own.
-/
import Derived.Test.YtiglkajafdecgaaDraw
import Derived.Test.YtiglkajafdecgaaBools
import Derived.Test.YtiglkajafdecgaaBallotSpec
import Derived.Deep.RegionLaw
import Derived.Deep.DrawnRows
import Derived.Deep.AppendLies
import Derived.Test.YtiglkajafdecgaaPut
namespace Go.Proofs.Ytiglkajafdecgaa
set_option linter.unusedVariables false
open Go.RowKit

attribute [local go_sem ↓] Go.wp_at_zero Go.wp_at_succ
/-- some text of at most m bytes, drawn -/
def DrawnText (m : Nat) (w : World) (g b : Nat) (e : Ending) (w' : World) : Prop :=
  ∃ s : ByteArray, e = .returned (.string s) ∧ s.size ≤ m ∧ w.grownBy w' (some g) ∧ RdLe w' g b

/-- some text, whose length is at most n -/
def SomeTextLe (n : Nat) (w : World) (e : Ending) (w' : World) : Prop := ∃ s : ByteArray, e = .returned (.string s) ∧ s.size ≤ n ∧ Drawn w w'
set_option maxRecDepth 100000 in
set_option maxHeartbeats 400000 in
theorem sBallotText_some (A : Option Addr) (n c : Nat) (b : List Int) (B : Nat) (w : World) (h : Ints w B A n b) (hn : n ≤ 1000) (hnc : n ≤ c) :
    Calls Try.prog 61 #[.slice A n c] w (SomeTextLe n w) := by
  have hl := Lib.hid h.1
  go_enter Try.func61, Try.ntmps61
  go_wp2
  go_loopw [3, 4] (fun s i wr => ∃ (k : Nat) (t : ByteArray), k ≤ n ∧ i = .int .i64 k ∧ s = .string t ∧ t.size ≤ k ∧ Drawn w wr) (fun _ i _ => n - (intOf i).toNat)
  case atStart => exact ⟨0, _, Nat.zero_le _, rfl, rfl, Nat.le_refl _, Drawn.refl w⟩
  case round =>
    obtain ⟨k, t, hk, rfl, rfl, ht, hd⟩ := hrel
    by_cases hlt : k < n
    · have hr := h.below (hd.below B)
      cases hv : Bp.bval b 5
      · go_wp2_with (go_at_call 74; refine (sBallotValid_any A n c 5 b _ _ hr (by omega) hnc).mono ?_; rintro e w1 ⟨rfl, hd1⟩)
        go_ret
        exact ⟨t, rfl, by omega, hd.trans hd1⟩
      · have Hv := Lib.hid hv
        obtain ⟨go, oo, z, rfl, _, hc, hz⟩ := hr.at hlt
        have hfit := Bp.bval_fit _ _ Hv.out k (by rw [hl.out]; exact hlt)
        have hz0 := hfit.1
        have hz1 := hfit.2.1
        rw [hz.out] at hz0 hz1
        clear hfit
        go_wp2_with (go_at_call 74; refine (sBallotValid_any _ n c 5 b _ _ hr (by omega) hnc).mono ?_; rintro e w1 ⟨rfl, hd1⟩)
        have hc1 : w1.cell? ⟨go, oo + k, none⟩ = some (.int .i64 z) := ((hd1.below (wr.heap.size)).cell (lt_of_cell hc)).trans hc
        clear hc hv
        rcases (show z = 0 ∨ z = 1 ∨ z = 2 ∨ z = 3 ∨ z = 4 by omega) with hzz | hzz | hzz | hzz | hzz
        all_goals
          subst hzz
          go_quiet (fail)
          go_wp2_with fail
          go_roundw
          case rel => exact ⟨k + 1, _, by omega, by go_num, rfl, by rw [ByteArray.size_append]; show t.size + 1 ≤ k + 1; omega, (hd.trans hd1).drewN _⟩
          case measure => simp [intOf]; omega
    · go_wp2_with fail
      go_ret
      exact ⟨t, rfl, by omega, hd⟩

/-- drawn numbers of the call's own -/
def DrawnRow (m : Nat) (w : World) (g b : Nat) (e : Ending) (w' : World) : Prop :=
  ∃ (A : Option Addr) (n c : Nat) (zs : List Int), e = .returned (.slice A n c) ∧ n ≤ c ∧ n ≤ m ∧ Own w' w.heap.size (.slice A n c) n zs ∧ w.grownBy w' (some g) ∧ RdLe w' g b
theorem rd_own {w w' : World} {g b : Nat} {r : Option Nat} (h : RdLe w g b) (hg : w.grownBy w' r) (hr : ∀ x, r = some x → g < x) : RdLe w' g b := by
  refine h.below (B := g + 1) ⟨hg.os, hg.tape, hg.output, hg.size, fun i hi => hg.block i ?_ ?_⟩ (by omega)
  · have := h.lt; omega
  · cases r with
    | none => simp
    | some x => have := hr x rfl; simp; omega
theorem cell_new_at {w : World} {v : Value} {t : TypeId} {H : Nat} (hH : w.heap.size = H) : ∀ (j : Nat) (u : Value), ([v] : List Value)[j]? = some u → (w.alloc (.cells #[v] t)).cell? ((⟨H, 0, none⟩ : Addr).add j) = some u := by
  subst hH
  exact World.news_of_block (cs := #[v]) (heap_alloc_new _ _)
theorem own_emptyI {w : World} {base : Nat} (h : base ≤ w.heap.size) : Own (w.alloc (.cells #[] 3)) base (.slice (some ⟨w.heap.size, 0, none⟩) 0 0) 0 [] := World.ownsRow_lit w #[] 0 h (by decide) rfl
theorem only_new {w a w3 : World} {g : Nat} {r : Option Nat} (h : w.grownBy a (some g)) (k : a.grownBy w3 r) (hr : ∀ x, r = some x → w.heap.size ≤ x) : w.grownBy w3 (some g) :=
  ⟨k.os.trans h.os, k.tape.trans h.tape, k.output.trans h.output, Nat.le_trans h.size k.size, fun i hi hne => (k.block i (Nat.lt_of_lt_of_le hi h.size) (by
    cases r with
    | none => simp
    | some x => have := hr x rfl; simp; omega)).trans (h.block i hi hne)⟩
theorem own_far {w : World} {base : Nat} {e : TypeId} {sz : Nat} {v : Value} {n : Nat} {xs : List Value} (h : w.ownsRow base e sz v n xs) {p : Addr} (hp : p.block < base) (u : Value) : (w.setCell p u).ownsRow base e sz v n xs :=
  h.kept (only_setCell (World.grownBy.refl w (some p.block)) (.inl rfl) u) (by
    rcases h.2 with ⟨rfl, _⟩ | ⟨g', cap, cur, rfl, hb, _⟩
    · exact .inl rfl
    · exact .inr (by simp [Value.ownBlock]; omega))
theorem own_drewN {w : World} {base : Nat} {e : TypeId} {sz : Nat} {v : Value} {n : Nat} {xs : List Value} (h : w.ownsRow base e sz v n xs) (k : Nat) : (w.drewN k).ownsRow base e sz v n xs := own_keep h (below_drewN (Below.refl _ _) k)
theorem threeOf (a b c k : Int) (h0 : 0 ≤ k) (h1 : k < 3) : ∃ v : Int, ([.int .i64 a, .int .i64 b, .int .i64 c] : List Value)[k.toNat]'(by simp; omega) = .int .i64 v := by
  rcases (show k = 0 ∨ k = 1 ∨ k = 2 by omega) with rfl | rfl | rfl
  · exact ⟨a, rfl⟩
  · exact ⟨b, rfl⟩
  · exact ⟨c, rfl⟩
set_option maxRecDepth 100000 in
set_option maxHeartbeats 4000000 in
theorem l91Ballot_some (g b : Nat) (n : Int) (w : World) (h : RdLe w g b) (hp : b ≤ 100000000) (hn0 : -1000 ≤ n) (hn1 : n ≤ 1000) :
    Calls Try.prog 62 #[.pointer (some ⟨g, 0, none⟩), .int .i64 n] w (DrawnRow 10 w g (b + 12)) := by
  have hlt := h.lt
  obtain ⟨i0, hi0, hz0, hz1, hz2⟩ := info_parts int_info
  go_enter Try.func62, Try.ntmps62
  go_wp2_with fail
  refine (pick_b g b (n + 1) _ (h.alloc _) (by omega)).mono ?_
  rintro e w1 ⟨q, rfl, hq0, hq1, hq2, hg1, hr1⟩
  have hq : q ≤ 1000 := by
    by_cases h1 : 1 ≤ n + 1
    · have := hq1 h1; omega
    · have := hq2 (by omega); omega
  have hs1 := hg1.size
  simp at hs1
  have O1 : w.grownBy w1 (some g) := only_trans (only_of_below (by repeat (first | exact Below.refl _ _ | assumption | refine below_drewN ?_ _ | refine Below.drew ?_ | refine Below.alloc ?_ (by first | exact Nat.le_refl _ | omega | (simp; done) | (simp; omega)) _ | refine Below.setCell ?_ (by first | exact Nat.le_refl _ | omega | (simp; done) | (simp; omega)) _)) _) hg1
  have own1 : Own w1 w.heap.size (.slice (some ⟨w.heap.size, 0, none⟩) 0 0) 0 [] := Own.only (own_emptyI (Nat.le_refl _)) hg1 hlt
  clear hg1 hq1 hq2
  go_wp2_with fail
  go_loopw [5, 7] (fun v i wr => ∃ j : Nat, j ≤ 9 ∧ i = .int .i64 j ∧ (∃ A k c zs, v = .slice A k c ∧ k ≤ c ∧ k ≤ j ∧ Own wr w.heap.size (.slice A k c) k zs) ∧ w.grownBy wr (some g) ∧ RdLe wr g (b + 1 + j)) (fun _ i _ => 9 - (intOf i).toNat)
  case atStart => exact ⟨0, by omega, rfl, ⟨_, 0, 0, [], rfl, Nat.le_refl _, Nat.le_refl _, own1⟩, O1, hr1⟩
  case round =>
    obtain ⟨j, hj, rfl, ⟨A, k, c, zs, rfl, hkc, hkj, hown⟩, hO, hr⟩ := hrel
    clear own1 O1 hr1
    have hsz := hO.size
    by_cases hgo : j < 9 ∧ (k : Int) < q
    · obtain ⟨hj9, hkq⟩ := hgo
      go_wp2_with fail
      refine (pick_b g (b + 1 + j) n _ hr (by omega)).mono ?_
      rintro e w2 ⟨x, rfl, hx0, hx1, hx2, hg2, hr2⟩
      have hx : x ≤ 1000 := by
        by_cases h1 : 1 ≤ n
        · have := hx1 h1; omega
        · have := hx2 (by omega); omega
      have hs2 := hg2.size
      have O2 := only_trans hO hg2
      have own2 := hown.only hg2 hlt
      clear hx1 hx2 hown hg2
      cases hh : Bp.has zs x
      · go_wp2_with (first | (go_at_call 72; refine (l1Has_any A k c x zs _ _ own2.ints (by omega)).mono ?_; rintro e w' ⟨rfl, rfl⟩) | (at_builtin; refine wpList_append_own _ rfl (.tmp 31) (.tmp 33) 23 rfl w.heap.size 3 i0 _ 1 8 Try.underlying23 hi0 hz0 hz1 hz2 rfl (by decide) (.slice A k c) k _ rfl (own2.row.alloc _) ⟨w2.heap.size, 0, none⟩ 1 1 [.int .i64 x] rfl rfl (cell_one_new _ _ _) (by simp [Value.oneCell']) (by unfold maxLen; omega) (by omega) (by simp; omega) ?_; intro v1 w3 hown3 hg3 _; obtain ⟨A1, c1, rfl, hkc1⟩ := own_slice hown3))
        have O3 : Hid (w.grownBy w3 (some g)) := only_new (only_alloc O2 _) hg3 (fun y hy => (own2.row.lt y hy).1)
        go_roundw
        case rel => exact ⟨j + 1, by omega, by go_num, ⟨A1, k + 1, c1, zs ++ [x], rfl, hkc1, by omega, by unfold Own; rw [List.map_append]; exact hown3⟩, O3.out, rd_own (hr2.alloc _) hg3 (fun y hy => by have := (own2.row.lt y hy).1; omega)⟩
        case measure => simp [intOf]; omega
      · go_wp2_with (go_at_call 72; refine (l1Has_any A k c x zs _ _ own2.ints (by omega)).mono ?_; rintro e w' ⟨rfl, rfl⟩)
        go_roundw
        case rel => exact ⟨j + 1, by omega, by go_num, ⟨A, k, c, zs, rfl, hkc, by omega, own2⟩, O2, hr2⟩
        case measure => simp [intOf]; omega
    · have hend : Hid (DrawnRow 10 w g (b + 12) (.returned (.slice A k c)) wr) := ⟨A, k, c, zs, rfl, hkc, by omega, hown, hO, hr.mono (by omega)⟩
      have Hgo := Lib.hid hgo
      have hk10 : k ≤ 9 := by omega
      clear hgo
      by_cases hk0 : k = 0
      · have hk00 : ¬ (0 : Int) < (k : Int) := by omega
        have Hk0 := Lib.hid hk0
        clear hk0
        by_cases hj9 : j < 9
        · have hjq : ¬ (k : Int) < q := fun h => Hgo.out ⟨hj9, h⟩
          go_wp2_with fail
          go_ret
          exact hend.out
        · go_wp2_with fail
          go_ret
          exact hend.out
      · have hk00 : (0 : Int) < (k : Int) := by omega
        have hkn0 : 0 < k := by omega
        have hk1 : k + 1 ≤ c ∨ True := .inr trivial
        clear hk1
        have hnn : (.slice A k c : Value) ≠ .slice none 0 0 := fun e => by injection e with _ e2 _; omega
        obtain ⟨ga, ca, he, hkca, hgab⟩ := own_form hown hnn
        injection he with e1 _ e3
        subst e1; subst e3
        obtain ⟨hc, _⟩ := own_cell hown 0 hkn0
        obtain ⟨z, hz⟩ : ∃ z, zs.getD 0 0 = z := ⟨_, rfl⟩
        rw [hz] at hc
        clear hz
        have hgl := lt_of_cell hc
        have n1 : ¬ ga = g := by omega
        have n2 : ¬ g = ga := by omega
        clear hnn
        have fin : ∀ w9 : World, wr.grownBy w9 (some g) → RdLe w9 g (b + 12) → Hid (DrawnRow 10 w g (b + 12) (.returned (.slice (some ⟨ga, 0, none⟩) k c)) w9) := fun w9 h1 h2 => ⟨_, k, c, zs, rfl, hkc, by omega, hown.only h1 hlt, only_trans hO h1, h2⟩
        have Fin := Lib.hid fin
        clear fin
        by_cases hj9 : j < 9
        · have hjq : ¬ (k : Int) < q := fun h => Hgo.out ⟨hj9, h⟩
          go_wp2_with fail
          refine (pick_b g (b + 1 + j) 20 _ hr (by omega)).mono ?_
          rintro e w2 ⟨x, rfl, hx0, -, -, hg2, hr2⟩
          by_cases hx : x = 0
          · subst hx
            have own2 := hown.only hg2 hlt
            have O2 := only_trans hO hg2
            have hc2 : w2.cell? ⟨ga, 0, none⟩ = some (.int .i64 z) := hg2.cell hc (by simp; omega)
            have hs2 := hg2.size
            have hlt2 : ga < w2.heap.size := by omega
            have n3 : ¬ g = w2.heap.size := by omega
            have n4 : ¬ w2.heap.size = g := by omega
            clear hc hown hg2
            go_wp2_with fail
            go_region_law (first
              | ((refine step_append_own (o := ⟨some 53, _, _, _, _, _⟩) (by rfl) (.tmp 43) (.tmp 52) 23 (by rfl) w.heap.size 3 i0 _ 1 8 Try.underlying23 hi0 hz0 hz1 hz2 (by rfl) (by decide) (.slice (some ⟨ga, 0, none⟩) k c) k (zs.map (Value.int .i64)) (by rfl) (by repeat (first | exact own2.row | refine own_drawn ?_ | refine own_drewN ?_ _ | refine World.ownsRow.alloc ?_ _ | refine own_far ?_ (show g < w.heap.size from hlt) _)) ⟨w2.heap.size + 1, 0, none⟩ 1 1 [.int .i64 va] (by rfl) (by rfl) (cell_new_at (by simp)) (by simp [Value.oneCell']) (by unfold maxLen; omega) (by omega) (by first | omega | (simp; omega)) ?_; intro v3 w3 hown3 hg3 hv3))
              | ((go_simp
                  go_at_call 59
                  refine (pick_le g (b + 11) 3 _ ?_ (by omega)).mono ?_
                  · repeat (first | (with_reducible exact (hr2.mono (by omega))) | refine RdLe.drewN ?_ _ | refine RdLe.drew ?_ | refine RdLe.alloc ?_ _)
                  rintro e wx ⟨kx, qx, nx, rfl, hkx0, hkx1, -, hqx0, hqx1, rfl⟩
                  have hkx := hkx1 (by omega)
                  clear hkx1
                  obtain ⟨va, hva⟩ := threeOf z (-1) 5 kx hkx0 hkx))
              | fail)
            all_goals
              obtain ⟨g4, c4, rfl, hc4, hg4⟩ := own_form hown3 (fun e => by have := hv3.1 e; cases this.1)
              go_wp2_with fail
              exact bodyPost_ret (v := .slice (some ⟨g4, 0, none⟩) (k + 1) c4) (by simp [results, Try.results62, go_sem]) rfl ⟨_, k + 1, c4, zs ++ [va], rfl, hc4, by omega, by unfold Own; rw [List.map_append]; exact hown3, only_new (by repeat (first | exact O2 | (with_reducible refine only_drewN ?_ _) | (with_reducible refine only_drew ?_) | (with_reducible refine only_alloc ?_ _) | (with_reducible refine only_setCell ?_ (.inl rfl) _))) hg3 (fun y hy => by have e : ga = y := Option.some.inj hy; omega), rd_own (b := b + 12) (by repeat (first | (with_reducible exact RdLe.mono hr2 (by omega)) | (with_reducible refine RdLe.drewN ?_ _) | (with_reducible refine RdLe.drew ?_) | (with_reducible refine RdLe.alloc ?_ _) | (with_reducible refine RdLe.set (b := b + 11) ?_ _ (by assumption) (by omega)))) hg3 (fun y hy => by have e : ga = y := Option.some.inj hy; omega)⟩
          · have d0 : (x == 0) = false := by simpa using hx
            go_wp2_with fail
            go_ret
            exact (Fin.out w2 hg2 (hr2.mono (by omega))).out
        · go_wp2_with fail
          refine (pick_b g (b + 1 + j) 20 _ hr (by omega)).mono ?_
          rintro e w2 ⟨x, rfl, hx0, -, -, hg2, hr2⟩
          by_cases hx : x = 0
          · subst hx
            have own2 := hown.only hg2 hlt
            have O2 := only_trans hO hg2
            have hc2 : w2.cell? ⟨ga, 0, none⟩ = some (.int .i64 z) := hg2.cell hc (by simp; omega)
            have hs2 := hg2.size
            have hlt2 : ga < w2.heap.size := by omega
            have n3 : ¬ g = w2.heap.size := by omega
            have n4 : ¬ w2.heap.size = g := by omega
            clear hc hown hg2
            go_wp2_with fail
            go_region_law (first
              | ((refine step_append_own (o := ⟨some 53, _, _, _, _, _⟩) (by rfl) (.tmp 43) (.tmp 52) 23 (by rfl) w.heap.size 3 i0 _ 1 8 Try.underlying23 hi0 hz0 hz1 hz2 (by rfl) (by decide) (.slice (some ⟨ga, 0, none⟩) k c) k (zs.map (Value.int .i64)) (by rfl) (by repeat (first | exact own2.row | refine own_drawn ?_ | refine own_drewN ?_ _ | refine World.ownsRow.alloc ?_ _ | refine own_far ?_ (show g < w.heap.size from hlt) _)) ⟨w2.heap.size + 1, 0, none⟩ 1 1 [.int .i64 va] (by rfl) (by rfl) (cell_new_at (by simp)) (by simp [Value.oneCell']) (by unfold maxLen; omega) (by omega) (by first | omega | (simp; omega)) ?_; intro v3 w3 hown3 hg3 hv3))
              | ((go_simp
                  go_at_call 59
                  refine (pick_le g (b + 11) 3 _ ?_ (by omega)).mono ?_
                  · repeat (first | (with_reducible exact (hr2.mono (by omega))) | refine RdLe.drewN ?_ _ | refine RdLe.drew ?_ | refine RdLe.alloc ?_ _)
                  rintro e wx ⟨kx, qx, nx, rfl, hkx0, hkx1, -, hqx0, hqx1, rfl⟩
                  have hkx := hkx1 (by omega)
                  clear hkx1
                  obtain ⟨va, hva⟩ := threeOf z (-1) 5 kx hkx0 hkx))
              | fail)
            all_goals
              obtain ⟨g4, c4, rfl, hc4, hg4⟩ := own_form hown3 (fun e => by have := hv3.1 e; cases this.1)
              go_wp2_with fail
              exact bodyPost_ret (v := .slice (some ⟨g4, 0, none⟩) (k + 1) c4) (by simp [results, Try.results62, go_sem]) rfl ⟨_, k + 1, c4, zs ++ [va], rfl, hc4, by omega, by unfold Own; rw [List.map_append]; exact hown3, only_new (by repeat (first | exact O2 | (with_reducible refine only_drewN ?_ _) | (with_reducible refine only_drew ?_) | (with_reducible refine only_alloc ?_ _) | (with_reducible refine only_setCell ?_ (.inl rfl) _))) hg3 (fun y hy => by have e : ga = y := Option.some.inj hy; omega), rd_own (b := b + 12) (by repeat (first | (with_reducible exact RdLe.mono hr2 (by omega)) | (with_reducible refine RdLe.drewN ?_ _) | (with_reducible refine RdLe.drew ?_) | (with_reducible refine RdLe.alloc ?_ _) | (with_reducible refine RdLe.set (b := b + 11) ?_ _ (by assumption) (by omega)))) hg3 (fun y hy => by have e : ga = y := Option.some.inj hy; omega)⟩
          · have d0 : (x == 0) = false := by simpa using hx
            go_wp2_with fail
            go_ret
            exact (Fin.out w2 hg2 (hr2.mono (by omega))).out
end Go.Proofs.Ytiglkajafdecgaa
