/-
  Drawn lots, and drawn piles with lots: some of the call's own.
-/
import Derived.Test.YtiglkajafdecgaaDrawPiles
import Derived.Maps.AppendAt
namespace Go.Proofs.Ytiglkajafdecgaa
set_option linter.unusedVariables false
open Go.RowKit

attribute [local go_sem ↓] Go.wp_at_zero Go.wp_at_succ
/-- the first places of a row of the call's own -/
theorem own_prefix {w : World} {base g n c k : Nat} {zs : List Int} (h : Own w base (.slice (some ⟨g, 0, none⟩) n c) n zs) (hk : k ≤ n) : Own w base (.slice (some ⟨g, 0, none⟩) k c) k (zs.take k) := by
  have hl := h.len
  refine ⟨by simp; omega, .inr ?_⟩
  rcases h.2 with ⟨e, _⟩ | ⟨g', cap, cur, e, h1, h2, h3, h4, h5, h6⟩
  · cases e
  · injection e with e1 e2 e3
    injection e1 with e1
    injection e1 with e1
    subst e1; subst e3
    refine ⟨_, _, cur, rfl, h1, h2, by omega, h4, h5, ?_⟩
    rw [Nat.mul_one] at h6
    rw [Nat.mul_one, List.map_take, ← h6, List.take_take, Nat.min_eq_left hk]
/-- the cells of numbers that lie at an address -/
theorem icells_lie {w : World} {B g o n : Nat} {zs : List Int} (h : Ints w B (some ⟨g, o, none⟩) n zs) (lo hi : Nat) (h1 : lo ≤ hi) (h2 : hi ≤ n) : ∀ j u, (((zs.drop lo).take (hi - lo)).map (Value.int .i64))[j]? = some u → w.cell? ((⟨g, o + lo, none⟩ : Addr).add j) = some u := fun j u hu => by
  have hj : j < hi - lo := by
    rcases Nat.lt_or_ge j (hi - lo) with h3 | h3
    · exact h3
    · rw [List.getElem?_eq_none (by simp; omega)] at hu; cases hu
  obtain ⟨g', o', e, _, hc⟩ := h.2 (by omega)
  injection e with e
  injection e with e1 e2
  subst e1; subst e2
  have hl : lo + j < zs.length := by rw [h.1]; omega
  have h3 := hc (lo + j) (by omega)
  have hadd : (⟨g, o + lo, none⟩ : Addr).add j = ⟨g, o + (lo + j), none⟩ := by
    unfold Addr.add
    split
    · next h => subst h; rfl
    · simp only [Nat.add_assoc]
  rw [hadd, h3]
  rw [← hu]
  simp [List.getD, hl, hj]
theorem icells_one (zs : List Int) : ∀ u ∈ zs.map (Value.int .i64), u.oneCell' = true := fun u hu => by
  obtain ⟨z, _, rfl⟩ := List.mem_map.1 hu
  rfl

def sliceN : Value → Nat
  | .slice _ n _ => n
  | _ => 0
/-- what LotsOf leaves: some lots -/
def LotsP (w : World) (e : Ending) (w' : World) : Prop :=
  ∃ (A : Option Addr) (n c : Nat) (k : Bool) (zs : List Int), e = .returned (.tuple #[.slice A n c, .bool k]) ∧ n ≤ c ∧ n ≤ 5 ∧ (k = true → ∃ g, A = some ⟨g, 0, none⟩ ∧ 1 ≤ n) ∧ Own w' w.heap.size (.slice A n c) n zs ∧ Below w.heap.size w w'
set_option maxRecDepth 100000 in
set_option maxHeartbeats 4000000 in
theorem lotsOf_some (n s : Int) (w : World) (hs0 : 0 ≤ s) (hs1 : s ≤ 999) :
    Calls Try.prog 82 #[.int .i64 n, .int .i64 s] w (LotsP w) := by
  obtain ⟨i0, hi0, hz0, hz1, hz2⟩ := info_parts int_info
  cases hn : Fp.inr n 1 5
  · go_enter Try.func82, Try.ntmps82
    go_wp2_with (go_at_call 52; refine (l6In_any _ _ _ _).mono ?_; rintro e w' ⟨rfl, rfl⟩)
    go_ret2
    exact ⟨_, 0, 0, false, [], rfl, Nat.le_refl _, by omega, (fun h => by cases h), own_emptyI (Nat.le_refl _), (by repeat (first | exact Below.refl _ _ | assumption | refine below_drewN ?_ _ | refine Below.drew ?_ | refine Below.alloc ?_ (by first | exact Nat.le_refl _ | omega | (simp; done) | (simp; omega)) _ | refine Below.setCell ?_ (by first | exact Nat.le_refl _ | omega | (simp; done) | (simp; omega)) _))⟩
  have hn' := (Fp.inr_iff n 1 5).1 hn
  obtain ⟨m, rfl⟩ := Int.eq_ofNat_of_zero_le (show 0 ≤ n by omega)
  have hm1 : 1 ≤ m := by omega
  have hm5 : m ≤ 5 := by omega
  have hs : Fp.inr s 0 999 = true := (Fp.inr_iff s 0 999).2 ⟨hs0, hs1⟩
  clear hn'
  go_enter Try.func82, Try.ntmps82
  go_wp2_with (go_at_call 52; refine (l6In_any _ _ _ _).mono ?_; rintro e w' ⟨rfl, rfl⟩)
  clear hn hs
  go_loopw [6, 7] (fun v i wr => ∃ k : Nat, k ≤ m ∧ i = .int .i64 k ∧ (∃ g c zs, v = .slice (some ⟨g, 0, none⟩) k c ∧ k ≤ c ∧ Own wr w.heap.size (.slice (some ⟨g, 0, none⟩) k c) k zs) ∧ Below w.heap.size w wr) (fun _ i _ => m - (intOf i).toNat)
  case atStart => exact ⟨0, Nat.zero_le _, rfl, ⟨_, 0, [], rfl, Nat.le_refl _, own_emptyI (Nat.le_refl _)⟩, (by repeat (first | exact Below.refl _ _ | assumption | refine below_drewN ?_ _ | refine Below.drew ?_ | refine Below.alloc ?_ (by first | exact Nat.le_refl _ | omega | (simp; done) | (simp; omega)) _ | refine Below.setCell ?_ (by first | exact Nat.le_refl _ | omega | (simp; done) | (simp; omega)) _))⟩
  case round =>
    obtain ⟨k, hk, rfl, ⟨g, c, zs, rfl, hkc, hown⟩, hb⟩ := hrel
    have hz := hb.size
    by_cases hlt : k < m
    · go_wp2_with (at_builtin; refine wpList_append_own _ rfl (.tmp 25) (.tmp 27) 23 rfl w.heap.size 3 i0 _ 1 8 Try.underlying23 hi0 hz0 hz1 hz2 rfl (by decide) (.slice (some ⟨g, 0, none⟩) k c) k _ rfl (hown.row.alloc _) ⟨wr.heap.size, 0, none⟩ 1 1 [.int .i64 (k : Int)] rfl rfl (cell_one_new _ _ _) (by simp [Value.oneCell']) (by unfold maxLen; omega) (by omega) (by simp; omega) ?_; intro v1 w1 hown1 hg1 hv1; obtain ⟨g1, c1, rfl, hkc1, hgb1⟩ := own_form hown1 (fun e => by have := hv1.1 e; cases this.1); clear hv1)
      go_roundw
      case rel => exact ⟨k + 1, by omega, by go_num, ⟨g1, c1, zs ++ [(k : Int)], rfl, hkc1, by unfold Own; rw [List.map_append]; exact hown1⟩, (hb.alloc hz _).grown hg1 (by simp; omega) (fun g hg => (hown.row.lt g hg).1)⟩
      case measure => simp [intOf]; omega
    · have hkm : k = m := by omega
      subst hkm
      go_wp2_with fail
      have hb2 : Below w.heap.size w (wr.alloc (.cells #[] 3)) := hb.alloc hz _
      go_loopw [1, 6, 8] (fun sd r o wi => ∃ (q : Int) (a b : Nat), sd = .int .i64 q ∧ 0 ≤ q ∧ q ≤ 999 ∧ a + b = k ∧ (∃ gr cr zr, r = .slice (some ⟨gr, 0, none⟩) a cr ∧ a ≤ cr ∧ Own wi w.heap.size (.slice (some ⟨gr, 0, none⟩) a cr) a zr ∧
        ∃ go co zo, o = .slice (some ⟨go, 0, none⟩) b co ∧ b ≤ co ∧ go ≠ gr ∧ Own wi w.heap.size (.slice (some ⟨go, 0, none⟩) b co) b zo) ∧ Below w.heap.size w wi) (fun _ r _ _ => sliceN r)
      case atStart => exact ⟨s, k, 0, rfl, hs0, hs1, by omega, ⟨g, c, zs, rfl, hkc, hown.row.alloc _, _, 0, [], rfl, Nat.le_refl _, by have := (hown.row.lt g rfl).2; omega, own_emptyI hz⟩, hb2⟩
      case round =>
        obtain ⟨q, a, b, rfl, hq0, hq1, hab, ⟨gr, cr, zr, rfl, hac, hownr, go, co, zo, rfl, hbc, hne, howno⟩, hbi⟩ := hrel
        clear hb hb2 hown hz hkc
        have hz := hbi.size
        rcases Nat.eq_zero_or_pos a with ha0 | ha0
        · subst ha0
          go_wp2_with fail
          go_ret2
          exact ⟨_, b, co, true, zo, rfl, hbc, by omega, (fun _ => ⟨go, rfl, by omega⟩), howno, hbi⟩
        · have ha00 : (0 : Int) < (a : Int) := by omega
          obtain ⟨t, ht, hta⟩ : ∃ t : Nat, q % (a : Int) = (t : Int) ∧ t < a := by
            obtain ⟨qn, rfl⟩ := Int.eq_ofNat_of_zero_le hq0
            exact ⟨qn % a, by simp, Nat.mod_lt _ (by omega)⟩
          obtain ⟨d, hd, hd0, hd1⟩ : ∃ d : Int, q / (a : Int) = d ∧ 0 ≤ d ∧ d ≤ 999 := ⟨_, rfl, Int.ediv_nonneg hq0 (by omega), by
            have := Int.ediv_le_self (a : Int) hq0; omega⟩
          obtain ⟨hcr, _⟩ := own_cell hownr t hta
          obtain ⟨x, hx⟩ : ∃ x, zr.getD t 0 = x := ⟨_, rfl⟩
          rw [hx] at hcr
          clear hx
          have i1 : (0 : Int) ≤ (t : Int) := by omega
          have i2 : (t : Int) < (a : Int) := by omega
          have hgrl := (hownr.row.lt gr rfl).2
          go_wp2_with (at_builtin; refine wpList_append_own_at _ rfl (.tmp 41) (.tmp 46) 23 rfl w.heap.size 3 i0 _ 1 8 Try.underlying23 hi0 hz0 hz1 hz2 rfl (by decide) (.slice (some ⟨go, 0, none⟩) b co) b _ rfl (howno.row.alloc _) ⟨wr.heap.size, 0, none⟩ 1 1 [.int .i64 x] rfl rfl (cell_one_new _ _ _) (by simp [Value.oneCell']) (by unfold maxLen; omega) (by omega) (by simp; omega) ?_; intro v1 w1 hown1 hg1 hv1 hat1; obtain ⟨g1, c1, rfl, hkc1, hgb1⟩ := own_form hown1 (fun e => by have := hv1.1 e; cases this.1); clear hv1)
          have B1 : Below w.heap.size w w1 := (hbi.alloc hz _).grown hg1 (by simp; omega) (fun y hy => (howno.row.lt y hy).1)
          have hzz1 := B1.size
          have hs1 := hg1.size
          simp at hs1
          have hownr1 : Own w1 w.heap.size (.slice (some ⟨gr, 0, none⟩) a cr) a zr := (hownr.row.alloc _).kept hg1 (.inr (fun e => hne (Option.some.inj e).symm))
          have hg1r : g1 ≠ gr := fun e => by
            rcases hat1 with e1 | e1
            · exact hne ((Option.some.inj e1).symm.trans e)
            · have e2 : g1 = _ := Option.some.inj e1
              simp at e2
              omega
          have hg1l := (hown1.lt g1 rfl).2
          have hgrl1 := (hownr1.row.lt gr rfl).2
          have hr : ∀ lo hi, lo ≤ hi → hi ≤ a → ∀ w', Below w1.heap.size w1 w' → ∀ j u, (((zr.drop lo).take (hi - lo)).map (Value.int .i64))[j]? = some u → w'.cell? ((⟨gr, lo, none⟩ : Addr).add j) = some u := fun lo hi h1 h2 w' hb => by
            have := icells_lie (hownr1.ints.below hb) lo hi h1 h2
            rw [Nat.zero_add] at this
            exact this
          have Hr := Lib.hid hr
          obtain ⟨y, hy⟩ : ∃ y : Nat, y = t + 1 := ⟨_, rfl⟩
          have hw1 : IntKind.i64.wrap ((t : Int) + 1) = (y : Int) := by rw [IntWalk.i64_in _ (by omega)]; omega
          have hya : y ≤ a := by omega
          have hty : t < y := by omega
          have i3 : (0 : Int) ≤ (y : Int) := by omega
          have i4 : (y : Int) ≤ (a : Int) := by omega
          have i5 : (t : Int) ≤ (cr : Int) := by omega
          have i7 : (y : Int) ≤ (cr : Int) := by omega
          have i8 : (t : Int) ≤ (y : Int) := by omega
          have Hy := Lib.hid hy
          have hyt : y ≤ t + 1 := by omega
          clear hy
          clear hr hownr howno hg1 hat1 hcr
          by_cases hcap : y = cr
          · have hat : cr = a := by omega
            subst hat
            subst hcap
            go_region_law (first
              | ((refine step_append_own (o := ⟨some 52, _, _, _, _, _⟩) (by rfl) (.tmp 48) (.tmp 51) 23 (by rfl) w1.heap.size 3 i0 _ 1 8 Try.underlying23 hi0 hz0 hz1 hz2 (by rfl) (by decide) (.slice (some ⟨w1.heap.size, 0, none⟩) 0 0) 0 [] (by rfl) (by exact own_drawn (own_emptyI (Nat.le_refl _)).row) ⟨gr, 0, none⟩ t y (((zr.drop 0).take (t - 0)).map (Value.int .i64)) (by rfl) (by simp; have := hownr1.len; omega) (by exact Hr.out 0 t (by omega) (by omega) _ (by repeat (first | exact Below.refl _ _ | assumption | refine below_drewN ?_ _ | refine Below.drew ?_ | refine Below.alloc ?_ (by first | exact Nat.le_refl _ | omega | (simp; done) | (simp; omega)) _ | refine Below.setCell ?_ (by first | exact Nat.le_refl _ | omega | (simp; done) | (simp; omega)) _))) (icells_one _) (by unfold maxLen; omega) (by omega) (by first | omega | (simp; done) | (simp; omega)) ?_; intro v2 w2 hown2 hg2 hv2; have B2 : Below w1.heap.size w1 w2 := Below.grown (by repeat (first | exact Below.refl _ _ | assumption | refine below_drewN ?_ _ | refine Below.drew ?_ | refine Below.alloc ?_ (by first | exact Nat.le_refl _ | omega | (simp; done) | (simp; omega)) _ | refine Below.setCell ?_ (by first | exact Nat.le_refl _ | omega | (simp; done) | (simp; omega)) _)) hg2 (by first | omega | (simp; done) | (simp; omega)) (fun x hx => (by have e : w1.heap.size = x := Option.some.inj hx; omega)); have hv2' : v2 ≠ .slice none 0 0 := fun e => (by have := hv2.1 e; cases this.1); clear hv2))
              | ((refine step_append_own (o := ⟨some 57, _, _, _, _, _⟩) (by rfl) (.tmp 52) (.tmp 56) 23 (by rfl) w1.heap.size 3 i0 _ 1 8 Try.underlying23 hi0 hz0 hz1 hz2 (by rfl) (by decide) v2 _ _ (by rfl) hown2 ⟨gr, 0, none⟩ 0 0 [] (by rfl) (by rfl) (fun j u hu => by simp at hu) (fun u hu => by cases hu) (by unfold maxLen; omega) (by omega) (by have := B2.size; omega) ?_; intro v3 w3 hown3 hg3 hv3; have B3 : Below w1.heap.size w1 w3 := below_row B2 hg3 hown2 (Nat.le_refl _); have hv3' : v3 ≠ .slice none 0 0 := fun e => hv2' (hv3.1 e).1; clear hv3))
              | fail)
            obtain ⟨g3, c3, rfl, hc3, hg3b⟩ := own_form hown3 hv3'
            simp only [Nat.zero_add, Nat.add_zero, List.nil_append, List.append_nil, Nat.sub_zero, List.drop_zero] at hown3 hc3
            have howno3 : Own w3 w.heap.size (.slice (some ⟨g1, 0, none⟩) (b + 1) c1) (b + 1) (zo ++ [x]) := Own.keep (by unfold Own; rw [List.map_append]; exact hown1) B3
            go_simp
            go_wp2_with fail
            go_roundw
            case rel => exact ⟨d, _, b + 1, rfl, hd0, hd1, by omega, ⟨g3, c3, zr.take t, rfl, hc3, own_base hown3 hzz1, g1, c1, zo ++ [x], rfl, hkc1, by omega, howno3⟩, B1.trans (B3.mono hzz1)⟩
            case measure => simp [sliceN]; omega
          · have hcap2 : ¬ cr = y := by omega
            go_region_law (first
              | ((refine step_append_own (o := ⟨some 52, _, _, _, _, _⟩) (by rfl) (.tmp 48) (.tmp 51) 23 (by rfl) w1.heap.size 3 i0 _ 1 8 Try.underlying23 hi0 hz0 hz1 hz2 (by rfl) (by decide) (.slice (some ⟨w1.heap.size, 0, none⟩) 0 0) 0 [] (by rfl) (by exact own_drawn (own_emptyI (Nat.le_refl _)).row) ⟨gr, 0, none⟩ t cr (((zr.drop 0).take (t - 0)).map (Value.int .i64)) (by rfl) (by simp; have := hownr1.len; omega) (by exact Hr.out 0 t (by omega) (by omega) _ (by repeat (first | exact Below.refl _ _ | assumption | refine below_drewN ?_ _ | refine Below.drew ?_ | refine Below.alloc ?_ (by first | exact Nat.le_refl _ | omega | (simp; done) | (simp; omega)) _ | refine Below.setCell ?_ (by first | exact Nat.le_refl _ | omega | (simp; done) | (simp; omega)) _))) (icells_one _) (by unfold maxLen; omega) (by omega) (by first | omega | (simp; done) | (simp; omega)) ?_; intro v2 w2 hown2 hg2 hv2; have B2 : Below w1.heap.size w1 w2 := Below.grown (by repeat (first | exact Below.refl _ _ | assumption | refine below_drewN ?_ _ | refine Below.drew ?_ | refine Below.alloc ?_ (by first | exact Nat.le_refl _ | omega | (simp; done) | (simp; omega)) _ | refine Below.setCell ?_ (by first | exact Nat.le_refl _ | omega | (simp; done) | (simp; omega)) _)) hg2 (by first | omega | (simp; done) | (simp; omega)) (fun x hx => (by have e : w1.heap.size = x := Option.some.inj hx; omega)); have hv2' : v2 ≠ .slice none 0 0 := fun e => (by have := hv2.1 e; cases this.1); clear hv2))
              | ((refine step_append_own (o := ⟨some 57, _, _, _, _, _⟩) (by rfl) (.tmp 52) (.tmp 56) 23 (by rfl) w1.heap.size 3 i0 _ 1 8 Try.underlying23 hi0 hz0 hz1 hz2 (by rfl) (by decide) v2 _ _ (by rfl) hown2 ⟨gr, y, none⟩ (a - y) (cr - y) (((zr.drop y).take (a - y)).map (Value.int .i64)) (by rfl) (by simp; have := hownr1.len; omega) (Hr.out y a (by omega) (by omega) _ B2) (icells_one _) (by unfold maxLen; omega) (by omega) (by have := B2.size; omega) ?_; intro v3 w3 hown3 hg3 hv3; have B3 : Below w1.heap.size w1 w3 := below_row B2 hg3 hown2 (Nat.le_refl _); have hv3' : v3 ≠ .slice none 0 0 := fun e => hv2' (hv3.1 e).1; clear hv3))
              | fail)
            obtain ⟨g3, c3, rfl, hc3, hg3b⟩ := own_form hown3 hv3'
            simp only [Nat.zero_add, List.nil_append, Nat.sub_zero, List.drop_zero] at hown3 hc3
            have howno3 : Own w3 w.heap.size (.slice (some ⟨g1, 0, none⟩) (b + 1) c1) (b + 1) (zo ++ [x]) := Own.keep (by unfold Own; rw [List.map_append]; exact hown1) B3
            go_simp
            go_wp2_with fail
            go_roundw
            case rel => exact ⟨d, _, b + 1, rfl, hd0, hd1, by omega, ⟨g3, c3, zr.take t ++ (zr.drop y).take (a - y), rfl, hc3, own_base (by rw [List.map_append]; exact hown3) hzz1, g1, c1, zo ++ [x], rfl, hkc1, by omega, howno3⟩, B1.trans (B3.mono hzz1)⟩
            case measure => simp [sliceN]; omega
set_option maxRecDepth 100000 in
set_option maxHeartbeats 400000 in
theorem l91Lots_some (g b : Nat) (n : Int) (w : World) (h : RdLe w g b) (hp : b ≤ 10000000) :
    Calls Try.prog 63 #[.pointer (some ⟨g, 0, none⟩), .int .i64 n] w (DrawnRow 10 w g (b + 10)) := by
  have hlt := h.lt
  go_enter Try.func63, Try.ntmps63
  go_wp2_with fail
  refine (pick_b g b 256 _ h (by omega)).mono ?_
  rintro e w1 ⟨q, rfl, hq0, hq1, -, hg1, hr1⟩
  have hq := hq1 (by omega)
  clear hq1
  go_wp2_with fail
  refine (lotsOf_some n (q * 3) _ (by omega) (by omega)).mono ?_
  rintro e w2 ⟨A, k, c, ok, zs, rfl, hkc, hk5, hok, hown, hb2⟩
  have O2 := only_keep hg1 hb2
  have hr2 := hr1.keep hb2
  have hs1 := hg1.size
  have hownB := hown.base hs1
  cases ok
  · go_wp2_with fail
    go_ret
    exact ⟨A, k, c, zs, rfl, hkc, by omega, hownB, O2, hr2.mono (by omega)⟩
  obtain ⟨ga, rfl, hk1⟩ := hok rfl
  clear hok hown
  go_wp2_with fail
  refine (pick_b g (b + 1) 24 _ hr2 (by omega)).mono ?_
  rintro e w3 ⟨x, rfl, hx0, hx1, -, hg3, hr3⟩
  have O3 := only_trans O2 hg3
  have own3 := hownB.only hg3 hlt
  clear hg3 hx1
  by_cases hx : 0 < x
  · go_wp2_with fail
    go_ret
    exact ⟨_, k, c, zs, rfl, hkc, by omega, own3, O3, hr3.mono (by omega)⟩
  go_wp2_with fail
  refine (pick_b g (b + 1 + 1) k _ hr3 (by omega)).mono ?_
  rintro e w4 ⟨y, rfl, hy0, hy1, -, hg4, hr4⟩
  have hyk := hy1 (by omega)
  obtain ⟨yn, rfl⟩ := Int.eq_ofNat_of_zero_le hy0
  have O4 := only_trans O3 hg4
  have own4 := own3.only hg4 hlt
  clear hg4 hy1
  go_wp2_with fail
  refine (pick_b g (b + 1 + 1 + 1) 2 _ hr4 (by omega)).mono ?_
  rintro e w5 ⟨z, rfl, hz0, hz1, -, hg5, hr5⟩
  have O5 := only_trans O4 hg5
  have own5 := own4.only hg5 hlt
  clear hg5 hz1
  have hyn : yn < k := by omega
  by_cases hz : z = 0
  · subst hz
    have hyc : yn ≤ c := by omega
    go_wp2_with fail
    go_ret
    exact ⟨_, yn, c, zs.take yn, rfl, hyc, by omega, own_prefix own5 (by omega), O5, hr5.mono (by omega)⟩
  · have dz : (z == 0) = false := by simpa using hz
    go_wp2_with fail
    refine (pick_b g (b + 1 + 1 + 1 + 1) 7 _ hr5 (by omega)).mono ?_
    rintro e w6 ⟨u, rfl, hu0, hu1, -, hg6, hr6⟩
    have hu := hu1 (by omega)
    have O6 := only_trans O5 hg6
    have own6 := own5.only hg6 hlt
    clear hg6 hu1
    obtain ⟨hd1, hf1⟩ := own_cell own6 yn hyn
    obtain ⟨v, hv⟩ : ∃ v, zs.getD yn 0 = v := ⟨_, rfl⟩
    rw [hv] at hd1
    clear hv
    have hgab := (own6.row.lt ga rfl).1
    have hset := (own_only_set own6 yn (u - 1)).1
    go_wp2_with fail
    go_ret
    exact ⟨_, k, c, _, rfl, hkc, by omega, hset, only_set_new O6 hgab _, rd_far hr6 (by show g < ga; omega) _⟩

/-- drawn piles with drawn lots -/
def DrawnPL (w : World) (g b : Nat) (e : Ending) (w' : World) : Prop :=
  ∃ (g1 n c : Nat) (A : Option Addr) (m c' : Nat) (ps : List (ByteArray × Int)) (zs : List Int), e = .returned (.tuple #[.slice (some ⟨g1, 0, none⟩) n c, .slice A m c']) ∧ n ≤ c ∧ n ≤ 100 ∧ m ≤ c' ∧ m ≤ 10 ∧ (∀ p ∈ ps, p.1.size ≤ 1048576) ∧
    OwnP w' w.heap.size (.slice (some ⟨g1, 0, none⟩) n c) n ps ∧ Own w' w.heap.size (.slice A m c') m zs ∧ w.grownBy w' (some g) ∧ RdLe w' g b

/-- what a draw of piles and lots leaves -/
def DrawnContest (w : World) (e : Ending) (w' : World) : Prop :=
  ∃ (g1 n c : Nat) (A : Option Addr) (m c' : Nat) (ps : List (ByteArray × Int)) (zs : List Int), e = .returned (.tuple #[.slice (some ⟨g1, 0, none⟩) n c, .slice A m c']) ∧ n ≤ c ∧ n ≤ 100 ∧ m ≤ c' ∧ m ≤ 10 ∧
    Piles w' w'.heap.size (some ⟨g1, 0, none⟩) n ps ∧ Ints w' w'.heap.size A m zs ∧ Below w.heap.size w w'
end Go.Proofs.Ytiglkajafdecgaa
