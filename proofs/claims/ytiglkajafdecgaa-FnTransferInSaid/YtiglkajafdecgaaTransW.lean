/-
  The walk of the program's transfer: the weights after a seat.
-/
import Derived.Test.YtiglkajafdecgaaTransI
namespace Go.Proofs.Ytiglkajafdecgaa
set_option linter.unusedVariables false
open Go.RowKit
set_option linter.unusedSimpArgs false

theorem frs_times {d a n b : Int} (hd : 1 ≤ d) (hd' : d ≤ 60) (hn : 1 ≤ n) (hn' : n ≤ 3600) (ha : 0 ≤ a ∧ a ≤ d) (hb : 0 ≤ b ∧ b ≤ n) : Fp.tms (Bp.fr d a).1 (Bp.fr d a).2 (Bp.fr n b).1 (Bp.fr n b).2 = ((Bp.fr (d * n) (a * b)).1, (Bp.fr (d * n) (a * b)).2, true) := by
  have v1 := Bp.fr_vld (d := d) (n := a) hd (by omega) (by omega) (by omega)
  have v2 := Bp.fr_vld (d := n) (n := b) hn (by omega) (by omega) (by omega)
  have h0 : 0 ≤ a * b := Int.mul_nonneg ha.1 hb.1
  have h1 : a * b ≤ 60 * 3600 := Int.mul_le_mul (by omega) (by omega) hb.1 (by omega)
  have h2 : d * n ≤ 60 * 3600 := Int.mul_le_mul hd' hn' (by omega) (by omega)
  have h3 : 1 ≤ d * n := Fp.mul_pos _ _ hd hn
  have v3 := Bp.fr_vld (d := d * n) (n := a * b) h3 (by omega) (by omega) (by omega)
  have e := Bp.fr_times (d := d) (a := a) (n := n) (b := b) hd hn
  unfold Fp.tms Fp.redo
  rw [v1, v2, Bool.and_true, if_pos rfl]
  have e1 := congrArg Prod.fst e
  have e2 := congrArg Prod.snd e
  rw [show Fp.rn _ _ = _ from e1, show Fp.rd _ _ = _ from e2, v3, if_pos rfl]
/-- the weights while they turn: those of the first k piles have turned -/
def wmix (ps : List Bp.Pile) (u : List Int) (lf : List Bool) (who d N over : Int) (k : Nat) : List Bp.Fr := Bp.frs (d * N) (Bp.weighTo ps u lf who over N k) ++ (Bp.frs d u).drop k
section
variable {ps : List Bp.Pile} {u : List Int} {lf : List Bool} {who d N over : Int}
theorem wmix_zero : wmix ps u lf who d N over 0 = Bp.frs d u := by simp [wmix, Bp.weighTo, Bp.frs]
theorem wmix_all {n : Nat} (h : u.length = n) : wmix ps u lf who d N over n = Bp.frs (d * N) (Bp.weighTo ps u lf who over N n) := by
  unfold wmix
  rw [List.drop_of_length_le (by rw [Bp.frs_len, h]; exact Nat.le_refl _), List.append_nil]
theorem wmix_cons {k : Nat} (hk : k < u.length) : wmix ps u lf who d N over k = Bp.frs (d * N) (Bp.weighTo ps u lf who over N k) ++ Bp.fr d (u.getD k 0) :: (Bp.frs d u).drop (k + 1) := by
  unfold wmix
  have hk' : k < (Bp.frs d u).length := by rw [Bp.frs_len]; exact hk
  rw [List.drop_eq_getElem_cons hk']
  congr 2
  rw [← Bp.frs_at d u hk]
  simp [List.getD, hk']
theorem wmix_at {k : Nat} (hk : k < u.length) : (wmix ps u lf who d N over k).getD k default = Bp.fr d (u.getD k 0) := by
  rw [wmix_cons hk]
  have hl : (Bp.frs (d * N) (Bp.weighTo ps u lf who over N k)).length = k := by rw [Bp.frs_len, Bp.weighTo_len]
  simp [List.getD, hl]
theorem wmix_next {k : Nat} (hk : k < u.length) {x : Int} (hx : (if Bp.bfirst (Bp.bal (ps.getD k default).1) lf = who then u.getD k 0 * over else u.getD k 0 * N) = x) : wmix ps u lf who d N over (k + 1) = (wmix ps u lf who d N over k).set k (Bp.fr (d * N) x) := by
  have hl : (Bp.frs (d * N) (Bp.weighTo ps u lf who over N k)).length = k := by rw [Bp.frs_len, Bp.weighTo_len]
  rw [wmix_cons hk]
  unfold wmix
  rw [Bp.weighTo, hx]
  unfold Bp.frs at hl ⊢
  rw [List.map_append, List.set_append_right _ _ (by omega), hl, Nat.sub_self, List.set_cons_zero, List.append_assoc]
  rfl
theorem set_self {l : List Bp.Fr} {k : Nat} {x : Bp.Fr} (hk : k < l.length) (h : l.getD k default = x) : l.set k x = l := by
  have e : l.getD k default = l[k] := by simp [List.getD, hk]
  rw [← h, e, List.set_getElem_self]
theorem wmix_stay {k : Nat} (hk : k < u.length) (hd : 1 ≤ d) (hN : 1 ≤ N) (hw : Bp.bfirst (Bp.bal (ps.getD k default).1) lf ≠ who) : wmix ps u lf who d N over (k + 1) = wmix ps u lf who d N over k := by
  rw [wmix_next hk (x := u.getD k 0 * N) (if_neg hw), Bp.fr_more hd hN]
  refine set_self ?_ (wmix_at hk)
  rw [wmix_cons hk]
  simp [Bp.frs_len, Bp.weighTo_len]
end
set_option maxRecDepth 100000 in
set_option maxHeartbeats 8000000 in
theorem reweigh_any (T : Nat) (A : Option Addr) (n c m W L : Nat) (ps : List Bp.Pile) (d N q : Int) (u : List Int) (lf : List Bool) (who : Int) (B : Nat) (w : World)
    (hT0 : w.cell? ⟨T, 0, none⟩ = some (.slice A n c)) (hT2 : w.cell? ⟨T, 2, none⟩ = some (.slice (some ⟨W, 0, none⟩) n n)) (hT3 : w.cell? ⟨T, 3, none⟩ = some (.slice (some ⟨L, 0, none⟩) m m)) (hT6 : w.cell? ⟨T, 6, none⟩ = some (.int .i64 q))
    (hTW : T ≠ W) (hLW : L ≠ W) (hBW : B ≤ W)
    (h : Piles w B A n ps) (hnc : n ≤ c) (hW : OwnF w B (.slice (some ⟨W, 0, none⟩) n n) n (Bp.frs d u)) (hL : OwnB w B (.slice (some ⟨L, 0, none⟩) m m) m lf)
    (hfit : Bp.fits ps m = true) (hd : 1 ≤ d) (hd' : d ≤ 60) (hN : 1 ≤ N) (hN' : N ≤ 3600) (hq : 1 ≤ q) (hq' : q ≤ 61) (hqN : q * d ≤ N) (hu : ∀ k, 0 ≤ u.getD k 0 ∧ u.getD k 0 ≤ d) (hul : u.length = n) :
    Calls Try.prog 68 #[.pointer (some ⟨T, 0, none⟩), .int .i64 who, .agg #[.int .i64 (Bp.fr d N).1, .int .i64 (Bp.fr d N).2]] w fun e w' => e = .returned (.tuple #[]) ∧ OwnF w' B (.slice (some ⟨W, 0, none⟩) n n) n (Bp.frs (d * N) (Bp.weigh ps u lf who (N - q * d) N)) ∧ w.grownBy w' (some W) := by
  have hl := Lib.hid h.1.1
  have Hfit := Lib.hid hfit
  have hlen := Bp.fits_len hfit
  rw [hl.out] at hlen
  have tT := lt_of_cell hT0
  simp only at tT
  have tW := (hW.row.lt W rfl).2
  have tL : 0 < m → L < w.heap.size := fun _ => (hL.row.lt L rfl).2
  obtain ⟨p1, p2, hp⟩ : ∃ p1 p2, Bp.fr d N = (p1, p2) := ⟨_, _, rfl⟩
  have hbd := Bp.fr_bd (d := d) (n := N) hd (by omega)
  have hp1 := Bp.fr_num_pos (d := d) (n := N) hd hN
  have hfac := Bp.fr_factor (d := d) (n := N) (q := q) hd hN
  have hov := Bp.fr_over d N q
  rw [hp] at hbd hp1 hfac hov ⊢
  simp only at hbd hp1 hfac hov ⊢
  have hz0 : 0 ≤ q * p2 := Int.mul_nonneg (by omega) (by omega)
  have hz1 : q * p2 ≤ 61 * 60 := Int.mul_le_mul hq' (by omega) (by omega) (by omega)
  obtain ⟨z, hz⟩ : ∃ z, q * p2 = z := ⟨_, rfl⟩
  rw [hz] at hz0 hz1 hfac hov
  have hpz : 0 ≤ p1 - z := by
    rcases Int.lt_or_le (p1 - z) 0 with h1 | h1
    · have h2 : (p1 - z) * N < 0 := Int.mul_neg_of_neg_of_pos h1 (by omega)
      have h3 : 0 ≤ (N - q * d) * p1 := Int.mul_nonneg (by omega) (by omega)
      omega
    · exact h1
  have hofn : Fp.ofn (p1 - z) p1 = ((Bp.fr N (N - q * d)).1, (Bp.fr N (N - q * d)).2, true) := by
    have v := Bp.fr_vld (d := p1) (n := p1 - z) (by omega) (by omega) (by omega) (by omega)
    have hr : Fp.rng (p1 - z) p1 = true := (Fp.rng_iff _ _).2 (by omega)
    rw [← hfac]
    unfold Fp.ofn Fp.redo
    rw [hr, if_pos rfl]
    show (if Fp.vld (Bp.fr p1 (p1 - z)).1 (Bp.fr p1 (p1 - z)).2 = true then _ else _) = _
    rw [v, if_pos rfl]
    rfl
  have hqd0 : 0 ≤ q * d := Int.mul_nonneg (by omega) (by omega)
  have htms : ∀ a : Int, 0 ≤ a ∧ a ≤ d → Fp.tms (Bp.fr d a).1 (Bp.fr d a).2 (Bp.fr N (N - q * d)).1 (Bp.fr N (N - q * d)).2 = ((Bp.fr (d * N) (a * (N - q * d))).1, (Bp.fr (d * N) (a * (N - q * d))).2, true) := fun a ha => frs_times hd hd' hN hN' ha ⟨by omega, by omega⟩
  obtain ⟨f1, f2, hf12⟩ : ∃ f1 f2, Bp.fr N (N - q * d) = (f1, f2) := ⟨_, _, rfl⟩
  simp only [hf12] at hofn
  simp only [hf12] at htms
  obtain ⟨over, hover⟩ : ∃ over, N - q * d = over := ⟨_, rfl⟩
  rw [hover]
  simp only [hover] at htms
  have Hofn := Lib.hid hofn
  have Htms := Lib.hid htms
  have Hhu := Lib.hid hu
  have hwr : IntKind.i64.wrap (q * p2) = z := by rw [hz]; exact IntWalk.i64_in _ (by omega)
  have Hz := Lib.hid hz
  clear hofn htms hfac hov hqN hf12 hp hz hover hqd0 hu hfit
  have W0 : OwnF w B (.slice (some ⟨W, 0, none⟩) n n) n (wmix ps u lf who d N over 0) := by rw [wmix_zero]; exact hW
  clear hW
  have hwr2 : IntKind.i64.wrap (p1 - z) = p1 - z := IntWalk.i64_in _ (by omega)
  go_enter Try.func68, Try.ntmps68
  go_wp2_with fail
  obtain ⟨w1, hw1⟩ : ∃ w1, w.alloc (.cells #[.int .i64 p1, .int .i64 p2] 44) = w1 := ⟨_, rfl⟩
  have hb1 : Below w.heap.size w w1 := by rw [← hw1]; exact (Below.refl _ _).alloc (Nat.le_refl _) _
  have hz1' : w.heap.size < w1.heap.size := by rw [← hw1]; simp
  have b0 : w1.cell? ⟨w.heap.size, 0, none⟩ = some (.int .i64 p1) := by rw [← hw1]; simp [go_sem]
  have b1 : w1.cell? ⟨w.heap.size, 1, none⟩ = some (.int .i64 p2) := by rw [← hw1]; simp [go_sem]
  have bT6 : w1.cell? ⟨T, 6, none⟩ = some (.int .i64 q) := (hb1.cell (p := ⟨T, 6, none⟩) tT).trans hT6
  rw [hw1]
  have k1 : ¬ T = w1.heap.size := by omega
  have k2 : ¬ w1.heap.size = T := by omega
  have k3 : ¬ w.heap.size = w1.heap.size := by omega
  have k4 : ¬ w1.heap.size = w.heap.size := by omega
  go_region_held (fun w' => (w'.cell? ⟨w.heap.size, 0, none⟩ = some (.int .i64 p1) ∧ w'.cell? ⟨w.heap.size, 1, none⟩ = some (.int .i64 p2)) ∧ w'.cell? ⟨T, 6, none⟩ = some (.int .i64 q)) (go_keep)
    (first
      | (go_at_call 86; refine (iFracOf_any (p1 - z) p1 w1.drew).mono ?_; rintro e w2 ⟨rfl, hb2⟩; rw [Hofn.out]; have hb3 : Below w1.heap.size w1 w2 := (Below.refl _ _).drew.trans (hb2.mono (show w1.heap.size ≤ w1.heap.size from Nat.le_refl _)); have rT6 := (hb3.cell (p := ⟨T, 6, none⟩) (show T < w1.heap.size by omega)).trans bT6; have r0 := (hb3.cell (p := ⟨w.heap.size, 0, none⟩) (show w.heap.size < w1.heap.size by omega)).trans b0; have r1 := (hb3.cell (p := ⟨w.heap.size, 1, none⟩) (show w.heap.size < w1.heap.size by omega)).trans b1)
      | (go_at_call 86; refine (iFracOf_any (p1 - z) p1 (w1.alloc (.cells #[.int .i64 0, .int .i64 0] 44)).drew).mono ?_; rintro e w2 ⟨rfl, hb2⟩; rw [Hofn.out]; have hb3 : Below w1.heap.size w1 w2 := ((Below.refl _ _).alloc (Nat.le_refl _) _).drew.trans (hb2.mono (by simp)); have hz3 : w1.heap.size + 1 ≤ w2.heap.size := (by have h8 := hb2.size; simpa using h8); have n0 := (hb2.cell (p := ⟨w1.heap.size, 0, none⟩) (by simp)).trans (show World.cell? _ _ = some (.int .i64 0) by simp [go_sem]); have n1 := (hb2.cell (p := ⟨w1.heap.size, 1, none⟩) (by simp)).trans (show World.cell? _ _ = some (.int .i64 0) by simp [go_sem]); have n2 := (hb2.frozen (p := ⟨w1.heap.size, 0, none⟩) (by simp)).trans (show World.frozen? _ _ = false by simp [go_sem]); have n3 := (hb2.frozen (p := ⟨w1.heap.size, 1, none⟩) (by simp)).trans (show World.frozen? _ _ = false by simp [go_sem]); have rT6 := (hb3.cell (p := ⟨T, 6, none⟩) (show T < w1.heap.size by omega)).trans bT6; have r0 := (hb3.cell (p := ⟨w.heap.size, 0, none⟩) (show w.heap.size < w1.heap.size by omega)).trans b0; have r1 := (hb3.cell (p := ⟨w.heap.size, 1, none⟩) (show w.heap.size < w1.heap.size by omega)).trans b1))
  all_goals first
    | (obtain ⟨F, hF⟩ : ∃ F, F = w2.heap.size := ⟨_, rfl⟩
       obtain ⟨w3, hw3⟩ : ∃ w3, w2.alloc (.cells #[.int .i64 f1, .int .i64 f2] 44) = w3 := ⟨_, rfl⟩
       rw [hw3, ← hF]
       have s0 : w3.cell? ⟨F, 0, none⟩ = some (.int .i64 f1) := by rw [← hw3, hF]; simp [go_sem]
       have s1 : w3.cell? ⟨F, 1, none⟩ = some (.int .i64 f2) := by rw [← hw3, hF]; simp [go_sem]
       have hb5 : Below w1.heap.size w1 w3 := by rw [← hw3]; exact hb3.alloc hb3.size _
       have hFz : w1.heap.size ≤ F := by rw [hF]; exact hb3.size
       have hFl : F < w3.heap.size := by rw [hF, ← hw3]; simp)
    | (obtain ⟨F, hF⟩ : ∃ F, F = w1.heap.size := ⟨_, rfl⟩
       obtain ⟨w3, hw3⟩ : ∃ w3, (w2.setCell ⟨w1.heap.size, 0, none⟩ (.int .i64 f1)).setCell ⟨w1.heap.size, 1, none⟩ (.int .i64 f2) = w3 := ⟨_, rfl⟩
       rw [hw3, ← hF]
       have s0 : w3.cell? ⟨F, 0, none⟩ = some (.int .i64 f1) := by rw [← hw3, hF]; simp [go_sem, n0]
       have s1 : w3.cell? ⟨F, 1, none⟩ = some (.int .i64 f2) := by rw [← hw3, hF]; simp [go_sem, n1]
       have hb5 : Below w1.heap.size w1 w3 := by rw [← hw3]; exact (hb3.setCell (Nat.le_refl _) _).setCell (Nat.le_refl _) _
       have hFz : w1.heap.size ≤ F := by omega
       have hFl : F < w3.heap.size := by rw [hF, ← hw3]; simp; omega)
  all_goals
    have hB3 : Below w.heap.size w w3 := hb1.trans (hb5.mono (by omega))
    have hs3 := hB3.size
    have W3 : OwnF w3 B (.slice (some ⟨W, 0, none⟩) n n) n (wmix ps u lf who d N over 0) := W0.keep hB3
    have L3 : OwnB w3 B (.slice (some ⟨L, 0, none⟩) m m) m lf := hL.keep hB3
    have cT0 := (hB3.cell (p := ⟨T, 0, none⟩) tT).trans hT0
    have cT2 := (hB3.cell (p := ⟨T, 2, none⟩) tT).trans hT2
    have cT3 := (hB3.cell (p := ⟨T, 3, none⟩) tT).trans hT3
    have hP3 : Piles w3 B A n ps := h.below (hB3.mono (by omega))
    have hG3 : w.grownBy w3 (some W) := only_of_below hB3 _
    have hFW : F ≠ W := by omega
    clear hw3 hF hb2 hb3 rT6 r0 r1 hb5 b0 b1 bT6 k1 k2 k3 k4 hw1 hb1 W0 hL hT0 hT2 hT3 hT6 hB3 h
    go_wp2_with fail
    go_loopw [31] (fun i wr => ∃ k : Nat, k ≤ n ∧ i = .int .i64 k ∧ OwnF wr B (.slice (some ⟨W, 0, none⟩) n n) n (wmix ps u lf who d N over k) ∧ w3.grownBy wr (some W)) (fun i _ => n - (intOf i).toNat)
    case atStart => exact ⟨0, Nat.zero_le _, rfl, W3, World.grownBy.refl _ _⟩
    case round =>
      obtain ⟨k, hk, rfl, hown, hg⟩ := hrel
      have hsz := hg.size
      by_cases hlt : k < n
      · have hbg : Below B w3 wr := below_only hg hBW (by omega)
        have hr := (hP3.below hbg)
        obtain ⟨gp, o, s, v, rfl, hgl, hc1, hc2, hss, hp⟩ := hr.at hlt
        have hkl : k < ps.length := by rw [hl.out]; exact hlt
        have hbv := Bp.fits_at Hfit.out k hkl
        rw [hp.out] at hbv
        have hku : k < u.length := by rw [hul]; exact hlt
        have hBl : B ≤ wr.heap.size := by omega
        obtain ⟨X, hX⟩ : ∃ X, Bp.bfirst (Bp.bal s) lf = X := ⟨_, rfl⟩
        have hX' : Bp.bfirst (Bp.bal (ps.getD k default).1) lf = X := by rw [hp.out]; exact hX
        have Hku := Lib.hid hku
        have HX := Lib.hid hX
        have HX' := Lib.hid hX'
        have Hbv := Lib.hid hbv
        clear hkl hX hX' hbv hku
        have gT0 := hg.cell cT0 (by intro e; exact hTW (Option.some.inj e))
        have gT2 := hg.cell cT2 (by intro e; exact hTW (Option.some.inj e))
        have gT3 := hg.cell cT3 (by intro e; exact hTW (Option.some.inj e))
        have gF0 := hg.cell s0 (by intro e; exact hFW (Option.some.inj e))
        have gF1 := hg.cell s1 (by intro e; exact hFW (Option.some.inj e))
        have gL : OwnB wr B (.slice (some ⟨L, 0, none⟩) m m) m lf := L3.row.kept hg (.inr (by intro e; exact hLW (Option.some.inj e)))
        clear W3 L3 hP3 cT0 cT2 cT3 s0 s1 hr
        go_wp2_with fail
        obtain ⟨wp, hwp⟩ : ∃ wp, wr.alloc (.cells #[.string s, .int .i64 v] 57) = wp := ⟨_, rfl⟩
        have hpb : Below wr.heap.size wr wp := by rw [← hwp]; exact (Below.refl _ _).alloc (Nat.le_refl _) _
        have hpz : wr.heap.size < wp.heap.size := by rw [← hwp]; simp
        have p0 : wp.drew.cell? ⟨wr.heap.size, 0, none⟩ = some (.string s) := by rw [← hwp]; simp [go_sem]
        have p1 : wp.drew.cell? ⟨wr.heap.size, 1, none⟩ = some (.int .i64 v) := by rw [← hwp]; simp [go_sem]
        have pT3 : wp.drew.cell? ⟨T, 3, none⟩ = some (.slice (some ⟨L, 0, none⟩) m m) := (hpb.cell (p := ⟨T, 3, none⟩) (show T < wr.heap.size by omega)).trans gT3
        have pT2 : wp.drew.cell? ⟨T, 2, none⟩ = some (.slice (some ⟨W, 0, none⟩) n n) := (hpb.cell (p := ⟨T, 2, none⟩) (show T < wr.heap.size by omega)).trans gT2
        have pF0 : wp.drew.cell? ⟨F, 0, none⟩ = some (.int .i64 f1) := (hpb.cell (p := ⟨F, 0, none⟩) (show F < wr.heap.size by omega)).trans gF0
        have pF1 : wp.drew.cell? ⟨F, 1, none⟩ = some (.int .i64 f2) := (hpb.cell (p := ⟨F, 1, none⟩) (show F < wr.heap.size by omega)).trans gF1
        have pown : OwnF wp.drew B (.slice (some ⟨W, 0, none⟩) n n) n (wmix ps u lf who d N over k) := hown.keep hpb.drew
        have pL : OwnB wp.drew B (.slice (some ⟨L, 0, none⟩) m m) m lf := gL.keep hpb.drew
        have pg : w3.grownBy wp.drew (some W) := only_keep hg hpb.drew
        rw [hwp]
        clear hwp hown gT0 gT2 gT3 gF0 gF1 gL hg hbg hc1 hc2 hpb
        go_region_held (fun w' => (w'.cell? ⟨wr.heap.size, 0, none⟩ = some (.string s) ∧ w'.cell? ⟨wr.heap.size, 1, none⟩ = some (.int .i64 v)) ∧ w'.cell? ⟨T, 3, none⟩ = some (.slice (some ⟨L, 0, none⟩) m m)) (go_keep)
          (first
            | (go_at_call 65; refine (ballot_any s v _ hss).mono ?_; rintro e w4 ⟨A2, n2, c2, rfl, hnc2, hown2, hb4⟩; have q0 := (hb4.cell (p := ⟨wr.heap.size, 0, none⟩) (show wr.heap.size < wp.heap.size by omega)).trans p0; have q1 := (hb4.cell (p := ⟨wr.heap.size, 1, none⟩) (show wr.heap.size < wp.heap.size by omega)).trans p1; have qT3 := (hb4.cell (p := ⟨T, 3, none⟩) (show T < wp.heap.size by omega)).trans pT3; have hn5 : n2 ≤ 5 := by { have h3 := Bp.bal_len s; have h4 := hown2.len; omega })
            | (go_at_call 84; refine (iBallotFirst_any A2 (some ⟨L, 0, none⟩) n2 c2 m m (Bp.bal s) lf _ _ w4 hown2.ints (pL.keep hb4).bools (by omega) hnc2 Hbv.out).mono ?_; rw [HX.out]; rintro e w' ⟨rfl, rfl⟩))
        have own4 : OwnF w4 B (.slice (some ⟨W, 0, none⟩) n n) n (wmix ps u lf who d N over k) := pown.keep hb4
        have qT2 := (hb4.cell (p := ⟨T, 2, none⟩) (show T < wp.heap.size by omega)).trans pT2
        have qF0 := (hb4.cell (p := ⟨F, 0, none⟩) (show F < wp.heap.size by omega)).trans pF0
        have qF1 := (hb4.cell (p := ⟨F, 1, none⟩) (show F < wp.heap.size by omega)).trans pF1
        have hg4 : w3.grownBy w4 (some W) := only_keep pg hb4
        have hs4 : wp.heap.size ≤ w4.heap.size := hb4.size
        clear pown pT2 pT3 p0 p1 pF0 pF1 hown2 hb4 pL pg q0 q1 qT3
        by_cases hXw : X = who
        · have d0 : (X == who) = true := by rw [beq_iff_eq]; exact hXw
          have huk := Hhu.out k
          have htm := Htms.out (u.getD k 0) huk
          have hnx := wmix_next (ps := ps) (u := u) (lf := lf) (who := who) (d := d) (N := N) (over := over) Hku.out (if_pos (HX'.out.trans hXw))
          have hat := wmix_at (ps := ps) (u := u) (lf := lf) (who := who) (d := d) (N := N) (over := over) Hku.out
          obtain ⟨a, b, hab⟩ : ∃ a b, Bp.fr d (u.getD k 0) = (a, b) := ⟨_, _, rfl⟩
          obtain ⟨y1, y2, hy⟩ : ∃ y1 y2, Bp.fr (d * N) (u.getD k 0 * over) = (y1, y2) := ⟨_, _, rfl⟩
          simp only [hab, hy] at htm
          rw [hy] at hnx
          rw [hab] at hat
          have Htm := Lib.hid htm
          have Hnx := Lib.hid hnx
          obtain ⟨⟨o0, o1⟩, g0, g1⟩ := ownF_cell own4 k hlt
          rw [hat] at o0 o1
          dsimp only at o0 o1
          have hWl : W < w4.heap.size := by omega
          clear htm hnx hat hab hy hXw huk
          have j1 : (0 : Int) ≤ (k : Int) := by omega
          have j2 : (k : Int) < (n : Int) := by omega
          go_wp2_with fail
          have k1 : ¬ T = W := hTW
          have k2 : ¬ F = W := hFW
          have k3 : ¬ W = T := fun e => hTW e.symm
          have k4 : ¬ W = F := fun e => hFW e.symm
          refine wp_region_held_drew (S := fun w' => w'.cell? ⟨T, 2, none⟩ = some (.slice (some ⟨W, 0, none⟩) n n) ∧ (w'.cell? ⟨F, 0, none⟩ = some (.int .i64 f1) ∧ w'.cell? ⟨F, 1, none⟩ = some (.int .i64 f2))) (by kernel_rfl) ?_ (fun hHeld => ?_)
          · go_keep
          (refine wpAnyH_take (i := 0) (v := ?_) rfl (by kernel_rfl) (by kernel_rfl) (by kernel_rfl) (fun _ _ _ h => h) (Or.inl ⟨by rfl, ?_⟩) (by assumption) ?_); rotate_left 1; (focus ((intro wz hSz; (try dsimp only at hSz); go_simp; try (with_reducible rfl)); done)); (try simp only [Act.put, List.getElem_toArray, List.getElem_cons_zero, List.getElem_cons_succ, List.setIfInBounds_toArray, List.set_cons_zero, List.set_cons_succ])
          (refine wpAnyH_take (i := 1) (v := ?_) rfl (by kernel_rfl) (by kernel_rfl) (by kernel_rfl) (fun _ _ _ h => h) (Or.inl ⟨by rfl, ?_⟩) (by assumption) ?_); rotate_left 1; (focus ((intro wz hSz; (try dsimp only at hSz); go_simp; try (with_reducible rfl)); done)); (try simp only [Act.put, List.getElem_toArray, List.getElem_cons_zero, List.getElem_cons_succ, List.setIfInBounds_toArray, List.set_cons_zero, List.set_cons_succ])
          (refine wpAnyH_take (i := 2) (v := ?_) rfl (by kernel_rfl) (by kernel_rfl) (by kernel_rfl) (fun _ _ _ h => h) (Or.inl ⟨by rfl, ?_⟩) (by assumption) ?_); rotate_left 1; (focus ((intro wz hSz; (try dsimp only at hSz); go_simp; try (with_reducible rfl)); done)); (try simp only [Act.put, List.getElem_toArray, List.getElem_cons_zero, List.getElem_cons_succ, List.setIfInBounds_toArray, List.set_cons_zero, List.set_cons_succ])
          (refine wpAnyH_take (i := 3) (v := ?_) rfl (by kernel_rfl) (by kernel_rfl) (by kernel_rfl) (fun _ _ _ h => h) (Or.inl ⟨by rfl, ?_⟩) (by assumption) ?_); rotate_left 1; (focus ((intro wz hSz; (try dsimp only at hSz); go_simp; try (with_reducible rfl)); done)); (try simp only [Act.put, List.getElem_toArray, List.getElem_cons_zero, List.getElem_cons_succ, List.setIfInBounds_toArray, List.set_cons_zero, List.set_cons_succ])
          (refine wpAnyH_take (i := 4) (v := ?_) rfl (by kernel_rfl) (by kernel_rfl) (by kernel_rfl) (fun _ _ _ h => h) (Or.inl ⟨by rfl, ?_⟩) (by assumption) ?_); rotate_left 1; (focus ((intro wz hSz; (try dsimp only at hSz); go_simp; try (with_reducible rfl)); done)); (try simp only [Act.put, List.getElem_toArray, List.getElem_cons_zero, List.getElem_cons_succ, List.setIfInBounds_toArray, List.set_cons_zero, List.set_cons_succ])
          (refine wpAnyH_take (i := 5) (v := ?_) rfl (by kernel_rfl) (by kernel_rfl) (by kernel_rfl) (fun _ _ _ h => h) (Or.inl ⟨by rfl, ?_⟩) (by assumption) ?_); rotate_left 1; (focus ((intro wz hSz; (try dsimp only at hSz); go_simp; try (with_reducible rfl)); done)); (try simp only [Act.put, List.getElem_toArray, List.getElem_cons_zero, List.getElem_cons_succ, List.setIfInBounds_toArray, List.set_cons_zero, List.set_cons_succ])
          (refine wpAnyH_take (i := 6) (v := ?_) rfl (by kernel_rfl) (by kernel_rfl) (by kernel_rfl) (fun _ _ _ h => h) (Or.inl ⟨by rfl, ?_⟩) (by assumption) ?_); rotate_left 1; (focus ((intro wz hSz; (try dsimp only at hSz); go_simp; try (with_reducible rfl)); done)); (try simp only [Act.put, List.getElem_toArray, List.getElem_cons_zero, List.getElem_cons_succ, List.setIfInBounds_toArray, List.set_cons_zero, List.set_cons_succ])
          (refine wpAnyH_take (i := 7) (v := ?_) rfl (by kernel_rfl) (by kernel_rfl) (by kernel_rfl) (fun _ _ _ h => h) (Or.inl ⟨by rfl, ?_⟩) (by assumption) ?_); rotate_left 1; (focus ((intro wz hSz; (try dsimp only at hSz); go_simp; try (with_reducible rfl)); done)); (try simp only [Act.put, List.getElem_toArray, List.getElem_cons_zero, List.getElem_cons_succ, List.setIfInBounds_toArray, List.set_cons_zero, List.set_cons_succ])
          (refine wpAnyH_take (i := 8) (v := ?_) rfl (by kernel_rfl) (by kernel_rfl) (by kernel_rfl) (fun _ _ _ h => h) (Or.inl ⟨by rfl, ?_⟩) (by assumption) ?_); rotate_left 1; (focus ((intro wz hSz; (try dsimp only at hSz); go_simp; try (with_reducible rfl)); done)); (try simp only [Act.put, List.getElem_toArray, List.getElem_cons_zero, List.getElem_cons_succ, List.setIfInBounds_toArray, List.set_cons_zero, List.set_cons_succ])
          (refine wpAnyH_take (i := 9) (v := ?_) rfl (by kernel_rfl) (by kernel_rfl) (by kernel_rfl) (fun _ _ _ h => h) (Or.inl ⟨by rfl, ?_⟩) (by assumption) ?_); rotate_left 1; (focus ((intro wz hSz; (try dsimp only at hSz); go_simp; try (with_reducible rfl)); done)); (try simp only [Act.put, List.getElem_toArray, List.getElem_cons_zero, List.getElem_cons_succ, List.setIfInBounds_toArray, List.set_cons_zero, List.set_cons_succ])
          (refine wpAnyH_take (i := 10) (v := ?_) rfl (by kernel_rfl) (by kernel_rfl) (by kernel_rfl) (fun _ _ _ h => h) (Or.inl ⟨by rfl, ?_⟩) (by assumption) ?_); rotate_left 1; (focus ((intro wz hSz; (try dsimp only at hSz); go_simp; try (with_reducible rfl)); done)); (try simp only [Act.put, List.getElem_toArray, List.getElem_cons_zero, List.getElem_cons_succ, List.setIfInBounds_toArray, List.set_cons_zero, List.set_cons_succ])
          (refine wpAnyH_take (i := 12) (v := ?_) rfl (by kernel_rfl) (by kernel_rfl) (by kernel_rfl) (fun _ _ _ h => h) (Or.inl ⟨by rfl, ?_⟩) (by assumption) ?_); rotate_left 1; (focus ((intro wz hSz; (try dsimp only at hSz); go_simp; try (with_reducible rfl)); done)); (try simp only [Act.put, List.getElem_toArray, List.getElem_cons_zero, List.getElem_cons_succ, List.setIfInBounds_toArray, List.set_cons_zero, List.set_cons_succ])
          (refine wpAnyH_ready (rs := [11]) (by kernel_rfl) (by simp) ?_); (refine AllReadyH.cons rfl (fun K hK => ?_) AllReadyH.nil); go_simp; (refine hK.out _ _ ?_ (fun hHeld11 => ?_)); (focus ((try dsimp only); go_keep)); clear hK K
          (refine wpAnyH_ready (rs := [13]) (by kernel_rfl) (by simp) ?_); (refine AllReadyH.cons rfl (fun K hK => ?_) AllReadyH.nil); go_simp; (go_wp2_with (go_at_call 85; refine (iFracTimes_any a b f1 f2 w4.drew).mono ?_; rintro e w5 ⟨rfl, hb6⟩; rw [Htm.out]; have s2 := (hb6.cell (p := ⟨T, 2, none⟩) (show T < w4.heap.size by omega)).trans qT2; have t0 := (hb6.cell (p := ⟨F, 0, none⟩) (show F < w4.heap.size by omega)).trans qF0; have t1 := (hb6.cell (p := ⟨F, 1, none⟩) (show F < w4.heap.size by omega)).trans qF1; have s4 := (hb6.cell (p := ⟨W, k * 2, none⟩) hWl).trans o0; have s5 := (hb6.cell (p := ⟨W, k * 2 + 1, none⟩) hWl).trans o1; have s6 := (hb6.frozen (p := ⟨W, k * 2, none⟩) hWl).trans g0; have s7 := (hb6.frozen (p := ⟨W, k * 2 + 1, none⟩) hWl).trans g1)); (refine hK.out _ _ ?_ (fun hHeld13 => ?_)); (focus ((try dsimp only); go_keep)); clear hK K
          (refine wpAnyH_take (i := 14) (v := ?_) rfl (by kernel_rfl) (by kernel_rfl) (by kernel_rfl) (fun _ _ _ h => h) (Or.inl ⟨by rfl, ?_⟩) (by assumption) ?_); rotate_left 1; (focus ((intro wz hSz; (try dsimp only at hSz); go_simp; try (with_reducible rfl)); done)); (try simp only [Act.put, List.getElem_toArray, List.getElem_cons_zero, List.getElem_cons_succ, List.setIfInBounds_toArray, List.set_cons_zero, List.set_cons_succ])
          (refine wpAnyH_take (i := 15) (v := ?_) rfl (by kernel_rfl) (by kernel_rfl) (by kernel_rfl) (fun _ _ _ h => h) (Or.inl ⟨by rfl, ?_⟩) (by assumption) ?_); rotate_left 1; (focus ((intro wz hSz; (try dsimp only at hSz); go_simp; try (with_reducible rfl)); done)); (try simp only [Act.put, List.getElem_toArray, List.getElem_cons_zero, List.getElem_cons_succ, List.setIfInBounds_toArray, List.set_cons_zero, List.set_cons_succ])
          (refine wpAnyH_take (i := 16) (v := ?_) rfl (by kernel_rfl) (by kernel_rfl) (by kernel_rfl) (fun _ _ _ h => h) (Or.inl ⟨by rfl, ?_⟩) (by assumption) ?_); rotate_left 1; (focus ((intro wz hSz; (try dsimp only at hSz); go_simp; try (with_reducible rfl)); done)); (try simp only [Act.put, List.getElem_toArray, List.getElem_cons_zero, List.getElem_cons_succ, List.setIfInBounds_toArray, List.set_cons_zero, List.set_cons_succ])
          (refine wpAnyH_take (i := 17) (v := ?_) rfl (by kernel_rfl) (by kernel_rfl) (by kernel_rfl) (fun _ _ _ h => h) (Or.inl ⟨by rfl, ?_⟩) (by assumption) ?_); rotate_left 1; (focus ((intro wz hSz; (try dsimp only at hSz); go_simp; try (with_reducible rfl)); done)); (try simp only [Act.put, List.getElem_toArray, List.getElem_cons_zero, List.getElem_cons_succ, List.setIfInBounds_toArray, List.set_cons_zero, List.set_cons_succ])
          (refine wpAnyH_ready (rs := [18]) (by kernel_rfl) (by simp) ?_); (refine AllReadyH.cons rfl (fun K hK => ?_) AllReadyH.nil); go_simp; (refine hK.out _ _ ?_ (fun hHeld18 => ?_)); (focus ((try dsimp only); go_keep)); clear hK K
          (refine wpAnyH_done (by kernel_rfl) ?_ _)
          have hb7 : Below w4.heap.size w4 w5 := (Below.refl _ _).drew.trans (hb6.mono (show w4.heap.size ≤ w4.heap.size from Nat.le_refl _))
          have own6 : OwnF w5 B (.slice (some ⟨W, 0, none⟩) n n) n (wmix ps u lf who d N over k) := own4.keep hb7
          obtain ⟨own7, hgr⟩ := ownF_set own6 k hlt y1 y2
          rw [← Hnx.out] at own7
          have hg7 : w3.grownBy ((w5.setCell ⟨W, k * 2, none⟩ (.int .i64 y1)).setCell ⟨W, k * 2 + 1, none⟩ (.int .i64 y2)) (some W) := only_trans (only_keep hg4 hb7) hgr
          clear own4 own6 hb6 hb7 hgr s2 s4 s5 s6 s7 t0 t1 o0 o1 g0 g1 hHeld hHeld11 hHeld13 hHeld18
          go_wp2_with fail
          go_roundw
          case rel => exact ⟨k + 1, by omega, by go_num, own7, hg7⟩
          case measure => simp [intOf]; omega
        · have d0 : (X == who) = false := by rw [beq_eq_false_iff_ne]; exact hXw
          have hnext : Hid (OwnF w4 B (.slice (some ⟨W, 0, none⟩) n n) n (wmix ps u lf who d N over (k + 1))) := by
            rw [wmix_stay Hku.out hd hN (fun e => hXw (HX'.out.symm.trans e))]
            exact own4
          clear own4 hXw
          go_wp2_with fail
          go_roundw
          case rel => exact ⟨k + 1, by omega, by go_num, hnext.out, hg4⟩
          case measure => simp [intOf]; omega
      · have hkn : k = n := by omega
        have Hkn := Lib.hid hkn
        clear hkn
        go_wp2_with fail
        go_end0
        refine ⟨rfl, ?_, only_trans hG3 hg⟩
        have := hown
        rw [Hkn.out, wmix_all hul] at this
        unfold Bp.weigh
        rw [hl.out]
        exact this
end Go.Proofs.Ytiglkajafdecgaa
