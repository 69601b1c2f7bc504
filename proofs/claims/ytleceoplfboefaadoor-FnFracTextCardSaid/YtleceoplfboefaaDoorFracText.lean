/-
  The walks of FracText: of the program, by the library's Itoa, and of the reference, by its own decimals.
-/
import Derived.Test.YtleceoplfboefaaDoorFracWalks
import Derived.Test.YtleceoplfboefaaDoorItoa
import Derived.Lib.ItoaLen
import Derived.Lib.AppendIntMem
namespace Go.Proofs.YtleceoplfboefaaDoor
set_option linter.unusedVariables false
open Go.RowKit

namespace Fp
/-- a text of bytes -/
def bs (l : List UInt8) : ByteArray := ⟨l.toArray⟩
theorem bs_append (a b : List UInt8) : bs a ++ bs b = bs (a ++ b) := by
  apply ByteArray.ext
  simp [bs]
def dec (u : Nat) : List UInt8 := Lib.decDigits u
theorem dec_small {u : Nat} (h : u < 10) : dec u = [UInt8.ofNat (48 + u)] := by unfold dec; rw [Lib.decDigits, dif_pos h]
theorem dec_more {u : Nat} (h : ¬ u < 10) : dec u = dec (u / 10) ++ [UInt8.ofNat (48 + u % 10)] := by unfold dec; rw [Lib.decDigits, dif_neg h]
/-- the text of a fraction -/
def ftext (n d : Int) : List UInt8 := if vld n d then Lib.itoa n ++ (if 1 < d then 47 :: dec d.toNat else []) else []
theorem ftext_no {n d : Int} (h : vld n d = false) : ftext n d = [] := by simp [ftext, h]
theorem ftext_one {n d : Int} (h : vld n d = true) (hd : ¬ 1 < d) : ftext n d = Lib.itoa n := by simp [ftext, h, hd]
theorem ftext_two {n d : Int} (h : vld n d = true) (hd : 1 < d) : ftext n d = Lib.itoa n ++ 47 :: dec d.toNat := by simp [ftext, h, hd]
theorem bs_size (l : List UInt8) : (bs l).size = l.length := rfl
theorem dec_len {u : Nat} (h : u ≤ 9223372036854775807) : (dec u).length ≤ 21 := by
  have := Lib.itoa_length_le (u : Int) (by omega) (by omega)
  rw [Lib.itoa_nonneg] at this
  exact this
theorem itoa_pos {n : Int} (h : ¬ n < 0) : Lib.itoa n = dec n.toNat := by unfold Lib.itoa dec; rw [if_neg h]
theorem itoa_less {n : Int} (h : n < 0) : Lib.itoa n = 45 :: dec n.natAbs := by unfold Lib.itoa dec; rw [if_pos h]
end Fp
theorem digit_conv (u : Nat) (h : u < 10) : ∀ (W : World) (g : Nat), W.cell? ⟨g, 0, none⟩ = some (.int .u8 (48 + (u : Int))) → (convert 28 9 (.slice (some ⟨g, 0, none⟩) 1 1)).run Tryd.prog W = .ok (.string (Fp.bs [UInt8.ofNat (48 + u)])) W := fun W g hc => by
  have hb : ((UInt8.ofNat (48 + u)).toNat : Int) = 48 + (u : Int) := by
    rw [UInt8.toNat_ofNat']
    omega
  exact run_convert_bytes_back (P := Tryd.prog) W 28 9 5 ⟨g, 0, none⟩ 1 [UInt8.ofNat (48 + u)] Tryd.underlying28 Tryd.underlying5 Tryd.underlying9 (by
    intro j hj
    have : j = 0 := by simp at hj; omega
    subst this
    rw [add_zero_off, hc, ← hb]
    rfl)
set_option maxRecDepth 100000 in
set_option maxHeartbeats 400000 in
theorem l6Dec_small (u : Nat) (h : u < 10) (w : World) :
    Calls Tryd.prog 11 #[.int .i64 (u : Int)] w fun e w' => e = .returned (.string (Fp.bs (Fp.dec u))) ∧ Below w.heap.size w w' := by
  rw [Fp.dec_small h]
  have hcv := digit_conv u h
  obtain ⟨tb, htb⟩ : ∃ tb, Fp.bs [UInt8.ofNat (48 + u)] = tb := ⟨_, rfl⟩
  rw [htb] at hcv ⊢
  have u0 : (0 : Int) ≤ (u : Int) := by omega
  have u9 : (u : Int) < 10 := by omega
  clear htb
  go_enter Tryd.func11, Tryd.ntmps11
  go_wp2_with fail
  go_ret
  exact ⟨rfl, (Below.refl _ _).alloc (Nat.le_refl _) _⟩
set_option maxRecDepth 100000 in
set_option maxHeartbeats 400000 in
theorem l6Dec_more (u : Nat) (h : ¬ u < 10) (hu : u ≤ 1000000000) (ih : ∀ w : World, Calls Tryd.prog 11 #[.int .i64 ((u / 10 : Nat) : Int)] w fun e w' => e = .returned (.string (Fp.bs (Fp.dec (u / 10)))) ∧ Below w.heap.size w w') (w : World) :
    Calls Tryd.prog 11 #[.int .i64 (u : Int)] w fun e w' => e = .returned (.string (Fp.bs (Fp.dec u))) ∧ Below w.heap.size w w' := by
  rw [Fp.dec_more h]
  obtain ⟨q, hq⟩ : ∃ q, u / 10 = q := ⟨_, rfl⟩
  obtain ⟨r, hr⟩ : ∃ r, u % 10 = r := ⟨_, rfl⟩
  rw [hq] at ih ⊢
  rw [hr]
  have r9 : r < 10 := by omega
  have hcv := digit_conv r r9
  have happ := Fp.bs_append (Fp.dec q) [UInt8.ofNat (48 + r)]
  obtain ⟨td, htd⟩ : ∃ tb, Fp.bs (Fp.dec q ++ [UInt8.ofNat (48 + r)]) = tb := ⟨_, rfl⟩
  obtain ⟨ta, hta⟩ : ∃ tb, Fp.bs (Fp.dec q) = tb := ⟨_, rfl⟩
  obtain ⟨tb, htb⟩ : ∃ tb, Fp.bs [UInt8.ofNat (48 + r)] = tb := ⟨_, rfl⟩
  rw [htb] at hcv
  rw [htd, hta, htb] at happ
  rw [htd]
  rw [hta] at ih
  have e1 : (u : Int) / 10 = (q : Int) := by omega
  have e2 : (u : Int) % 10 = (r : Int) := by omega
  have s1 : ta.size ≤ 21 := by rw [← hta, Fp.bs_size]; exact Fp.dec_len (by omega)
  have s2 : tb.size ≤ 1 := by rw [← htb, Fp.bs_size]; exact Nat.le_refl _
  have Ih := Lib.hid ih
  have Happ := Lib.hid happ
  have e3 : IntKind.i64.wrap (q : Int) = (q : Int) := IntWalk.i64_in _ (by omega)
  have e4 : (u : Int).tmod 10 = (r : Int) := by rw [Int.tmod_eq_emod_of_nonneg (by omega)]; exact e2
  have e5 : IntKind.i64.wrap (48 + (r : Int)) = 48 + (r : Int) := IntWalk.i64_in _ (by omega)
  have e6 : IntKind.u8.wrap (48 + (r : Int)) = 48 + (r : Int) := IntWalk.u8_in _ (by omega)
  have u0 : (0 : Int) ≤ (u : Int) := by omega
  have u9 : (10 : Int) ≤ (u : Int) := by omega
  have u8 : ¬ ((u : Int) < 10) := by omega
  clear htd hta htb hq hr happ ih h
  go_enter Tryd.func11, Tryd.ntmps11
  go_wp2_with fail
  go_region_with (go_at_call 11; (with_reducible refine (Ih.out _).mono ?_); rintro e w' ⟨rfl, hb⟩; obtain ⟨hc, hf⟩ := bcell hb; have hs := hb.size; simp at hs)
  all_goals
    go_wp2_with fail
    go_ret
    exact ⟨(by rw [Happ.out]; rfl), by first
      | exact ((Below.refl _ w).drew.trans (hb.mono (by simp))).alloc (by omega) _
      | exact ((Below.refl _ w).drew.alloc (by simp) _).trans (hb.mono (by simp))⟩
theorem l6Dec_any : ∀ (u : Nat), u ≤ 1000000000 → ∀ w : World, Calls Tryd.prog 11 #[.int .i64 (u : Int)] w fun e w' => e = .returned (.string (Fp.bs (Fp.dec u))) ∧ Below w.heap.size w w' := by
  intro u
  induction u using Nat.strongRecOn with
  | _ u ih =>
    intro hu w
    by_cases h : u < 10
    · exact l6Dec_small u h w
    · exact l6Dec_more u h hu (fun w => ih (u / 10) (by omega) (by omega) w) w
set_option maxRecDepth 100000 in
set_option maxHeartbeats 400000 in
theorem sFracText_any (n d : Int) (w : World) :
    Calls Tryd.prog 5 #[.agg #[.int .i64 n, .int .i64 d]] w fun e w' => e = .returned (.string (Fp.bs (Fp.ftext n d))) ∧ Below w.heap.size w w' := by
  have hal : Below w.heap.size w (w.alloc (.cells #[.int .i64 n, .int .i64 d] 25)) := (Below.refl _ _).alloc (Nat.le_refl _) _
  cases hv : Fp.vld n d
  · have H := Lib.hid (Fp.ftext_no hv)
    have Hv := Lib.hid hv
    clear hv
    go_enter Tryd.func5, Tryd.ntmps5
    go_wp2_with fail
    refine (sFracValid_any n d _).mono ?_
    rintro e w1 ⟨rfl, hb1⟩
    rw [Hv.out]
    go_wp2_with fail
    go_ret
    exact ⟨by rw [H.out]; rfl, hal.trans (hb1.mono (by simp))⟩
  · obtain ⟨hn1, hn2, hd1, hd2, _⟩ := (Fp.vld_iff n d).1 hv
    have Hv := Lib.hid hv
    clear hv
    obtain ⟨dn, rfl⟩ := Int.eq_ofNat_of_zero_le (show 0 ≤ d by omega)
    obtain ⟨an, han⟩ : ∃ a : Nat, max n (0 - n) = (a : Int) := ⟨n.natAbs, by omega⟩
    have han' : max n (-n) = (an : Int) := by omega
    have hab : an ≤ 9999999 := by omega
    obtain ⟨ta, hta⟩ : ∃ t, Fp.bs (Fp.dec an) = t := ⟨_, rfl⟩
    obtain ⟨td, htd⟩ : ∃ t, Fp.bs (Fp.dec dn) = t := ⟨_, rfl⟩
    have hla : ta.size ≤ 21 := by rw [← hta, Fp.bs_size]; exact Fp.dec_len (by omega)
    have hld : td.size ≤ 21 := by rw [← htd, Fp.bs_size]; exact Fp.dec_len (by omega)
    have ca := fun w => l6Dec_any an (by omega) w
    have cd := fun w => l6Dec_any dn (by omega) w
    rw [hta] at ca
    rw [htd] at cd
    have Ca := Lib.hid ca
    have Cd := Lib.hid cd
    have hsg : (⟨#[45]⟩ : ByteArray) = Fp.bs [45] := rfl
    have hsl : (⟨#[47]⟩ : ByteArray) = Fp.bs [47] := rfl
    have T1 : Hid (n < 0 → (⟨#[45]⟩ : ByteArray) ++ ta = Fp.bs (Lib.itoa n)) := fun h => by
      rw [hsg, ← hta, Fp.bs_append, Fp.itoa_less h, show n.natAbs = an by omega]; rfl
    have T2 : Hid (¬ n < 0 → ta = Fp.bs (Lib.itoa n)) := fun h => by
      rw [← hta, Fp.itoa_pos h, show n.toNat = an by omega]
    have T3 : Hid (1 < (dn : Int) → Fp.bs (Lib.itoa n) ++ ⟨#[47]⟩ ++ td = Fp.bs (Fp.ftext n dn)) := fun h => by
      rw [hsl, ← htd, Fp.bs_append, Fp.bs_append, Fp.ftext_two Hv.out h, Int.toNat_natCast, List.append_assoc]; rfl
    have T4 : Hid (¬ 1 < (dn : Int) → Fp.bs (Lib.itoa n) = Fp.bs (Fp.ftext n dn)) := fun h => by
      rw [Fp.ftext_one Hv.out h]
    have hli : (Fp.bs (Lib.itoa n)).size ≤ 21 := by rw [Fp.bs_size]; exact Lib.itoa_length_le n (by omega) (by omega)
    obtain ⟨ti, hti⟩ : ∃ t, Fp.bs (Lib.itoa n) = t := ⟨_, rfl⟩
    rw [hti] at T1 T2 T3 T4 hli
    clear hsg hsl hta htd hti ca cd
    by_cases hneg : n < 0
    · have t1 := Lib.hid (T1.out hneg)
      by_cases hden : 1 < (dn : Int)
      · have t3 := Lib.hid (T3.out hden)
        go_enter Tryd.func5, Tryd.ntmps5
        go_wp2_with fail
        refine (sFracValid_any n dn _).mono ?_
        rintro e w1 ⟨rfl, hb1⟩
        rw [Hv.out]
        have hz1 := hb1.size
        simp at hz1
        have c10 : w1.cell? ⟨w.heap.size, 0, none⟩ = some (.int .i64 n) := (hb1.cell (p := ⟨w.heap.size, 0, none⟩) (by simp)).trans (by simp [go_sem])
        have c11 : w1.cell? ⟨w.heap.size, 1, none⟩ = some (.int .i64 (dn : Int)) := (hb1.cell (p := ⟨w.heap.size, 1, none⟩) (by simp)).trans (by simp [go_sem])
        go_wp2_with fail
        refine (Ca.out _).mono ?_
        rintro e w2 ⟨rfl, hb2⟩
        have hz2 := hb2.size
        have c20 := (hb2.cell (p := ⟨w.heap.size, 0, none⟩) (by show w.heap.size < w1.heap.size; omega)).trans c10
        have c21 := (hb2.cell (p := ⟨w.heap.size, 1, none⟩) (by show w.heap.size < w1.heap.size; omega)).trans c11
        have hB2 : Below w.heap.size w w2 := (hal.trans (hb1.mono (by simp))).trans (hb2.mono (by omega))
        have hs2 : (⟨#[45]⟩ ++ ta : ByteArray).size ≤ 22 := by rw [ByteArray.size_append]; show 1 + ta.size ≤ 22; omega
        go_wp2_with fail
        refine (Cd.out _).mono ?_
        rintro e w3 ⟨rfl, hb3⟩
        go_wp2_with fail
        go_ret
        exact ⟨by rw [← t3.out, ← t1.out]; rfl, hB2.trans (hb3.mono (by omega))⟩
      · have t4 := Lib.hid (T4.out hden)
        go_enter Tryd.func5, Tryd.ntmps5
        go_wp2_with fail
        refine (sFracValid_any n dn _).mono ?_
        rintro e w1 ⟨rfl, hb1⟩
        rw [Hv.out]
        have hz1 := hb1.size
        simp at hz1
        have c10 : w1.cell? ⟨w.heap.size, 0, none⟩ = some (.int .i64 n) := (hb1.cell (p := ⟨w.heap.size, 0, none⟩) (by simp)).trans (by simp [go_sem])
        have c11 : w1.cell? ⟨w.heap.size, 1, none⟩ = some (.int .i64 (dn : Int)) := (hb1.cell (p := ⟨w.heap.size, 1, none⟩) (by simp)).trans (by simp [go_sem])
        go_wp2_with fail
        refine (Ca.out _).mono ?_
        rintro e w2 ⟨rfl, hb2⟩
        have hz2 := hb2.size
        have c20 := (hb2.cell (p := ⟨w.heap.size, 0, none⟩) (by show w.heap.size < w1.heap.size; omega)).trans c10
        have c21 := (hb2.cell (p := ⟨w.heap.size, 1, none⟩) (by show w.heap.size < w1.heap.size; omega)).trans c11
        have hB2 : Below w.heap.size w w2 := (hal.trans (hb1.mono (by simp))).trans (hb2.mono (by omega))
        go_wp2_with fail
        go_ret
        exact ⟨by rw [← t4.out, ← t1.out]; rfl, hB2⟩
    · have t1 := Lib.hid (T2.out hneg)
      by_cases hden : 1 < (dn : Int)
      · have t3 := Lib.hid (T3.out hden)
        go_enter Tryd.func5, Tryd.ntmps5
        go_wp2_with fail
        refine (sFracValid_any n dn _).mono ?_
        rintro e w1 ⟨rfl, hb1⟩
        rw [Hv.out]
        have hz1 := hb1.size
        simp at hz1
        have c10 : w1.cell? ⟨w.heap.size, 0, none⟩ = some (.int .i64 n) := (hb1.cell (p := ⟨w.heap.size, 0, none⟩) (by simp)).trans (by simp [go_sem])
        have c11 : w1.cell? ⟨w.heap.size, 1, none⟩ = some (.int .i64 (dn : Int)) := (hb1.cell (p := ⟨w.heap.size, 1, none⟩) (by simp)).trans (by simp [go_sem])
        go_wp2_with fail
        refine (Ca.out _).mono ?_
        rintro e w2 ⟨rfl, hb2⟩
        have hz2 := hb2.size
        have c20 := (hb2.cell (p := ⟨w.heap.size, 0, none⟩) (by show w.heap.size < w1.heap.size; omega)).trans c10
        have c21 := (hb2.cell (p := ⟨w.heap.size, 1, none⟩) (by show w.heap.size < w1.heap.size; omega)).trans c11
        have hB2 : Below w.heap.size w w2 := (hal.trans (hb1.mono (by simp))).trans (hb2.mono (by omega))
        go_wp2_with fail
        refine (Cd.out _).mono ?_
        rintro e w3 ⟨rfl, hb3⟩
        go_wp2_with fail
        go_ret
        exact ⟨by rw [← t3.out, ← t1.out]; rfl, hB2.trans (hb3.mono (by omega))⟩
      · have t4 := Lib.hid (T4.out hden)
        go_enter Tryd.func5, Tryd.ntmps5
        go_wp2_with fail
        refine (sFracValid_any n dn _).mono ?_
        rintro e w1 ⟨rfl, hb1⟩
        rw [Hv.out]
        have hz1 := hb1.size
        simp at hz1
        have c10 : w1.cell? ⟨w.heap.size, 0, none⟩ = some (.int .i64 n) := (hb1.cell (p := ⟨w.heap.size, 0, none⟩) (by simp)).trans (by simp [go_sem])
        have c11 : w1.cell? ⟨w.heap.size, 1, none⟩ = some (.int .i64 (dn : Int)) := (hb1.cell (p := ⟨w.heap.size, 1, none⟩) (by simp)).trans (by simp [go_sem])
        go_wp2_with fail
        refine (Ca.out _).mono ?_
        rintro e w2 ⟨rfl, hb2⟩
        have hz2 := hb2.size
        have c20 := (hb2.cell (p := ⟨w.heap.size, 0, none⟩) (by show w.heap.size < w1.heap.size; omega)).trans c10
        have c21 := (hb2.cell (p := ⟨w.heap.size, 1, none⟩) (by show w.heap.size < w1.heap.size; omega)).trans c11
        have hB2 : Below w.heap.size w w2 := (hal.trans (hb1.mono (by simp))).trans (hb2.mono (by omega))
        go_wp2_with fail
        go_ret
        exact ⟨by rw [← t4.out, ← t1.out]; rfl, hB2⟩
/-- the library's table of powers, and that it stays -/
def Pow (w : World) : Prop := Lib.TabBelow Tryd.prog w.heap.size w "internal/strconv.uint64pow10" .u64 Lib.pow10Tab
theorem itoa_b (n : Int) (w0 w : World) (hT : Pow w0) (hb : Below w0.heap.size w0 w) (h0 : -9223372036854775808 ≤ n) (h1 : n ≤ 9223372036854775807) :
    Calls Tryd.prog 12 #[.int .i64 n] w fun e w' => e = .returned (.string (Fp.bs (Lib.itoa n))) ∧ Below w.heap.size w w' :=
  (Tryd.strconv_Itoa n h0 h1 w (hT w hb)).mono fun e w' ⟨he, k, os, hw⟩ => ⟨he, by rw [hw]; exact Lib.below_grow _ _ (Nat.le_refl _) k os⟩
theorem itoa_v (n : Int) (t : ByteArray) (ht : Fp.bs (Lib.itoa n) = t) (w0 w : World) (hT : Pow w0) (hb : Below w0.heap.size w0 w) (h0 : -9223372036854775808 ≤ n) (h1 : n ≤ 9223372036854775807) :
    Calls Tryd.prog 12 #[.int .i64 n] w fun e w' => e = .returned (.string t) ∧ Below w.heap.size w w' := by
  subst ht; exact itoa_b n w0 w hT hb h0 h1
set_option maxRecDepth 100000 in
set_option maxHeartbeats 400000 in
theorem iFracText_any (n d : Int) (w : World) (hT : Pow w) :
    Calls Tryd.prog 7 #[.agg #[.int .i64 n, .int .i64 d]] w fun e w' => e = .returned (.string (Fp.bs (Fp.ftext n d))) ∧ Below w.heap.size w w' := by
  have hal : Below w.heap.size w (w.alloc (.cells #[.int .i64 n, .int .i64 d] 25)) := (Below.refl _ _).alloc (Nat.le_refl _) _
  have HT := Lib.hid hT
  clear hT
  cases hv : Fp.vld n d
  · have H := Lib.hid (Fp.ftext_no hv)
    have Hv := Lib.hid hv
    clear hv
    go_enter Tryd.func7, Tryd.ntmps7
    go_wp2_with fail
    refine (iFracValid_any n d _).mono ?_
    rintro e w1 ⟨rfl, hb1⟩
    rw [Hv.out]
    go_wp2_with fail
    go_ret
    exact ⟨by rw [H.out]; rfl, hal.trans (hb1.mono (by simp))⟩
  · obtain ⟨hn1, hn2, hd1, hd2, _⟩ := (Fp.vld_iff n d).1 hv
    have Hv := Lib.hid hv
    clear hv
    obtain ⟨ti, hti⟩ : ∃ t, Fp.bs (Lib.itoa n) = t := ⟨_, rfl⟩
    obtain ⟨td, htd⟩ : ∃ t, Fp.bs (Lib.itoa d) = t := ⟨_, rfl⟩
    have hli : ti.size ≤ 21 := by rw [← hti, Fp.bs_size]; exact Lib.itoa_length_le n (by omega) (by omega)
    have hld : td.size ≤ 21 := by rw [← htd, Fp.bs_size]; exact Lib.itoa_length_le d (by omega) (by omega)
    have hls : (ti ++ ⟨#[47]⟩ : ByteArray).size ≤ 22 := by rw [ByteArray.size_append]; show ti.size + 1 ≤ 22; omega
    have T3 : Hid (1 < d → ti ++ ⟨#[47]⟩ ++ td = Fp.bs (Fp.ftext n d)) := fun h => by
      rw [show (⟨#[47]⟩ : ByteArray) = Fp.bs [47] from rfl, ← htd, ← hti, Fp.bs_append, Fp.bs_append, Fp.ftext_two Hv.out h, Fp.itoa_pos (show ¬ d < 0 by omega), List.append_assoc]; rfl
    have T4 : Hid (¬ 1 < d → ti = Fp.bs (Fp.ftext n d)) := fun h => by
      rw [Fp.ftext_one Hv.out h, hti]
    have Hti := Lib.hid hti
    have Htd := Lib.hid htd
    clear hti htd
    by_cases hden : 1 < d
    · have t3 := Lib.hid (T3.out hden)
      have dd : (d == 1) = false := by simp; omega
      have dd' : ¬ d = 1 := by omega
      go_enter Tryd.func7, Tryd.ntmps7
      go_wp2_with fail
      refine (iFracValid_any n d _).mono ?_
      rintro e w1 ⟨rfl, hb1⟩
      rw [Hv.out]
      have hz1 := hb1.size
      simp at hz1
      have c10 : w1.cell? ⟨w.heap.size, 0, none⟩ = some (.int .i64 n) := (hb1.cell (p := ⟨w.heap.size, 0, none⟩) (by simp)).trans (by simp [go_sem])
      have c11 : w1.cell? ⟨w.heap.size, 1, none⟩ = some (.int .i64 d) := (hb1.cell (p := ⟨w.heap.size, 1, none⟩) (by simp)).trans (by simp [go_sem])
      have hB1 := hal.trans (hb1.mono (by simp))
      have HB1 := Lib.hid hB1
      have hle : w.heap.size ≤ w1.heap.size := by omega
      have hx0 := fun x => calm_cell (W := w1) c10 x
      have hx1 := fun x => calm_cell (W := w1) c11 x
      clear dd'
      go_wp2_with fail
      refine wp_region_calm (by kernel_rfl) (by kernel_rfl) ?_
      repeat (go_big_quiet_step ((first
        | (go_at_call 12; with_reducible exact calm_call (itoa_v n ti Hti.out w _ HT.out (HB1.out.trans ((Calm.ok _).mono hle)) (by omega) (by omega)))
        | (go_at_call 12; with_reducible exact calm_call (itoa_v d td Htd.out w _ HT.out (HB1.out.trans ((Calm.ok _).mono hle)) (by omega) (by omega))))))
      refine wpQuiet_nil ?_
      rintro _ ⟨⟨w2, hb2⟩, rfl⟩
      go_wp2_with fail
      go_ret
      exact ⟨by rw [← t3.out]; rfl, HB1.out.trans (hb2.mono hle)⟩
    · have t4 := Lib.hid (T4.out hden)
      have dd : d = 1 := by omega
      subst dd
      go_enter Tryd.func7, Tryd.ntmps7
      go_wp2_with fail
      refine (iFracValid_any n 1 _).mono ?_
      rintro e w1 ⟨rfl, hb1⟩
      rw [Hv.out]
      have hz1 := hb1.size
      simp at hz1
      have c10 : w1.cell? ⟨w.heap.size, 0, none⟩ = some (.int .i64 n) := (hb1.cell (p := ⟨w.heap.size, 0, none⟩) (by simp)).trans (by simp [go_sem])
      have c11 : w1.cell? ⟨w.heap.size, 1, none⟩ = some (.int .i64 1) := (hb1.cell (p := ⟨w.heap.size, 1, none⟩) (by simp)).trans (by simp [go_sem])
      have hB1 := hal.trans (hb1.mono (by simp))
      go_wp2_with fail
      refine (itoa_v n ti Hti.out w _ HT.out hB1 (by omega) (by omega)).mono ?_
      rintro e w2 ⟨rfl, hb2⟩
      go_wp2_with fail
      go_ret
      exact ⟨by rw [← t4.out]; rfl, hB1.trans (hb2.mono (by omega))⟩
end Go.Proofs.YtleceoplfboefaaDoor
