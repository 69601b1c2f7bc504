/-
  The walk of FnFracText.
-/
import Derived.Test.YtleceoplfboefaaDoorFracText
import Derived.Test.YtleceoplfboefaaDoorDrawFracText
namespace Go.Proofs.YtleceoplfboefaaDoor
set_option linter.unusedVariables false
open Go.RowKit

namespace Fp
theorem dec_no47 : ∀ (u : Nat) (c : UInt8), c ∈ dec u → c ≠ 47 := by
  intro u
  induction u using Nat.strongRecOn with
  | _ u ih =>
    intro c hc
    have hd : ∀ r, r < 10 → UInt8.ofNat (48 + r) ≠ 47 := fun r hr e => by
      have := congrArg UInt8.toNat e
      rw [UInt8.toNat_ofNat'] at this
      have e2 : (47 : UInt8).toNat = 47 := rfl
      omega
    by_cases h : u < 10
    · rw [dec_small h] at hc
      simp only [List.mem_singleton] at hc
      rw [hc]; exact hd u h
    · rw [dec_more h] at hc
      rcases List.mem_append.1 hc with h1 | h1
      · exact ih (u / 10) (by omega) c h1
      · simp only [List.mem_singleton] at h1
        rw [h1]; exact hd _ (by omega)
theorem itoa_no47 (n : Int) : (Lib.itoa n).any (fun c => c == 47) = false := by
  have h : ∀ c ∈ Lib.itoa n, c ≠ 47 := fun c hc => by
    by_cases hn : n < 0
    · rw [itoa_less hn] at hc
      rcases List.mem_cons.1 hc with h1 | h1
      · rw [h1]; decide
      · exact dec_no47 _ c h1
    · rw [itoa_pos hn] at hc
      exact dec_no47 _ c hc
  rw [Bool.eq_false_iff]
  intro hh
  obtain ⟨c, hc, e⟩ := List.any_eq_true.1 hh
  exact h c hc (by simpa using e)
theorem ftext_slash {n d : Int} (h : vld n d = true) : (ftext n d).any (fun c => c == 47) = decide (1 < d) := by
  by_cases hd : 1 < d
  · rw [ftext_two h hd, List.any_append, itoa_no47]; simp [hd]
  · rw [ftext_one h hd, itoa_no47]; simp [hd]
theorem itoa_ne (n : Int) : Lib.itoa n ≠ [] := by
  have hd : ∀ u, dec u ≠ [] := fun u => by
    by_cases h : u < 10
    · rw [dec_small h]; simp
    · rw [dec_more h]; simp
  by_cases hn : n < 0
  · rw [itoa_less hn]; simp
  · rw [itoa_pos hn]; exact hd _
theorem ftext_ne {n d : Int} (h : vld n d = true) : ftext n d ≠ [] := by
  by_cases hd : 1 < d
  · rw [ftext_two h hd]; simp
  · rw [ftext_one h hd]; exact itoa_ne n
theorem ftext_len {n d : Int} : (ftext n d).length ≤ 43 := by
  cases hv : vld n d
  · rw [ftext_no hv]; simp
  · obtain ⟨h1, h2, h3, h4, _⟩ := (vld_iff n d).1 hv
    have hi := Lib.itoa_length_le n (by omega) (by omega)
    by_cases hd : 1 < d
    · rw [ftext_two hv hd, List.length_append, List.length_cons]
      have := dec_len (u := d.toNat) (by omega)
      omega
    · rw [ftext_one hv hd]; omega
/-- has a text a slash among its first k bytes? -/
def slashTo (s : ByteArray) (k : Nat) : Bool := (s.data.toList.take k).any fun c => c == 47
theorem slashTo_zero (s : ByteArray) : slashTo s 0 = false := rfl
theorem slashTo_succ (s : ByteArray) {k : Nat} (h : k < s.size) : slashTo s (k + 1) = (slashTo s k || (((s[k]).toNat : Int) == 47)) := by
  unfold slashTo
  rw [List.take_succ_eq_append_getElem (by simpa using h), List.any_append]
  congr 1
  have e : s.data.toList[k]'(by simpa using h) = s[k] := rfl
  rw [e]
  simp only [List.any_cons, List.any_nil, Bool.or_false]
  rw [Bool.eq_iff_iff]
  simp only [beq_iff_eq]
  constructor
  · intro e; rw [e]; rfl
  · intro e
    apply UInt8.toNat_inj.1
    have : (47 : UInt8).toNat = 47 := rfl
    omega
theorem slashTo_all (l : List UInt8) : slashTo (bs l) l.length = l.any fun c => c == 47 := by
  unfold slashTo bs
  simp
end Fp
set_option maxRecDepth 100000 in
set_option maxHeartbeats 2000000 in
theorem lawFracText_any (A : Option Addr) (n c : Nat) (w : World) (h : Bytes w w.heap.size A n) (hn : n ≤ 9223372036854775807) (hc : n ≤ c) (hT : Pow w) :
    Calls Tryd.prog 4 #[.slice A n c] w fun e w' => e = .returned (.bool true) ∧ Below w.heap.size w w' := by
  have HT := Lib.hid hT
  clear hT
  by_cases hb : 1048576 < n
  · go_enter Tryd.func4, Tryd.ntmps4
    go_wp2_with fail
    go_ret
    exact ⟨rfl, Below.refl _ _⟩
  go_enter Tryd.func4, Tryd.ntmps4
  go_wp2_with fail
  refine (drawFracText_any A n c _ h hn hc).mono ?_
  rintro e w1 ⟨a, d, rfl, hb1⟩
  have hs1 := hb1.size
  have hal : Below w.heap.size w (w1.alloc (.cells #[.int .i64 a, .int .i64 d] 25)) := hb1.alloc (by omega) _
  obtain ⟨t, ht⟩ : ∃ t, Fp.bs (Fp.ftext a d) = t := ⟨_, rfl⟩
  have hs := fun w => sFracText_any a d w
  have hi := fun w hT => iFracText_any a d w hT
  rw [ht] at hs hi
  have Hs := Lib.hid hs
  have Hi := Lib.hid hi
  have hts : t.size ≤ 43 := by rw [← ht, Fp.bs_size]; exact Fp.ftext_len
  have Ht := Lib.hid ht
  have hT1 : Pow (w1.alloc (.cells #[.int .i64 a, .int .i64 d] 25)) := fun w' hb => HT.out w' (hal.trans (hb.mono (by simp; omega)))
  have HT1 := Lib.hid hT1
  clear hs hi ht hT1
  go_wp2_with fail
  refine (Hi.out _ HT1.out).mono ?_
  rintro e w2 ⟨rfl, hb2⟩
  have hz2 := hb2.size
  simp at hz2
  have c20 : w2.cell? ⟨w1.heap.size, 0, none⟩ = some (.int .i64 a) := (hb2.cell (p := ⟨w1.heap.size, 0, none⟩) (by simp)).trans (by simp [go_sem])
  have c21 : w2.cell? ⟨w1.heap.size, 1, none⟩ = some (.int .i64 d) := (hb2.cell (p := ⟨w1.heap.size, 1, none⟩) (by simp)).trans (by simp [go_sem])
  have hB2 := hal.trans (hb2.mono (by simp; omega))
  go_wp2_with fail
  refine (Hs.out _).mono ?_
  rintro e w3 ⟨rfl, hb3⟩
  have hz3 := hb3.size
  have c30 := (hb3.cell (p := ⟨w1.heap.size, 0, none⟩) (by show w1.heap.size < w2.heap.size; omega)).trans c20
  have c31 := (hb3.cell (p := ⟨w1.heap.size, 1, none⟩) (by show w1.heap.size < w2.heap.size; omega)).trans c21
  have hB3 := hB2.trans (hb3.mono (by omega))
  cases hv : Fp.vld a d
  · obtain rfl : t = ⟨#[]⟩ := by rw [← Ht.out, Fp.ftext_no hv]; rfl
    have Hv := Lib.hid hv
    clear hv
    go_wp2_with fail
    go_loop [6, 7] (fun s i => i = .int .i64 0 ∧ s = .bool false) (fun _ _ => 0)
    case atStart => exact ⟨rfl, rfl⟩
    case round =>
      obtain ⟨rfl, rfl⟩ := hrel
      go_wp2_with fail
      refine (iFracValid_any a d _).mono ?_
      rintro e w4 ⟨rfl, hb4⟩
      rw [Hv.out]
      have hz4 := hb4.size
      have c40 := (hb4.cell (p := ⟨w1.heap.size, 0, none⟩) (by show w1.heap.size < w3.heap.size; omega)).trans c30
      have c41 := (hb4.cell (p := ⟨w1.heap.size, 1, none⟩) (by show w1.heap.size < w3.heap.size; omega)).trans c31
      have hB4 := hB3.trans (hb4.mono (by omega))
      go_wp2_with fail
      refine (iFracValid_any a d _).mono ?_
      rintro e w5 ⟨rfl, hb5⟩
      rw [Hv.out]
      have hz5 := hb5.size
      have c50 := (hb5.cell (p := ⟨w1.heap.size, 0, none⟩) (by show w1.heap.size < w4.heap.size; omega)).trans c40
      have c51 := (hb5.cell (p := ⟨w1.heap.size, 1, none⟩) (by show w1.heap.size < w4.heap.size; omega)).trans c41
      have hB5 := hB4.trans (hb5.mono (by omega))
      go_wp2_with fail
      go_ret
      exact ⟨rfl, hB5⟩
  · have Hv := Lib.hid hv
    have hsz : 0 < t.size := by
      rw [← Ht.out, Fp.bs_size]
      have := Fp.ftext_ne hv
      cases hl : Fp.ftext a d with
      | nil => exact absurd hl this
      | cons x r => simp
    have hne : t.toList.isEmpty = false := by
      rw [ByteArray.toList_eq]
      cases hd : t.data.toList with
      | nil =>
        have : t.size = t.data.toList.length := by simp
        rw [hd, List.length_nil] at this
        omega
      | cons x r => rfl
    have hnn : ¬ t.toList = [] := fun e => by rw [e] at hne; cases hne
    have hfin : Fp.slashTo t t.size = decide (1 < d) := by
      rw [← Fp.ftext_slash hv, ← Ht.out, Fp.bs_size, Fp.slashTo_all]
    have Hfin := Lib.hid hfin
    clear hv hfin
    go_wp2_with fail
    go_loop [6, 7] (fun s i => ∃ k : Nat, k ≤ t.size ∧ i = .int .i64 k ∧ s = .bool (Fp.slashTo t k)) (fun _ i => t.size - (intOf i).toNat)
    case atStart => exact ⟨0, Nat.zero_le _, rfl, rfl⟩
    case round =>
      obtain ⟨k, hk, rfl, rfl⟩ := hrel
      by_cases hlt : k < t.size
      · have Hn := Lib.hid (Fp.slashTo_succ t hlt)
        obtain ⟨b, hb'⟩ : ∃ b, Fp.slashTo t k = b := ⟨_, rfl⟩
        rw [hb'] at Hn
        rw [hb']
        clear hb'
        cases b
        · go_wp2_with fail
          go_round
          case rel => exact ⟨k + 1, by omega, by go_num, by rw [Hn.out]; rfl⟩
          case measure => simp [intOf]; omega
        · go_wp2_with fail
          go_round
          case rel => exact ⟨k + 1, by omega, by go_num, by rw [Hn.out]; rfl⟩
          case measure => simp [intOf]; omega
      · have hke : k = t.size := by omega
        subst hke
        rw [Hfin.out]
        go_wp2_with fail
        refine (iFracValid_any a d _).mono ?_
        rintro e w4 ⟨rfl, hb4⟩
        rw [Hv.out]
        have hz4 := hb4.size
        have c40 := (hb4.cell (p := ⟨w1.heap.size, 0, none⟩) (by show w1.heap.size < w3.heap.size; omega)).trans c30
        have c41 := (hb4.cell (p := ⟨w1.heap.size, 1, none⟩) (by show w1.heap.size < w3.heap.size; omega)).trans c31
        have hB4 := hB3.trans (hb4.mono (by omega))
        go_wp2_with fail
        refine (iFracValid_any a d _).mono ?_
        rintro e w5 ⟨rfl, hb5⟩
        rw [Hv.out]
        have hz5 := hb5.size
        have c50 := (hb5.cell (p := ⟨w1.heap.size, 0, none⟩) (by show w1.heap.size < w4.heap.size; omega)).trans c40
        have c51 := (hb5.cell (p := ⟨w1.heap.size, 1, none⟩) (by show w1.heap.size < w4.heap.size; omega)).trans c41
        have hB5 := hB4.trans (hb5.mono (by omega))
        go_wp2_with fail
        go_ret
        exact ⟨ret_bool (by simp), hB5⟩
end Go.Proofs.YtleceoplfboefaaDoor
