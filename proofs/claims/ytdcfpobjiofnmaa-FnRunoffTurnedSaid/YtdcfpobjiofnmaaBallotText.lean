/-
  The walk of the program's BallotText: the text of a ballot.
-/
import Derived.Test.YtdcfpobjiofnmaaBallotWalks
import Derived.Test.YtdcfpobjiofnmaaCounts
import Derived.Test.YtdcfpobjiofnmaaLawCopy
import Derived.Laws.BytesArg
namespace Go.Proofs.Ytdcfpobjiofnmaa
set_option linter.unusedVariables false
open Go.RowKit

namespace Bp
/-- the text of a ballot -/
def btext (b : List Int) : ByteArray := Go.strOfNums (b.map (· + 97))
theorem btext_size (b : List Int) : (btext b).size = b.length := by
  unfold btext
  rw [Go.strOfNums_size, List.length_map]
theorem parse_btext (b : List Int) (h : ∀ c ∈ b, 0 ≤ c ∧ c < 5) : parse (btext b) = b := by
  unfold parse btext
  rw [Go.strOfNums_data, List.map_map, List.map_map]
  have e : ∀ c ∈ b, (((fun c : UInt8 => (c.toNat : Int) - 97) ∘ (fun n : Int => UInt8.ofNat n.toNat)) ∘ (· + 97)) c = id c := fun c hc => by
    have := h c hc
    show ((UInt8.ofNat (c + 97).toNat).toNat : Int) - 97 = c
    rw [UInt8.toNat_ofNat']
    omega
  rw [List.map_congr_left e]
  exact List.map_id _
theorem pok_btext {b : List Int} (h : bval b 5 = true) : pok (btext b) = true := by
  unfold pok
  rw [parse_btext b (fun c hc => ((bval_iff _ _).1 h).2.1 c hc)]
  exact h
theorem bal_btext {b : List Int} (h : bval b 5 = true) : bal (btext b) = b := by
  rw [bal_yes _ (pok_btext h), parse_btext b (fun c hc => ((bval_iff _ _).1 h).2.1 c hc)]
end Bp
/-- v is a slice of n bytes of the call's own -/
def OwnU (w : World) (base : Nat) (v : Value) (n : Nat) (zs : List Int) : Prop := w.ownsRow base 5 1 v n (zs.map (Value.int .u8))
theorem OwnU.row {w : World} {base : Nat} {v : Value} {n : Nat} {zs : List Int} (h : OwnU w base v n zs) : w.ownsRow base 5 1 v n (zs.map (Value.int .u8)) := h
theorem OwnU.len {w : World} {base : Nat} {v : Value} {n : Nat} {zs : List Int} (h : OwnU w base v n zs) : zs.length = n := by have := h.1; simpa using this
theorem ownU_set {w : World} {g n c : Nat} {zs : List Int} {base : Nat} (h : OwnU w base (.slice (some ⟨g, 0, none⟩) n c) n zs) (j : Nat) (z : Int) :
    OwnU (w.setCell ⟨g, j, none⟩ (.int .u8 z)) base (.slice (some ⟨g, 0, none⟩) n c) n (zs.set j z) := by
  have := h.row.stored j (.int .u8 z)
  unfold OwnU
  rw [List.map_set]
  exact this.1
theorem ownU_cell {w : World} {g n c : Nat} {zs : List Int} {base : Nat} (h : OwnU w base (.slice (some ⟨g, 0, none⟩) n c) n zs) (j : Nat) (hj : j < n) :
    w.cell? ⟨g, j, none⟩ = some (.int .u8 (zs.getD j 0)) ∧ w.frozen? ⟨g, j, none⟩ = false := by
  refine ⟨?_, h.row.frozenAt _⟩
  rw [h.row.cellAt j (by omega)]
  have : j < zs.length := by rw [h.len]; exact hj
  simp [List.getD, this]
theorem made_ownU {w w1 : World} {n : Nat} (h : w1.ownsRow w.heap.size 5 1 (.slice (some ⟨w.heap.size, 0, none⟩) n n) n (madeCells (Value.int .u8 0).cells (n * 1)).toList) : OwnU w1 w.heap.size (.slice (some ⟨w.heap.size, 0, none⟩) n n) n (List.replicate n 0) := by
  unfold OwnU
  rw [List.map_replicate]
  have e : (madeCells (Value.int .u8 0).cells (n * 1)).toList = List.replicate n (Value.int .u8 0) := by
    rw [Nat.mul_one]
    exact toList_madeCells_one _ _
  rw [e] at h
  exact h
theorem u8_info : (Try.prog.info? 5).map (fun i => (i.zero, i.size, i.bytes)) = some (some (.int .u8 0), 1, 1) := by kernel_rfl
set_option maxRecDepth 100000 in
set_option maxHeartbeats 2000000 in
theorem iBallotText_yes (A : Option Addr) (n c : Nat) (b : List Int) (w : World) (h : Ints w w.heap.size A n b) (hnc : n ≤ c) (hv : Bp.bval b 5 = true) :
    Calls Try.prog 25 #[.slice A n c] w fun e w' => e = .returned (.string (Bp.btext b)) ∧ Below w.heap.size w w' := by
  have hl := Lib.hid h.1
  have hn5 : n ≤ 5 := by have := Bp.bval_len _ _ hv; rw [h.1] at this; omega
  have hr : Hid (∀ k, k < n → 0 ≤ b.getD k 0 ∧ b.getD k 0 < 5) := fun k hk => ((Bp.bval_iff _ _).1 hv).2.1 _ (Bp.getD_mem b k (by rw [hl.out]; exact hk))
  have Hv := Lib.hid hv
  obtain ⟨i0, hi0, hz0, hz1, hz2⟩ := info_parts u8_info
  clear hv
  go_enter Try.func25, Try.ntmps25
  go_wp2_with (first
    | (go_at_call 54; refine (iBallotValid_any A n c 5 b w.heap.size _ h (by omega) hnc).mono ?_; rintro e w' ⟨rfl, rfl⟩; rw [Hv.out])
    | (at_make; refine wpList_make_full _ rfl (.tmp 10) (.tmp 10) 22 rfl w.heap.size 5 i0 _ 1 Try.underlying22 hi0 hz0 hz1 .i64 .i64 n n n rfl rfl rfl rfl (by rw [hz2]; omega) (by unfold maxLen; omega) (Nat.le_refl _) ?_; intro w1 hown hg))
  obtain ⟨xs, hxs⟩ : ∃ xs, b.map (· + 97) = xs := ⟨_, rfl⟩
  have hxl : xs.length = n := by rw [← hxs, List.length_map, hl.out]
  have hxk : Hid (∀ k, k < n → xs.getD k 0 = b.getD k 0 + 97) := fun k hk => by
    have h1 : k < b.length := by rw [hl.out]; exact hk
    rw [← hxs]
    simp [List.getD, h1]
  have Hxs := Lib.hid hxs
  have Hxl := Lib.hid hxl
  have hown1 : OwnU w1 w.heap.size (.slice (some ⟨w.heap.size, 0, none⟩) n n) n (copiedL 0 xs 0) := by
    rw [copiedL_zero, hxl]
    exact made_ownU hown
  have hb1 : Below w.heap.size w w1 := (Below.refl _ _).grown hg (Nat.le_refl _) (by simp)
  clear hown hg hxs hxl
  go_loopw [14] (fun i wr => ∃ k : Nat, k ≤ n ∧ i = .int .i64 k ∧ OwnU wr w.heap.size (.slice (some ⟨w.heap.size, 0, none⟩) n n) n (copiedL 0 xs k) ∧ Below w.heap.size w wr) (fun i _ => n - (intOf i).toNat)
  case atStart => exact ⟨0, Nat.zero_le _, rfl, hown1, hb1⟩
  case round =>
    obtain ⟨k, hk, rfl, hown, hb⟩ := hrel
    have hz := hb.size
    by_cases hlt : k < n
    · have hrr := h.below hb
      obtain ⟨g, o, z, rfl, hg, hc, hp⟩ := hrr.at hlt
      have hzb := hr.out k hlt
      rw [hp.out] at hzb
      have hz0 := hzb.1
      have hz5 := hzb.2
      obtain ⟨hd1, hf1⟩ := ownU_cell hown k hlt
      have hst := ownU_set hown k (z + 97)
      have hxe := hxk.out k hlt
      rw [hp.out] at hxe
      rw [← hxe, copiedL_set 0 xs k (by rw [Hxl.out]; exact hlt), hxe] at hst
      have Hst := Lib.hid hst
      have e1 : IntKind.i64.wrap (97 + z) = z + 97 := by rw [Int.add_comm]; exact wrap_small _ (by omega) (by omega)
      have e2 : IntKind.u8.wrap (z + 97) = z + 97 := by simp [IntKind.wrap, IntKind.bits, IntKind.signed]; omega
      clear hst hown hxe hzb
      obtain ⟨y, hy⟩ : ∃ y, (copiedL 0 xs k).getD k 0 = y := ⟨_, rfl⟩
      rw [hy] at hd1
      clear hy
      go_wp2_with fail
      go_roundw
      case rel => exact ⟨k + 1, by omega, by go_num, Hst.out, hb.setCell (Nat.le_refl _) _⟩
      case measure => simp [intOf]; omega
    · have hkn : k = n := by omega
      have e := copiedL_all 0 xs
      rw [Hxl.out, ← hkn] at e
      rw [e] at hown
      have hcv := run_convert_bytes_arg (P := Try.prog) wr 22 5 Try.underlying22 Try.underlying5 w.heap.size 0 n n xs Hxl.out (fun i hi => by rw [Nat.zero_add]; exact (ownU_cell hown i hi).1) 9 Try.underlying9
      have Hxs2 : Hid (Go.strOfNums xs = Bp.btext b) := by unfold Hid Bp.btext; rw [Hxs.out]
      clear hkn e hown
      go_wp2_with fail
      go_ret
      exact ⟨by rw [Hxs2.out]; rfl, hb⟩
end Go.Proofs.Ytdcfpobjiofnmaa
