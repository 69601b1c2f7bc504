/-
  The walks of PairWinner, of the program and of the reference.
-/
import Derived.Test.YtgcihnhljeahjaaTopZ
import Derived.Test.YtgcihnhljeahjaaWinPlain
namespace Go.Proofs.Ytgcihnhljeahjaa
set_option linter.unusedVariables false
open Go.RowKit

/-- the winner of pairs, or -1, at all arguments -/
def Bp.pwinner (ps : List Bp.Pile) (q : Int) : Int := if Bp.fits ps q then Bp.pairWin ps q.toNat else -1
theorem Bp.pwinner_yes {ps : List Bp.Pile} {q : Int} (h : Bp.fits ps q = true) : Bp.pwinner ps q = Bp.pairWin ps q.toNat := by simp [Bp.pwinner, h]
theorem Bp.pwinner_no {ps : List Bp.Pile} {q : Int} (h : Bp.fits ps q = false) : Bp.pwinner ps q = -1 := by simp [Bp.pwinner, h]
set_option maxRecDepth 100000 in
set_option maxHeartbeats 400000 in
theorem iPairWinner_any (A : Option Addr) (n c : Nat) (mi : Int) (ps : List Bp.Pile) (w : World) (h : Piles w w.heap.size A n ps) (hn : n ≤ 1048576) (hnc : n ≤ c) :
    Calls Try.prog 30 #[.slice A n c, .int .i64 mi] w fun e w' => e = .returned (.int .i64 (Bp.pwinner ps mi)) ∧ Below w.heap.size w w' := by
  have hcall := iPairTop_any A n c mi ps w h hn hnc
  have Hcall := Lib.hid hcall
  clear hcall
  go_enter Try.func30, Try.ntmps30
  go_wp2_with fail
  refine Hcall.out.mono ?_
  rintro e w1 ⟨A1, n1, c1, rfl, hc1, hn1, hown, hb1⟩
  have hi := hown.ints
  have hlen := hi.1
  by_cases h1 : n1 = 1
  · obtain ⟨g, o, z, rfl, _, hc, hz⟩ := hi.at (k := 0) (by omega)
    have hv : Bp.pwinner ps mi = z := by
      cases hf : Bp.fits ps mi
      · rw [hf, cres_no rfl] at hlen
        simp at hlen
        omega
      · rw [hf, cres_yes rfl] at hlen
        have hz' := hz.out
        rw [hf, cres_yes rfl] at hz'
        rw [Bp.pwinner_yes hf]
        unfold Bp.pairWin
        rw [if_pos (by omega)]
        exact hz'
    have Hv := Lib.hid hv
    have d1 : ((n1 : Int) == 1) = true := by rw [beq_iff_eq]; omega
    have i2 : (0 : Int) < (n1 : Int) := by omega
    have i3 : 0 < n1 := by omega
    have H1 := Lib.hid h1
    clear hv hown hlen h1
    rw [Nat.add_zero] at hc
    go_wp2_with fail
    go_ret
    exact ⟨ret_int Hv.out.symm, hb1⟩
  · have hv : Bp.pwinner ps mi = -1 := by
      cases hf : Bp.fits ps mi
      · exact Bp.pwinner_no hf
      · rw [hf, cres_yes rfl] at hlen
        rw [Bp.pwinner_yes hf]
        unfold Bp.pairWin
        rw [if_neg (by omega)]
    have Hv := Lib.hid hv
    have d1 : ((n1 : Int) == 1) = false := by rw [beq_eq_false_iff_ne]; omega
    have H1 := Lib.hid h1
    clear hv hown hlen h1
    go_wp2_with fail
    go_ret
    exact ⟨ret_int Hv.out.symm, hb1⟩
end Go.Proofs.Ytgcihnhljeahjaa
