/-
  The walk of FnRunoffCheck.
-/
import Derived.Test.YtleceoplfboefaaDrawRunoffCheck
import Derived.Test.YtleceoplfboefaaRunoffCheck
import Derived.Test.YtleceoplfboefaaLawRounds
namespace Go.Proofs.Ytleceoplfboefaa
set_option linter.unusedVariables false
open Go.RowKit

set_option maxRecDepth 100000 in
set_option maxHeartbeats 4000000 in
theorem lawCheck_any (A : Option Addr) (n c : Nat) (w : World) (h : Bytes w w.heap.size A n) (hn : n ≤ 9223372036854775807) (hc : n ≤ c) :
    Calls Try.prog 5 #[.slice A n c] w fun e w' => e = .returned (.bool true) ∧ Below w.heap.size w w' := by
  by_cases hb : 1048576 < n
  · go_enter Try.func5, Try.ntmps5
    go_wp2_with fail
    go_ret
    exact ⟨rfl, Below.refl _ _⟩
  go_enter Try.func5, Try.ntmps5
  go_wp2_with fail
  refine (drawRunoffCheck_some A n c _ h hn hc).mono ?_
  rintro e w1 ⟨gp, k, cp, Al, m, cl, A2, n2, c2, ps, lots, rs, rfl, hcp, hkp, hcl, hml, hn2, hps, hlo, hrs, hsm, hb1⟩
  have hs1 := hb1.size
  have Hsm := Lib.hid hsm
  clear hsm
  obtain ⟨b, hbq⟩ : ∃ b, Bp.rcheck ps lots rs = b := ⟨_, rfl⟩
  have hci := iRunoffCheck_any _ k cp Al m cl A2 n2 c2 ps lots rs _ hps (by omega) hcp hlo (by omega) hcl hrs
  rw [hbq] at hci
  have Hci := Lib.hid hci
  clear hci
  go_wp2_with fail
  refine Hci.out.mono ?_
  rintro e w2 ⟨rfl, hb2⟩
  have hs2 := hb2.size
  have hps2 := (hps.below hb2).mono hs2
  have hlo2 := (hlo.below hb2).mono hs2
  have hrs2 := (hrs.below hb2).mono hs2
  have hB2 := hb1.trans (hb2.mono hs1)
  have hcs := sRunoffCheck_any _ k cp Al m cl A2 n2 c2 ps lots rs _ hps2 (by omega) hlo2 (by omega) hcl hrs2 (by omega) Hsm.out
  rw [hbq] at hcs
  have Hcs := Lib.hid hcs
  clear hcs hps hlo hrs
  go_wp2_with fail
  refine Hcs.out.mono ?_
  rintro e w3 ⟨rfl, hb3⟩
  have hs3 := hb3.size
  have hps3 := (hps2.below hb3).mono hs3
  have hlo3 := (hlo2.below hb3).mono hs3
  have hrs3 := (hrs2.below hb3).mono hs3
  have hB3 := hB2.trans (hb3.mono (by omega))
  have hcall := iRunoffRounds_any _ k cp Al m cl ps lots _ hps3 (by omega) hcp hlo3 (by omega) hcl
  have hbb : (b != b) = false := by simp
  have hbe : (b == b) = true := by simp
  clear hps2 hlo2 hrs2 hps3 hlo3
  cases hok : Bp.ok ps lots
  · rw [Bp.rcheck_no rs hok] at hbq
    rw [hok] at hcall
    have Hcall := Lib.hid hcall
    subst hbq
    clear hcall hok
    go_wp2_with fail
    refine Hcall.out.mono ?_
    rintro e w4 ⟨A1, n1, c1, rfl, hc1, hn1, hown, hb4⟩
    go_wp2_with fail
    go_ret
    exact ⟨rfl, hB3.trans (hb4.mono (by omega))⟩
  · rw [Bp.rcheck_yes rs hok] at hbq
    rw [hok] at hcall
    have Hcall := Lib.hid hcall
    have Hrl := Lib.hid (Bp.rounds_small ps lots hok)
    clear hcall hok
    have Hbq := Lib.hid hbq
    clear hbq
    go_wp2_with fail
    refine Hcall.out.mono ?_
    rintro e w4 ⟨A1, n1, c1, rfl, hc1, hn1, hown, hb4⟩
    rw [rres_yes rfl] at hown
    have hv := hown.view
    have hs4 := hb4.size
    have hrs4 := (hrs3.below hb4).mono hs4
    have hsame := sameRounds_any A1 A2 n1 c1 n2 c2 _ rs w4 hv hrs4 (by omega) Hrl.out
    rw [Hbq.out] at hsame
    have Hsame := Lib.hid hsame
    have hB4 := hB3.trans (hb4.mono (by omega))
    clear hsame hv hrs4 hrs3 hown
    go_wp2_with fail
    refine Hsame.out.mono ?_
    rintro e w5 ⟨rfl, hd5⟩
    go_wp2_with fail
    go_ret
    exact ⟨ret_bool (by cases b <;> rfl), hB4.trans (hd5.below _)⟩
end Go.Proofs.Ytleceoplfboefaa
