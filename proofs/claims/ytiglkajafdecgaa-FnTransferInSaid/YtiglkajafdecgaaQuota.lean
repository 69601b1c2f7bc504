/-
  TransferQuota, in the program and in the reference.
-/
import Derived.Test.YtiglkajafdecgaaFracWalks
namespace Go.Proofs.Ytiglkajafdecgaa
set_option linter.unusedVariables false
open Go.RowKit

namespace Fp
/-- how many ballots are enough for a seat -/
def quota (t s : Int) : Int := if inr t 0 60 && inr s 1 2 then t / (s + 1) + 1 else -1
theorem quota_in (t s : Int) (h1 : inr t 0 60 = true) (h2 : inr s 1 2 = true) : quota t s = t / (s + 1) + 1 := by simp [quota, h1, h2]
theorem quota_no (t s : Int) (h : inr t 0 60 = false ∨ inr s 1 2 = false) : quota t s = -1 := by
  rcases h with h | h <;> simp [quota, h]
end Fp

set_option maxRecDepth 100000 in
set_option maxHeartbeats 400000 in
/-- impl.TransferQuota -/
theorem iQuota_any (t s : Int) (w : World) :
    Calls Try.prog 24 #[.int .i64 t, .int .i64 s] w fun e w' => e = .returned (.int .i64 (Fp.quota t s)) ∧ w = w' := by
  cases h1 : Fp.inr t 0 60
  · have H := Lib.hid (Fp.quota_no t s (.inl h1))
    have h := Fp.inr_no _ _ _ h1
    have h' := Lib.hid h
    clear h
    go_enter Try.func24, Try.ntmps24
    go_wp2
    all_goals first | (exfalso; have := h'.out; omega) | (go_ret; exact ⟨ret_int H.out.symm, rfl⟩)
  · cases h2 : Fp.inr s 1 2
    · have H := Lib.hid (Fp.quota_no t s (.inr h2))
      have h := Fp.inr_no _ _ _ h2
      have h' := Lib.hid h
      clear h
      go_enter Try.func24, Try.ntmps24
      go_wp2
      all_goals first | (exfalso; have := h'.out; omega) | (go_ret; exact ⟨ret_int H.out.symm, rfl⟩)
    · have H := Lib.hid (Fp.quota_in t s h1 h2)
      obtain ⟨a1, a2⟩ := (Fp.inr_iff _ _ _).1 h1
      obtain ⟨b1, b2⟩ := (Fp.inr_iff _ _ _).1 h2
      have hq : 0 ≤ t / (s + 1) := Int.ediv_nonneg a1 (by omega)
      have hq' : t / (s + 1) ≤ t := Int.ediv_le_self _ a1
      go_enter Try.func24, Try.ntmps24
      go_wp2
      go_ret
      exact ⟨ret_int H.out.symm, rfl⟩

end Go.Proofs.Ytiglkajafdecgaa
