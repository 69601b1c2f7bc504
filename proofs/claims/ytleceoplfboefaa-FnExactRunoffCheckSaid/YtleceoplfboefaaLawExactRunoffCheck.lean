/-
  The program's RunoffCheck returns what the reference's returns, for all arguments. No condition.
-/
import Derived.Test.YtleceoplfboefaaLawRunoffCheckWalk
import Derived.Test.YtleceoplfboefaaLawRoundCopy
import Derived.Test.YtleceoplfboefaaOpenPiles
namespace Go.Proofs.Ytleceoplfboefaa.fnExactRunoffCheck
open Go.ChangeShapes Go.WideShapes Go.ChangeAt Go.RowKit
open Go.ChangeMaps (open_string shut_string)
set_option linter.unusedVariables false

theorem own : ownKnob Try.prog.godebug = none := by kernel_rfl
theorem laidOut : laidOutB Try.prog = true := by kernel_rfl

set_option maxRecDepth 100000 in
theorem lifted (os : Os) (started : os.Started) (H : Type) (enc : TypeId × Value → H) :
    ReturnsInHanded {} Try.checked os 4 .any (Rows.fnExactRunoffCheckSpec.pre6 enc Try.prog Try.f4 Rows.fnExactRunoffCheckRow.domain false) (Rows.fnExactRunoffCheckSpec.post enc Try.prog Try.f4 false true false false) := by
  refine returnsInHanded_of_change (C := Try.checked) own started (by kernel_rfl) Try.func4
    (ChangeSpec.witness6 (enc := enc) (C := Try.checked) false ⟨#[], #[.slice none 0 0, .slice none 0 0, .slice none 0 0], []⟩ 8 (by kernel_rfl) (by kernel_rfl) (by kernel_rfl) (by kernel_rfl)) ?_
  intro W base args ds gs before hval0 hW hcnd _
  have hval : ∀ (j : Nat) t v, Try.f4.params[j]? = some t → args[j]? = some v → Value.okWide Try.prog W .any base t v := hval0
  have hW' := hW
  obtain ⟨p, q, hA0, hV, rfl, hfz, hnd⟩ := hW
  have hA : DataW.TrodAll enc Try.prog W 0 (fun _ => true) true Try.f4.params.toList args.toList ds p := hA0
  rw [Try.params4] at hA hval
  obtain ⟨v0, vs0, d0, ds0, p0, q0, hargs, rfl, rfl, h0, r0⟩ := trodAll_cons hA
  obtain ⟨v1, vs1, d1, ds1, p1, q1, rfl, rfl, rfl, h1, r1⟩ := trodAll_cons r0
  obtain ⟨v2, vs2, d2, ds2, p2, q2, rfl, rfl, rfl, h2, r2⟩ := trodAll_cons r1
  obtain ⟨rfl, rfl, rfl⟩ := trodAll_nil r2
  obtain rfl : args = #[v0, v1, v2] := by cases args; simp_all
  obtain ⟨rfl, rfl⟩ := trodVars_none hV
  obtain ⟨B0, l0, d'0, hv0⟩ := okWide_slice Try.underlying22 (hval 0 22 v0 rfl rfl)
  have k0 := h0
  have lt0 : ∀ x ∈ p0, x.block < W.heap.size := by obtain ⟨m, hm⟩ := k0; exact DataW.trod_lt m _ _ _ hm
  obtain ⟨A0, n0, c0, z0, rfl, b0, m0, e0, s0⟩ : ∃ (A : Option Addr) (n c : Nat) (zs : List (ByteArray × Int)), v0 = .slice A n c ∧ PilesR W W.heap.size A n zs ∧ n ≤ 9223372036854775807 ∧ n ≤ c ∧ ∀ p ∈ zs, p.1.size ≤ 9223372036854775807 := by
    obtain ⟨fuel, hf⟩ := h0
    obtain ⟨A, n, c, zs, hcs, hr⟩ := piles_of_open hf
    subst hv0
    simp [Value.cells] at hcs
    obtain ⟨rfl, rfl, rfl⟩ := hcs
    exact ⟨_, _, _, zs, rfl, hr⟩
  obtain ⟨B1, l1, d'1, hv1⟩ := okWide_slice Try.underlying23 (hval 1 23 v1 rfl rfl)
  have k1 := h1
  have lt1 : ∀ x ∈ p1, x.block < W.heap.size := by obtain ⟨m, hm⟩ := k1; exact DataW.trod_lt m _ _ _ hm
  obtain ⟨A1, n1, c1, z1, rfl, b1, m1, e1⟩ : ∃ (A : Option Addr) (n c : Nat) (zs : List Int), v1 = .slice A n c ∧ Ints W W.heap.size A n zs ∧ n ≤ 9223372036854775807 ∧ n ≤ c := by
    obtain ⟨fuel, hf⟩ := h1
    obtain ⟨A, n, c, zs, hcs, hr⟩ := ints_of_open hf
    subst hv1
    simp [Value.cells] at hcs
    obtain ⟨rfl, rfl, rfl⟩ := hcs
    exact ⟨_, _, _, zs, rfl, hr⟩
  obtain ⟨B2, l2, d'2, hv2⟩ := okWide_slice Try.underlying38 (hval 2 38 v2 rfl rfl)
  have k2 := h2
  have lt2 : ∀ x ∈ p2, x.block < W.heap.size := by obtain ⟨m, hm⟩ := k2; exact DataW.trod_lt m _ _ _ hm
  obtain ⟨A2, n2, c2, z2, rfl, b2, m2, e2, s2⟩ : ∃ (A : Option Addr) (n c : Nat) (zs : List Bp.Rnd), v2 = .slice A n c ∧ RoundsV W W.heap.size A n zs ∧ n ≤ 9223372036854775807 ∧ n ≤ c ∧ ∀ k, (zs.getD k default).1.length ≤ 9223372036854775807 := by
    obtain ⟨fuel, hf⟩ := h2
    obtain ⟨A, n, c, zs, hcs, hr⟩ := rounds_of_open hf
    subst hv2
    simp [Value.cells] at hcs
    obtain ⟨rfl, rfl, rfl⟩ := hcs
    exact ⟨_, _, _, zs, rfl, hr⟩
  clear hA0 hval0
  refine (lawRunoffCheck_any A0 n0 c0 z0 A1 n1 c1 z1 A2 n2 c2 z2 W b0 m0 e0 s0 b1 m1 e1 b2 m2 e2 s2).mono fun e W' ⟨he, bel⟩ => ?_
  subst he
  exact ⟨_, rfl, _, _, _, [], _, [], hW', trodAll_mk1 (shut_bool Try.underlying4 _), (trodAll_cons_mk (Below.trod laidOut (by kernel_rfl) (of_decide_eq_true (by kernel_rfl)) k0 bel lt0) (trodAll_cons_mk (Below.trod laidOut (by kernel_rfl) (of_decide_eq_true (by kernel_rfl)) k1 bel lt1) (trodAll_cons_mk (Below.trod laidOut (by kernel_rfl) (of_decide_eq_true (by kernel_rfl)) k2 bel lt2) trodAll_mk0))), rfl, bel.frame _, fun h => by cases h⟩

theorem over : Rows.fnExactRunoffCheckRow.holds Try.pinned (OpenSpec.ofChange Rows.fnExactRunoffCheckSpec) :=
  OpenClaim.holds_of_wide 4 Try.f4 rfl rfl rfl rfl rfl rfl rfl ⟨rfl, rfl, rfl, rfl, rfl⟩ rfl rfl rfl rfl rfl (by kernel_rfl) Try.func4 (by kernel_rfl)
    (of_decide_eq_true (by kernel_rfl)) (by unfold Func.isWrapper; first | (rw [if_pos (by decide +kernel)]; kernel_rfl) | (rw [if_neg (by decide +kernel)]; exact ⟨rfl, rfl⟩))
    (fun os started H enc _ => lifted os started H enc)

theorem proved : Rows.FnExactRunoffCheckSaid := over
#print axioms proved
end Go.Proofs.Ytleceoplfboefaa.fnExactRunoffCheck
