/-
  Marks and copies, said of memory of the call's own: which blocks turn.
-/
import Derived.Test.YtiglkajafdecgaaLawKit
import Derived.Test.YtiglkajafdecgaaCountRes
namespace Go.Proofs.Ytiglkajafdecgaa
set_option linter.unusedVariables false
open Go.RowKit

/-- of what lay in w, only a block from lo on and before hi has turned -/
def Within (lo hi : Nat) (w w' : World) : Prop := ∃ row, w.grownBy w' row ∧ ∀ g, row = some g → lo ≤ g ∧ g < hi
theorem Within.below {lo hi : Nat} {w w' : World} (h : Within lo hi w w') (hl : lo ≤ w.heap.size) : Below lo w w' := by
  obtain ⟨row, hg, hr⟩ := h
  refine ⟨hg.os, hg.tape, hg.output, hg.size, fun i hi => hg.block i (by omega) ?_⟩
  cases row with
  | none => simp
  | some g => have := hr g rfl; simp; omega
theorem own_within {lo hi base : Nat} {w w' : World} {e : TypeId} {sz : Nat} {v : Value} {n : Nat} {xs : List Value} (h : w.ownsRow base e sz v n xs) (hi' : hi ≤ base) (hw : Within lo hi w w') : w'.ownsRow base e sz v n xs := by
  obtain ⟨row, hg, hr⟩ := hw
  refine h.kept hg ?_
  rcases h.2 with ⟨rfl, _⟩ | ⟨g, cap, cur, rfl, hb, _⟩
  · exact .inl rfl
  · refine .inr ?_
    cases row with
    | none => simp [Value.ownBlock]
    | some g' => have := hr g' rfl; simp [Value.ownBlock]; omega

theorem Own.within {lo hi base : Nat} {w w' : World} {v : Value} {n : Nat} {zs : List Int} (h : Own w base v n zs) (hi' : hi ≤ base) (hw : Within lo hi w w') : Own w' base v n zs := own_within h hi' hw
theorem OwnP.within {lo hi base : Nat} {w w' : World} {v : Value} {n : Nat} {ps : List (ByteArray × Int)} (h : OwnP w base v n ps) (hi' : hi ≤ base) (hw : Within lo hi w w') : OwnP w' base v n ps := own_within h hi' hw
theorem PilesR.mono {w : World} {B B' n : Nat} {A : Option Addr} {ps : List (ByteArray × Int)} (h : PilesR w B A n ps) (hB : B ≤ B') : PilesR w B' A n ps := ⟨h.1, fun hn => by
  obtain ⟨g, o, e, hl, hc⟩ := h.2 hn
  exact ⟨g, o, e, by omega, hc⟩⟩

theorem own_lt {w : World} {base : Nat} {e : TypeId} {sz : Nat} {A : Option Addr} {n m c : Nat} {xs : List Value} (h : w.ownsRow base e sz (.slice A n c) m xs) : ∀ g, A = some ⟨g, 0, none⟩ → g < w.heap.size := fun g hg => (h.lt g (by rw [hg]; rfl)).2

theorem markIntS_own (A : Option Addr) (base hi n c : Nat) (xs : List Int) (k : Int) (w : World) (h : Own w base (.slice A n c) n xs) (hA : ∀ g, A = some ⟨g, 0, none⟩ → g < hi) (hn : n ≤ 1048576) (hk0 : 0 ≤ k) (hk1 : k ≤ 1073741824) :
    Calls Try.prog 18 #[.slice A n c, .int .i64 k] w fun e w' => e = .returned (.int .i64 (k + n)) ∧ Own w' base (.slice A n c) n (marks k n) ∧ Within base hi w w' := by
  have h' := h
  rcases h'.2 with ⟨hv, h0⟩ | ⟨g, cap, cur, hv, hb, _⟩
  · injection hv with h1 h2 h3
    subst h1; subst h2; subst h3
    go_enter Try.func18, Try.ntmps18
    go_wp2
    go_loopw [1, 5] (fun q i wr => i = .int .i64 0 ∧ q = .int .i64 k ∧ Drawn w wr) (fun _ _ _ => 0)
    case atStart => exact ⟨rfl, rfl, Drawn.refl _⟩
    case round =>
      obtain ⟨rfl, rfl, hd⟩ := hrel
      go_wp2
      go_ret
      refine ⟨by simp, Own.nil _ _, none, ?_, fun g hg => by cases hg⟩
      obtain ⟨m, rfl⟩ := hd
      exact only_drewN (World.grownBy.refl _ _) m
  · injection hv with h1 h2 h3
    subst h1; subst h3
    have hlt := hA g rfl
    refine (markIntS_any g n _ xs k w ?_ hn hk0 hk1).mono ?_
    · refine ⟨h.1, ?_⟩
      rcases h.2 with ⟨hv, _⟩ | ⟨g', cap', cur', hv', hb', hrest⟩
      · cases hv
      · injection hv' with h1 h2 h3
        injection h1 with h1
        injection h1 with h1
        subst h1; subst h3
        exact .inr ⟨g, _, cur', rfl, Nat.le_refl _, hrest⟩
    · rintro e w' ⟨rfl, hown, hg⟩
      exact ⟨rfl, hown.base hb, some g, hg, fun g' hg' => by injection hg' with hg'; subst hg'; exact ⟨hb, hlt⟩⟩

theorem markPileS_own (A : Option Addr) (base hi n c : Nat) (ps : List (ByteArray × Int)) (k : Int) (w : World) (h : OwnP w base (.slice A n c) n ps) (hA : ∀ g, A = some ⟨g, 0, none⟩ → g < hi) (hn : n ≤ 1048576) (hk0 : 0 ≤ k) (hk1 : k ≤ 1048576) :
    Calls Try.prog 17 #[.slice A n c, .int .i64 k] w fun e w' => e = .returned (.int .i64 (k + 2 * n)) ∧ Within base hi w w' := by
  have h' := h
  rcases h'.2 with ⟨hv, h0⟩ | ⟨g, cap, cur, hv, hb, _⟩
  · injection hv with h1 h2 h3
    subst h1; subst h2; subst h3
    go_enter Try.func17, Try.ntmps17
    go_wp2
    go_loopw [1, 5] (fun q i wr => i = .int .i64 0 ∧ q = .int .i64 k ∧ Drawn w wr) (fun _ _ _ => 0)
    case atStart => exact ⟨rfl, rfl, Drawn.refl _⟩
    case round =>
      obtain ⟨rfl, rfl, hd⟩ := hrel
      go_wp2
      go_ret
      refine ⟨by simp, none, ?_, fun g hg => by cases hg⟩
      obtain ⟨m, rfl⟩ := hd
      exact only_drewN (World.grownBy.refl _ _) m
  · injection hv with h1 h2 h3
    subst h1; subst h3
    have hlt := hA g rfl
    refine (markPileS_any g n _ ps k w ?_ hn hk0 hk1).mono ?_
    · refine ⟨h.1, ?_⟩
      rcases h.2 with ⟨hv, _⟩ | ⟨g', cap', cur', hv', hb', hrest⟩
      · cases hv
      · injection hv' with h1 h2 h3
        injection h1 with h1
        injection h1 with h1
        subst h1; subst h3
        exact .inr ⟨g, _, cur', rfl, Nat.le_refl _, hrest⟩
    · rintro e w' ⟨rfl, hg⟩
      exact ⟨rfl, some g, hg, fun g' hg' => by injection hg' with hg'; subst hg'; exact ⟨hb, hlt⟩⟩
end Go.Proofs.Ytiglkajafdecgaa
