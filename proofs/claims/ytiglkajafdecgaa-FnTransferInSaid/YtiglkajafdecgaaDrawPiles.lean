/-
  Drawn piles and drawn truths: some of the call's own.
-/
import Derived.Test.YtiglkajafdecgaaDrawBallot
namespace Go.Proofs.Ytiglkajafdecgaa
set_option linter.unusedVariables false
open Go.RowKit

/-- drawn truths of the call's own -/
def DrawnTruths (m : Nat) (w : World) (g b : Nat) (e : Ending) (w' : World) : Prop :=
  ∃ (A : Option Addr) (n c : Nat) (zs : List Bool), e = .returned (.slice A n c) ∧ n ≤ c ∧ n ≤ m ∧ OwnB w' w.heap.size (.slice A n c) n zs ∧ w.grownBy w' (some g) ∧ RdLe w' g b

/-- what the reference's PilesAdd leaves: where it answers yes, piles of the call's own -/
def AddP (n : Nat) (w : World) (e : Ending) (w' : World) : Prop :=
  ∃ (A : Option Addr) (n' c' : Nat) (k : Bool), e = .returned (.tuple #[.slice A n' c', .bool k]) ∧
    (k = true → ∃ (g' : Nat) (ps : List (ByteArray × Int)), A = some ⟨g', 0, none⟩ ∧ n' ≤ c' ∧ n' ≤ n + 1 ∧ (∀ p ∈ ps, p.1.size ≤ 1048576) ∧ Bp.psval ps = true ∧ OwnP w' w.heap.size (.slice A n' c') n' ps) ∧ Below w.heap.size w w'
set_option maxRecDepth 100000 in
set_option maxHeartbeats 400000 in
theorem sPilesAdd_some (g n c : Nat) (ps : List Bp.Pile) (s : ByteArray) (m : Int) (w : World) (h : Piles w w.heap.size (some ⟨g, 0, none⟩) n ps) (hn : n ≤ 1000) (hnc : n ≤ c) (hs : s.size ≤ 1048576) :
    Calls Try.prog 60 #[.slice (some ⟨g, 0, none⟩) n c, .string s, .int .i64 m] w (AddP n w) := by
  cases hv : Bp.psval ps
  · go_enter Try.func60, Try.ntmps60
    go_wp2_with fail
    refine (sPilesValid_any _ n c ps _ h (by omega)).mono ?_
    rintro e w1 ⟨rfl, hb1⟩
    have hs1 := hb1.size
    go_wp2_with fail
    go_ret2
    exact ⟨_, 0, 0, false, rfl, (fun h => by cases h), (by repeat (first | exact Below.refl _ _ | assumption | refine below_drewN ?_ _ | refine Below.drew ?_ | refine Below.alloc ?_ (by first | exact Nat.le_refl _ | omega | (simp; done) | (simp; omega)) _ | refine Below.setCell ?_ (by first | exact Nat.le_refl _ | omega | (simp; done) | (simp; omega)) _))⟩
  have Hv := Lib.hid hv
  cases hp : Bp.pval (s, m)
  · go_enter Try.func60, Try.ntmps60
    go_wp2_with fail
    refine (sPilesValid_any _ n c ps _ h (by omega)).mono ?_
    rintro e w1 ⟨rfl, hb1⟩
    have hs1 := hb1.size
    go_wp2_with fail
    refine (l3Pile_any s m _ hs).mono ?_
    rintro e w2 ⟨rfl, hb2⟩
    have hs2 := hb2.size
    have hB2 := hb1.trans (hb2.mono hs1)
    go_wp2_with fail
    go_ret2
    exact ⟨_, 0, 0, false, rfl, (fun h => by cases h), (by repeat (first | exact Below.refl _ _ | assumption | refine below_drewN ?_ _ | refine Below.drew ?_ | refine Below.alloc ?_ (by first | exact Nat.le_refl _ | omega | (simp; done) | (simp; omega)) _ | refine Below.setCell ?_ (by first | exact Nat.le_refl _ | omega | (simp; done) | (simp; omega)) _))⟩
  · have hm := (Bp.pval_iff _).1 hp
    have hm1 : 1 ≤ m := hm.2.1
    have hm2 : m ≤ 99 := hm.2.2
    clear hm
    go_enter Try.func60, Try.ntmps60
    go_wp2_with fail
    refine (sPilesValid_any _ n c ps _ h (by omega)).mono ?_
    rintro e w1 ⟨rfl, hb1⟩
    have hs1 := hb1.size
    go_wp2_with fail
    refine (l3Pile_any s m _ hs).mono ?_
    rintro e w2 ⟨rfl, hb2⟩
    have hs2 := hb2.size
    have hB2 := hb1.trans (hb2.mono hs1)
    go_wp2_with fail
    refine (l3Put_some g n c ps s m _ ((h.below hB2).mono (by omega)) hn hnc hs (by omega) (by omega) Hv.out).mono ?_
    rintro e w3 ⟨g', n', c', qs, rfl, hn', hc', hq, hown, hb3⟩
    have hs3 := hb3.size
    have hB3 := hB2.trans (hb3.mono (by omega))
    have hview := hown.piles.fine hq
    clear hv hp
    cases hv' : Bp.psval qs
    · go_wp2_with fail
      refine (sPilesValid_any _ n' c' qs _ hview (by omega)).mono ?_
      rintro e w4 ⟨rfl, hb4⟩
      have hs4 := hb4.size
      have hB4 := hB3.trans (hb4.mono (by omega))
      go_wp2_with fail
      go_ret2
      exact ⟨_, 0, 0, false, rfl, (fun h => by cases h), (by repeat (first | exact Below.refl _ _ | assumption | refine below_drewN ?_ _ | refine Below.drew ?_ | refine Below.alloc ?_ (by first | exact Nat.le_refl _ | omega | (simp; done) | (simp; omega)) _ | refine Below.setCell ?_ (by first | exact Nat.le_refl _ | omega | (simp; done) | (simp; omega)) _))⟩
    · go_wp2_with fail
      refine (sPilesValid_any _ n' c' qs _ hview (by omega)).mono ?_
      rintro e w4 ⟨rfl, hb4⟩
      have hs4 := hb4.size
      have hB4 := hB3.trans (hb4.mono (by omega))
      go_wp2_with fail
      go_ret2
      exact ⟨_, n', c', true, rfl, fun _ => ⟨g', qs, rfl, hc', hn', hq, hv', (hown.keep hb4).base (by omega)⟩, hB4⟩

/-- drawn piles of the call's own -/
def DrawnPiles (w : World) (g b : Nat) (e : Ending) (w' : World) : Prop :=
  ∃ (g' n c : Nat) (ps : List (ByteArray × Int)), e = .returned (.slice (some ⟨g', 0, none⟩) n c) ∧ n ≤ c ∧ n ≤ 100 ∧ (∀ p ∈ ps, p.1.size ≤ 1048576) ∧ OwnP w' w.heap.size (.slice (some ⟨g', 0, none⟩) n c) n ps ∧ w.grownBy w' (some g) ∧ RdLe w' g b
theorem own_only' {w w' : World} {base g : Nat} {e : TypeId} {sz : Nat} {v : Value} {n : Nat} {xs : List Value} (h : w.ownsRow base e sz v n xs) (hg : w.grownBy w' (some g)) (hlt : g < base) : w'.ownsRow base e sz v n xs :=
  h.kept hg (by
    rcases h.2 with ⟨rfl, _⟩ | ⟨g', cap, cur, rfl, hb, _⟩
    · exact .inl rfl
    · exact .inr (by simp [Value.ownBlock]; omega))
theorem OwnP.only {w w' : World} {base g : Nat} {v : Value} {n : Nat} {ps : List (ByteArray × Int)} (h : OwnP w base v n ps) (hg : w.grownBy w' (some g)) (hlt : g < base) : OwnP w' base v n ps := own_only' h hg hlt
theorem only_set_new {w a : World} {g gl : Nat} (h : w.grownBy a (some g)) (hgl : w.heap.size ≤ gl) {o : Nat} (u : Value) : w.grownBy (a.setCell ⟨gl, o, none⟩ u) (some g) := only_setCell h (.inr hgl) u
theorem rd_far {w : World} {g b b' gl : Nat} (h : RdLe w g b) (hg : g < gl) {o : Nat} (u : Value) (hb : b ≤ b' := by omega) : RdLe (w.setCell ⟨gl, o, none⟩ u) g b' := (h.far hg u).mono hb
theorem pset_sizes {ps : List (ByteArray × Int)} (h : ∀ p ∈ ps, p.1.size ≤ 1048576) {t : ByteArray} (ht : t.size ≤ 1048576) (k : Nat) (m : Int) : ∀ p ∈ ps.set k (t, m), p.1.size ≤ 1048576 := fun p hp => by
  rcases List.mem_or_eq_of_mem_set hp with h1 | h1
  · exact h p h1
  · subst h1; exact ht
theorem papp_sizes {ps : List (ByteArray × Int)} (h : ∀ p ∈ ps, p.1.size ≤ 1048576) {t : ByteArray} (ht : t.size ≤ 1048576) (m : Int) : ∀ p ∈ ps ++ [(t, m)], p.1.size ≤ 1048576 := fun p hp => by
  rcases List.mem_append.1 hp with h1 | h1
  · exact h p h1
  · simp only [List.mem_singleton] at h1; subst h1; exact ht
/-- one number of a pile written -/
theorem own_pset2 {w : World} {base gl k c en : Nat} {ps : List (ByteArray × Int)} {t : ByteArray} {m : Int} (h : OwnP w base (.slice (some ⟨gl, 0, none⟩) k c) k ps) (hl : en < ps.length) (hp : ps.getD en default = (t, m)) (x : Int) :
    OwnP (w.setCell ⟨gl, en * 2 + 1, none⟩ (.int .i64 x)) base (.slice (some ⟨gl, 0, none⟩) k c) k (ps.set en (t, x)) := by
  have e := pcells_set ps en t x hl
  have e2 : (pcells ps).set (en * 2) (.string t) = pcells ps := by
    have e3 := (pcells_at ps en hl).1
    rw [hp] at e3
    exact set_same_at _ _ _ e3
  rw [e2] at e
  unfold OwnP
  rw [← e]
  exact (h.row.stored (en * 2 + 1) (.int .i64 x)).1
/-- one text of a pile written -/
theorem own_pset1 {w : World} {base gl k c en : Nat} {ps : List (ByteArray × Int)} {t : ByteArray} {m : Int} (h : OwnP w base (.slice (some ⟨gl, 0, none⟩) k c) k ps) (hl : en < ps.length) (hp : ps.getD en default = (t, m)) (x : ByteArray) :
    OwnP (w.setCell ⟨gl, en * 2, none⟩ (.string x)) base (.slice (some ⟨gl, 0, none⟩) k c) k (ps.set en (x, m)) := by
  have e := pcells_set ps en x m hl
  have e2 : ((pcells ps).set (en * 2) (.string x)).set (en * 2 + 1) (.int .i64 m) = (pcells ps).set (en * 2) (.string x) := by
    apply set_same_at
    rw [List.getElem?_set_ne (by omega)]
    have e3 := (pcells_at ps en hl).2
    rw [hp] at e3
    exact e3
  rw [e2] at e
  unfold OwnP
  rw [← e]
  exact (h.row.stored (en * 2) (.string x)).1


/-- drawn piles, and drawn truths -/
def DrawnPT (w : World) (e : Ending) (w' : World) : Prop :=
  ∃ (g n c : Nat) (A : Option Addr) (m c' : Nat) (ps : List (ByteArray × Int)) (zs : List Bool), e = .returned (.tuple #[.slice (some ⟨g, 0, none⟩) n c, .slice A m c']) ∧ n ≤ c ∧ n ≤ 100 ∧ m ≤ c' ∧ m ≤ 1000 ∧
    Piles w' w'.heap.size (some ⟨g, 0, none⟩) n ps ∧ Bools w' w'.heap.size A m zs ∧ Below w.heap.size w w'
theorem drawn_below {w a b : World} {g : Nat} (h : Below w.heap.size w a) (k : a.grownBy b (some g)) (hg : w.heap.size ≤ g) : Below w.heap.size w b := h.grown k h.size (fun x hx => by cases hx; exact hg)
end Go.Proofs.Ytiglkajafdecgaa
