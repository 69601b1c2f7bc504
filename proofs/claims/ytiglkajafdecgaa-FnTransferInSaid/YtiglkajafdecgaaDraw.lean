/-
  The reader of a code: l6Open, pick. What a reader is good for: it reads bytes that lie below its own block.
-/
import Derived.Test.YtiglkajafdecgaaSmall
import Derived.Deep.QuietTactic
import Derived.BigQuiet
import Derived.Laws.BitsAllLaws
import Derived.Laws.BitsLemmas
namespace Go.Proofs.Ytiglkajafdecgaa
set_option linter.unusedVariables false
open Go.RowKit

/-- a slice of bytes that reads below block B -/
def Bytes (w : World) (B : Nat) (A : Option Addr) (n : Nat) : Prop :=
  0 < n → ∃ b o, A = some ⟨b, o, none⟩ ∧ b < B ∧ ∀ k, k < n → ∃ z : Nat, z ≤ 255 ∧ w.cell? ⟨b, o + k, none⟩ = some (.int .u8 (z : Int))
/-- block g is a reader that has picked p times -/
def RdAt (w : World) (g : Nat) (p : Nat) : Prop :=
  ∃ A n c, w.cell? ⟨g, 0, none⟩ = some (.slice A n c) ∧ w.cell? ⟨g, 1, none⟩ = some (.int .i64 (p : Int)) ∧ w.frozen? ⟨g, 1, none⟩ = false ∧ n ≤ 2000 ∧ Bytes w g A n
theorem Bytes.below {w w' : World} {B : Nat} {A : Option Addr} {n : Nat} (h : Bytes w B A n) (hb : Below B w w') : Bytes w' B A n := fun hn => by
  obtain ⟨b, o, e, hl, hc⟩ := h hn
  exact ⟨b, o, e, hl, fun k hk => by
    obtain ⟨z, hz, h1⟩ := hc k hk
    exact ⟨z, hz, (hb.cell (p := ⟨b, o + k, none⟩) hl).trans h1⟩⟩
theorem RdAt.below {w w' : World} {B g p : Nat} (h : RdAt w g p) (hb : Below B w w') (hg : g < B) : RdAt w' g p := by
  obtain ⟨A, n, c, h1, h2, h3, h4, h5⟩ := h
  exact ⟨A, n, c, (hb.cell (p := ⟨g, 0, none⟩) hg).trans h1, (hb.cell (p := ⟨g, 1, none⟩) hg).trans h2, (hb.frozen (p := ⟨g, 1, none⟩) hg).trans h3, h4, h5.below (hb.mono (by omega))⟩
theorem RdAt.lt {w : World} {g p : Nat} (h : RdAt w g p) : g < w.heap.size := by
  obtain ⟨A, n, c, h1, _⟩ := h
  exact lt_of_cell h1
theorem RdAt.alloc {w : World} {g p : Nat} (h : RdAt w g p) (o : Obj) : RdAt (w.alloc o) g p := h.below ((Below.refl w.heap.size w).alloc (Nat.le_refl _) o) h.lt
theorem ofInt_i64 (a : Nat) (ha : a < 9223372036854775808) : (BitVec.ofInt 64 (a : Int)).toNat = a := by
  rw [BitVec.ofInt_natCast, BitVec.toNat_ofNat]; exact Nat.mod_eq_of_lt (by omega)
theorem xor_nonneg (a b : Int) (ha : 0 ≤ a) (ha' : a < 9223372036854775808) (hb : 0 ≤ b) (hb' : b < 9223372036854775808) : 0 ≤ bits .xor .i64 a b := by
  obtain ⟨a, rfl⟩ := Int.eq_ofNat_of_zero_le ha
  obtain ⟨b, rfl⟩ := Int.eq_ofNat_of_zero_le hb
  have hx : a ^^^ b < 2 ^ 63 := Nat.xor_lt_two_pow (by omega) (by omega)
  show 0 ≤ IntKind.i64.wrap ((BitVec.ofInt 64 (a : Int) ^^^ BitVec.ofInt 64 (b : Int)).toNat : Int)
  rw [BitVec.toNat_xor, ofInt_i64 a (by omega), ofInt_i64 b (by omega), IntKind.wrap_i64]
  omega

/-- what a pick of n leaves -/
def Picked (w : World) (g p : Nat) (n : Int) (e : Ending) (w' : World) : Prop :=
  ∃ k : Int, e = .returned (.int .i64 k) ∧ 0 ≤ k ∧ (1 ≤ n → k < n) ∧ (n < 1 → k = 0) ∧ w.grownBy w' (some g) ∧ RdAt w' g (p + 1)
theorem picked_of {w wx : World} {g p : Nat} {n k : Int} {A : Option Addr} {m c : Nat} (h0 : w.cell? ⟨g, 0, none⟩ = some (.slice A m c)) (h1 : w.cell? ⟨g, 1, none⟩ = some (.int .i64 (p : Int))) (hf : w.frozen? ⟨g, 1, none⟩ = false) (hm : m ≤ 2000) (hB : Bytes w g A m)
    (hw : ∃ nq, wx = (w.setCell ⟨g, 1, none⟩ (.int .i64 ((p : Int) + 1))).drewN nq) (hk : 0 ≤ k) (hk1 : 1 ≤ n → k < n) (hk2 : n < 1 → k = 0) : Picked w g p n (.returned (.int .i64 k)) wx := by
  obtain ⟨nq, rfl⟩ := hw
  have hg : w.grownBy (w.setCell ⟨g, 1, none⟩ (.int .i64 ((p : Int) + 1))) (some g) := only_setCell (World.grownBy.refl _ _) (.inl rfl) _
  have hlt : g < w.heap.size := lt_of_cell h0
  refine ⟨k, rfl, hk, hk1, hk2, only_drewN hg _, A, m, c, ?_, ?_, ?_, hm, ?_⟩
  · show (w.setCell _ _).cell? _ = _
    rw [World.cell?_setCell_other _ _ _ _ (by simp)]; exact h0
  · show (w.setCell _ _).cell? _ = _
    rw [World.cell?_setCell_same _ _ _ h1]; simp
  · show (w.setCell _ _).frozen? _ = _
    simp [go_sem, hf]
  · refine hB.below ?_
    rcases only_below (only_drewN hg nq) with hb | hb
    · exact hb
    · omega

/-- what a pick of n leaves, the world written out -/
def PickedX (w : World) (g p : Nat) (n : Int) (e : Ending) (w' : World) : Prop :=
  ∃ (k : Int) (nq : Nat), e = .returned (.int .i64 k) ∧ 0 ≤ k ∧ (1 ≤ n → k < n) ∧ (n < 1 → k = 0) ∧ w' = (w.setCell ⟨g, 1, none⟩ (.int .i64 ((p : Int) + 1))).drewN nq
theorem pickedX_of {w wx : World} {g p : Nat} {n k : Int} (hw : ∃ nq, wx = (w.setCell ⟨g, 1, none⟩ (.int .i64 ((p : Int) + 1))).drewN nq) (hk : 0 ≤ k) (hk1 : 1 ≤ n → k < n) (hk2 : n < 1 → k = 0) : PickedX w g p n (.returned (.int .i64 k)) wx := by
  obtain ⟨nq, rfl⟩ := hw
  exact ⟨k, nq, rfl, hk, hk1, hk2, rfl⟩
theorem RdAt.drewN {w : World} {g p : Nat} (h : RdAt w g p) (n : Nat) : RdAt (w.drewN n) g p := h
theorem RdAt.drew {w : World} {g p : Nat} (h : RdAt w g p) : RdAt w.drew g p := h
theorem RdAt.set {w : World} {g p : Nat} (h : RdAt w g p) (q : Int) (hq : 0 ≤ q) : RdAt (w.setCell ⟨g, 1, none⟩ (.int .i64 q)) g q.toNat := by
  obtain ⟨A, m, c, h0, h1, hf, hm, hB⟩ := h
  refine ⟨A, m, c, ?_, ?_, ?_, hm, ?_⟩
  · rw [World.cell?_setCell_other _ _ _ _ (by simp)]; exact h0
  · rw [World.cell?_setCell_same _ _ _ h1]
    congr 2
    omega
  · simp [go_sem, hf]
  · refine hB.below ?_
    have hlt : g < w.heap.size := lt_of_cell h0
    rcases only_below (only_setCell (World.grownBy.refl w (some g)) (p := ⟨g, 1, none⟩) (.inl rfl) (.int .i64 q)) with hb | hb
    · exact hb
    · exact absurd hlt (by omega)

set_option maxRecDepth 100000 in
set_option maxHeartbeats 400000 in
theorem pick_exact (g p : Nat) (n : Int) (w : World) (h : RdAt w g p) (hp : p ≤ 1000000000) :
    Calls Try.prog 59 #[.pointer (some ⟨g, 0, none⟩), .int .i64 n] w (PickedX w g p n) := by
  obtain ⟨A, m, c, h0, h1, hf, hm, hB⟩ := h
  by_cases hn : n < 1
  · go_enter Try.func59, Try.ntmps59
    go_wp2
    go_ret
    exact pickedX_of ⟨0, rfl⟩ (by omega) (by omega) (by omega)
  by_cases hm0 : m = 0
  · subst hm0
    go_enter Try.func59, Try.ntmps59
    go_wp2
    go_ret
    exact pickedX_of ⟨0, rfl⟩ (by omega) (by omega) (by omega)
  obtain ⟨b, o, rfl, hbg, hc⟩ := hB (by omega)
  have hnb : ¬ g = b := by omega
  by_cases hpm : p < m
  · obtain ⟨z, hz, hcz⟩ := hc p hpm
    go_enter Try.func59, Try.ntmps59
    go_wp2
    go_ret
    exact pickedX_of ⟨0, rfl⟩ (Int.emod_nonneg _ (by omega)) (fun _ => Int.emod_lt_of_pos _ (by omega)) (by omega)
  · obtain ⟨q1, e1, hi1⟩ : ∃ q1 : Nat, (p : Int) % (m : Int) = (q1 : Int) ∧ q1 < m := ⟨p % m, by simp, Nat.mod_lt _ (by omega)⟩
    obtain ⟨q2, e2, hi2⟩ : ∃ q2 : Nat, ((p : Int) * 7 + 3) % (m : Int) = (q2 : Int) ∧ q2 < m := ⟨(p * 7 + 3) % m, by simp, Nat.mod_lt _ (by omega)⟩
    obtain ⟨q3, e3, hd1⟩ : ∃ q3 : Nat, (p : Int) / (m : Int) = (q3 : Int) ∧ q3 ≤ p := ⟨p / m, by simp, Nat.div_le_self _ _⟩
    obtain ⟨z1, hz1, hc1⟩ := hc _ hi1
    obtain ⟨z2, hz2, hc2⟩ := hc _ hi2
    clear hc
    go_enter Try.func59, Try.ntmps59
    go_wp2
    go_quiet (fail)
    go_wp2
    go_ret
    have hx := xor_nonneg ((z1 : Int) * 131 + (z2 : Int) * 1117 + (p : Int) * 29 + (q3 : Int) * 53) (((z1 : Int) * 131 + (z2 : Int) * 1117 + (p : Int) * 29 + (q3 : Int) * 53) / 64) (by omega) (by omega) (by omega) (by omega)
    exact pickedX_of ⟨nq, rfl⟩ (Int.tmod_nonneg _ hx) (fun _ => Int.tmod_lt_of_pos _ (by omega)) (by omega)

theorem pick_any (g p : Nat) (n : Int) (w : World) (h : RdAt w g p) (hp : p ≤ 1000000000) :
    Calls Try.prog 59 #[.pointer (some ⟨g, 0, none⟩), .int .i64 n] w (Picked w g p n) :=
  (pick_exact g p n w h hp).mono fun e w' ⟨k, nq, he, hk, hk1, hk2, hw⟩ => by
    obtain ⟨A, m, c, h0, h1, hf, hm, hB⟩ := h
    subst he
    exact picked_of h0 h1 hf hm hB ⟨nq, hw⟩ hk hk1 hk2

/-- a reader that has picked at most b times -/
def RdLe (w : World) (g b : Nat) : Prop := ∃ p, p ≤ b ∧ RdAt w g p
theorem RdLe.lt {w : World} {g b : Nat} (h : RdLe w g b) : g < w.heap.size := by
  obtain ⟨p, _, h⟩ := h
  exact h.lt
theorem RdLe.mono {w : World} {g b b' : Nat} (h : RdLe w g b) (hb : b ≤ b') : RdLe w g b' := by
  obtain ⟨p, hp, h⟩ := h
  exact ⟨p, by omega, h⟩
theorem RdLe.below {w w' : World} {B g b : Nat} (h : RdLe w g b) (hb : Below B w w') (hg : g < B) : RdLe w' g b := by
  obtain ⟨p, hp, h⟩ := h
  exact ⟨p, hp, h.below hb hg⟩
theorem RdLe.alloc {w : World} {g b : Nat} (h : RdLe w g b) (o : Obj) : RdLe (w.alloc o) g b := by
  obtain ⟨p, hp, h⟩ := h
  exact ⟨p, hp, h.alloc o⟩
theorem RdLe.drewN {w : World} {g b : Nat} (h : RdLe w g b) (n : Nat) : RdLe (w.drewN n) g b := h
theorem RdLe.drew {w : World} {g b : Nat} (h : RdLe w g b) : RdLe w.drew g b := h
theorem RdLe.set {w : World} {g b b' : Nat} (h : RdLe w g b) (q : Int) (hq : 0 ≤ q) (hb : q ≤ b') : RdLe (w.setCell ⟨g, 1, none⟩ (.int .i64 q)) g b' := by
  obtain ⟨p, _, h⟩ := h
  exact ⟨q.toNat, by omega, h.set q hq⟩
theorem RdLe.far {w : World} {g b : Nat} (h : RdLe w g b) {p : Addr} (hp : g < p.block) (u : Value) : RdLe (w.setCell p u) g b :=
  h.below ((Below.refl (g + 1) w).setCell (by omega) u) (by omega)
theorem RdLe.keep {w w' : World} {g b : Nat} (h : RdLe w g b) (hb : Below w.heap.size w w') : RdLe w' g b := h.below hb h.lt
/-- what a pick of n leaves: the world written out but for the count -/
def PickedL (w : World) (g b : Nat) (n : Int) (e : Ending) (w' : World) : Prop :=
  ∃ (k q : Int) (nq : Nat), e = .returned (.int .i64 k) ∧ 0 ≤ k ∧ (1 ≤ n → k < n) ∧ (n < 1 → k = 0) ∧ 0 ≤ q ∧ q ≤ b + 1 ∧ w' = (w.setCell ⟨g, 1, none⟩ (.int .i64 q)).drewN nq
theorem pick_le (g b : Nat) (n : Int) (w : World) (h : RdLe w g b) (hp : b ≤ 1000000000) :
    Calls Try.prog 59 #[.pointer (some ⟨g, 0, none⟩), .int .i64 n] w (PickedL w g b n) := by
  obtain ⟨p, hpb, h⟩ := h
  exact (pick_exact g p n w h (by omega)).mono fun e w' ⟨k, nq, he, hk, hk1, hk2, hw⟩ => ⟨k, _, nq, he, hk, hk1, hk2, by omega, by omega, hw⟩
/-- what a pick leaves, said of frames -/
def PickedB (w : World) (g b : Nat) (n : Int) (e : Ending) (w' : World) : Prop :=
  ∃ k : Int, e = .returned (.int .i64 k) ∧ 0 ≤ k ∧ (1 ≤ n → k < n) ∧ (n < 1 → k = 0) ∧ w.grownBy w' (some g) ∧ RdLe w' g (b + 1)
theorem pick_b (g b : Nat) (n : Int) (w : World) (h : RdLe w g b) (hp : b ≤ 1000000000) :
    Calls Try.prog 59 #[.pointer (some ⟨g, 0, none⟩), .int .i64 n] w (PickedB w g b n) := by
  obtain ⟨p, hpb, h⟩ := h
  exact (pick_any g p n w h (by omega)).mono fun e w' ⟨k, he, hk, hk1, hk2, hg, hr⟩ => ⟨k, he, hk, hk1, hk2, hg, p + 1, by omega, hr⟩

/-- what l6Open leaves: a new reader -/
def Opened (w : World) (e : Ending) (w' : World) : Prop := ∃ g, e = .returned (.pointer (some ⟨g, 0, none⟩)) ∧ w.heap.size ≤ g ∧ g < w'.heap.size ∧ RdAt w' g 0 ∧ Below w.heap.size w w'
set_option maxRecDepth 100000 in
set_option maxHeartbeats 400000 in
theorem l6Open_any (A : Option Addr) (n c : Nat) (w : World) (h : Bytes w w.heap.size A n) (hn : n ≤ 9223372036854775807) (hc : n ≤ c) :
    Calls Try.prog 40 #[.slice A n c] w (Opened w) := by
  by_cases hb : 2000 < n
  · have hA : Bytes w w.heap.size A 2000 := fun _ => by
      obtain ⟨b, o, e, hl, hc⟩ := h (by omega)
      exact ⟨b, o, e, hl, fun k hk => hc k (by omega)⟩
    go_enter Try.func40, Try.ntmps40
    go_wp2
    go_ret
    refine ⟨w.heap.size, rfl, Nat.le_refl _, by simp, ⟨_, _, _, by simp [go_sem]; rfl, by simp [go_sem], by simp [go_sem], by omega, hA.below ((Below.refl _ _).alloc (Nat.le_refl _) _)⟩, (by repeat (first | exact Below.refl _ _ | assumption | refine below_drewN ?_ _ | refine Below.drew ?_ | refine Below.alloc ?_ (by first | exact Nat.le_refl _ | omega | (simp; done) | (simp; omega)) _ | refine Below.setCell ?_ (by first | exact Nat.le_refl _ | omega | (simp; done) | (simp; omega)) _))⟩
  · go_enter Try.func40, Try.ntmps40
    go_wp2
    go_ret
    refine ⟨w.heap.size, rfl, Nat.le_refl _, by simp, ⟨_, _, _, by simp [go_sem]; rfl, by simp [go_sem], by simp [go_sem], by omega, h.below ((Below.refl _ _).alloc (Nat.le_refl _) _)⟩, (by repeat (first | exact Below.refl _ _ | assumption | refine below_drewN ?_ _ | refine Below.drew ?_ | refine Below.alloc ?_ (by first | exact Nat.le_refl _ | omega | (simp; done) | (simp; omega)) _ | refine Below.setCell ?_ (by first | exact Nat.le_refl _ | omega | (simp; done) | (simp; omega)) _))⟩
end Go.Proofs.Ytiglkajafdecgaa
