/-
  Fractions and steps in memory: rows of fractions, rows of steps each with counts in a row of its own; what a call may turn.
-/
import Derived.Test.YtiglkajafdecgaaTrees
import Derived.Test.YtiglkajafdecgaaTransPlain
import Derived.Test.YtiglkajafdecgaaBools
namespace Go.Proofs.Ytiglkajafdecgaa
set_option linter.unusedVariables false
open Go.RowKit

theorem frac_info : (Try.prog.info? 44).map (fun i => (i.zero, i.size, i.bytes)) = some (some (.agg #[.int .i64 0, .int .i64 0]), 2, 16) := by kernel_rfl
theorem step_info : (Try.prog.info? 47).map (fun i => (i.zero, i.size, i.bytes)) = some (some (.agg #[.slice none 0 0, .int .i64 0, .int .i64 0]), 3, 40) := by kernel_rfl
/-- of what lay in w below block B, only the blocks X have turned -/
def Kept (X : List Nat) (B : Nat) (w w' : World) : Prop := (w'.os = w.os ∧ w'.tape = w.tape ∧ w'.output = w.output ∧ w.heap.size ≤ w'.heap.size) ∧ ∀ i, i < B → i ∉ X → w'.heap[i]? = w.heap[i]?
section
variable {X : List Nat} {B : Nat} {w w1 w' : World}
theorem Kept.trans (h : Kept X B w w1) (k : Kept X B w1 w') : Kept X B w w' :=
  ⟨⟨k.1.1.trans h.1.1, k.1.2.1.trans h.1.2.1, k.1.2.2.1.trans h.1.2.2.1, Nat.le_trans h.1.2.2.2 k.1.2.2.2⟩, fun i hi hx => (k.2 i hi hx).trans (h.2 i hi hx)⟩
theorem Kept.less {B' : Nat} (h : Kept X B w w') (hB : B' ≤ B) : Kept X B' w w' := ⟨h.1, fun i hi hx => h.2 i (by omega) hx⟩
theorem Kept.more {Y : List Nat} (h : Kept X B w w') (hX : ∀ x ∈ X, x ∈ Y) : Kept Y B w w' := ⟨h.1, fun i hi hx => h.2 i hi (fun e => hx (hX i e))⟩
theorem Below.kept (h : Below B w w') (X : List Nat) : Kept X B w w' := ⟨⟨h.os, h.tape, h.output, h.size⟩, fun i hi _ => h.block i hi⟩
theorem grownBy_kept {g : Nat} (h : w.grownBy w' (some g)) (hg : g ∈ X) (hB : B ≤ w.heap.size) : Kept X B w w' :=
  ⟨⟨h.os, h.tape, h.output, h.size⟩, fun i hi hx => h.block i (by omega) (fun e => by injection e with e; subst e; exact hx hg)⟩
theorem Kept.below (h : Kept X B w w') (hX : ∀ x ∈ X, B ≤ x) : Below B w w' :=
  ⟨h.1.1, h.1.2.1, h.1.2.2.1, h.1.2.2.2, fun i hi => h.2 i hi (fun e => by have := hX i e; omega)⟩
theorem Kept.cell (h : Kept X B w w') {a : Addr} (ha : a.block < B) (hx : a.block ∉ X) : w'.cell? a = w.cell? a := World.cell?_of_block (h.2 _ ha hx)
theorem Kept.frozen (h : Kept X B w w') {a : Addr} (ha : a.block < B) (hx : a.block ∉ X) : w'.frozen? a = w.frozen? a := World.frozen?_of_block (h.2 _ ha hx)
theorem own_kept {base : Nat} {e : TypeId} {sz : Nat} {v : Value} {n : Nat} {xs : List Value} (h : w.ownsRow base e sz v n xs) (hk : Kept X B w w') (hx : ∀ g, v.ownBlock = some g → g < B ∧ g ∉ X) : w'.ownsRow base e sz v n xs := by
  refine ⟨h.1, ?_⟩
  rcases h.2 with h2 | ⟨g, cap, cur, rfl, hb, hg, rest⟩
  · exact .inl h2
  · have := hx g rfl
    exact .inr ⟨g, cap, cur, rfl, hb, by rw [hk.2 g this.1 this.2]; exact hg, rest⟩
end

/-- the cells of fractions -/
def fcells (l : List Bp.Fr) : List Value := l.flatMap fun p => [.int .i64 p.1, .int .i64 p.2]
theorem fcells_len : ∀ l : List Bp.Fr, (fcells l).length = l.length * 2
  | [] => rfl
  | p :: r => by
    have := fcells_len r
    simp only [fcells, List.flatMap_cons, List.length_append, List.length_cons, List.length_nil] at *
    omega
theorem fcells_append (a b : List Bp.Fr) : fcells (a ++ b) = fcells a ++ fcells b := by simp [fcells]
theorem fcells_at : ∀ (l : List Bp.Fr) (k : Nat), k < l.length → (fcells l)[k * 2]? = some (.int .i64 (l.getD k default).1) ∧ (fcells l)[k * 2 + 1]? = some (.int .i64 (l.getD k default).2)
  | [], k, h => absurd h (by simp)
  | p :: r, 0, _ => ⟨rfl, rfl⟩
  | p :: r, k + 1, h => by
    have ih := fcells_at r k (by simpa using h)
    rw [show (k + 1) * 2 = k * 2 + 1 + 1 by omega]
    exact ih
theorem fcells_set : ∀ (l : List Bp.Fr) (k : Nat) (a b : Int), k < l.length → ((fcells l).set (k * 2) (.int .i64 a)).set (k * 2 + 1) (.int .i64 b) = fcells (l.set k (a, b))
  | [], k, _, _, h => absurd h (by simp)
  | p :: r, 0, a, b, _ => rfl
  | p :: r, k + 1, a, b, h => by
    have ih := fcells_set r k a b (by simpa using h)
    rw [show (k + 1) * 2 = k * 2 + 1 + 1 by omega]
    show _ = Value.int .i64 p.1 :: Value.int .i64 p.2 :: fcells (r.set k (a, b))
    rw [← ih]
    rfl
theorem fcells_one : ∀ (l : List Bp.Fr), ∀ v ∈ fcells l, v.oneCell' = true := by
  intro l v hv
  unfold fcells at hv
  obtain ⟨p, _, hp⟩ := List.mem_flatMap.1 hv
  rcases List.mem_cons.1 hp with rfl | hp
  · rfl
  · rw [List.mem_singleton.1 hp]; rfl
/-- a slice that reads as these fractions, below block B -/
def Fracs (w : World) (B : Nat) (A : Option Addr) (n : Nat) (fs : List Bp.Fr) : Prop :=
  fs.length = n ∧ (0 < n → ∃ g o, A = some ⟨g, o, none⟩ ∧ g < B ∧ ∀ k, k < n → w.cell? ⟨g, o + k * 2, none⟩ = some (.int .i64 (fs.getD k default).1) ∧ w.cell? ⟨g, o + k * 2 + 1, none⟩ = some (.int .i64 (fs.getD k default).2))
section
variable {w w' : World} {B B' n : Nat} {A : Option Addr} {fs : List Bp.Fr}
theorem Fracs.below (h : Fracs w B A n fs) (hb : Below B w w') : Fracs w' B A n fs := ⟨h.1, fun hn => by
  obtain ⟨g, o, e, hl, hc⟩ := h.2 hn
  exact ⟨g, o, e, hl, fun k hk => ⟨(hb.cell (p := ⟨g, o + k * 2, none⟩) hl).trans (hc k hk).1, (hb.cell (p := ⟨g, o + k * 2 + 1, none⟩) hl).trans (hc k hk).2⟩⟩⟩
theorem Fracs.mono (h : Fracs w B A n fs) (hB : B ≤ B') : Fracs w B' A n fs := ⟨h.1, fun hn => by
  obtain ⟨g, o, e, hl, hc⟩ := h.2 hn
  exact ⟨g, o, e, by omega, hc⟩⟩
theorem Fracs.drewN (h : Fracs w B A n fs) (k : Nat) : Fracs (w.drewN k) B A n fs := h
theorem Fracs.at (h : Fracs w B A n fs) {k : Nat} (hk : k < n) : ∃ g o a b, A = some ⟨g, o, none⟩ ∧ g < B ∧ w.cell? ⟨g, o + k * 2, none⟩ = some (.int .i64 a) ∧ w.cell? ⟨g, o + k * 2 + 1, none⟩ = some (.int .i64 b) ∧ Hid (fs.getD k default = (a, b)) := by
  obtain ⟨g, o, e, hl, hc⟩ := h.2 (by omega)
  exact ⟨g, o, _, _, e, hl, (hc k hk).1, (hc k hk).2, rfl⟩
end
/-- v is a slice of n fractions of the call's own -/
def OwnF (w : World) (base : Nat) (v : Value) (n : Nat) (fs : List Bp.Fr) : Prop := w.ownsRow base 44 2 v n (fcells fs)
section
variable {w w' : World} {bs n : Nat} {v : Value} {fs : List Bp.Fr}
theorem OwnF.row (h : OwnF w bs v n fs) : w.ownsRow bs 44 2 v n (fcells fs) := h
theorem OwnF.len (h : OwnF w bs v n fs) : fs.length = n := by
  have := h.1
  rw [fcells_len] at this
  omega
theorem OwnF.base {bs' : Nat} (h : OwnF w bs v n fs) (hb : bs' ≤ bs) : OwnF w bs' v n fs := own_base h hb
theorem OwnF.keep (h : OwnF w bs v n fs) (hb : Below w.heap.size w w') : OwnF w' bs v n fs := own_keep h hb
theorem OwnF.view {A : Option Addr} {c : Nat} (h : OwnF w bs (.slice A n c) n fs) : Fracs w w.heap.size A n fs := by
  refine ⟨h.len, fun hn => ?_⟩
  rcases h.2 with ⟨hv, h0⟩ | ⟨g, cap, cur, hv, _, hh, _⟩
  · omega
  · have hlt := (h.lt g (by rw [hv]; rfl)).2
    injection hv with hA hn' hc'
    subst hA
    refine ⟨g, 0, rfl, hlt, fun k hk => ?_⟩
    have hk' : k < fs.length := by rw [h.len]; exact hk
    have h1 := h.cells (g := g) rfl (k * 2) _ (fcells_at fs k hk').1
    have h2 := h.cells (g := g) rfl (k * 2 + 1) _ (fcells_at fs k hk').2
    rw [add_zero_off] at h1 h2
    simpa using ⟨h1, h2⟩
end
theorem ownF_cell {w : World} {base g n c : Nat} {fs : List Bp.Fr} (h : OwnF w base (.slice (some ⟨g, 0, none⟩) n c) n fs) (k : Nat) (hk : k < n) :
    (w.cell? ⟨g, k * 2, none⟩ = some (.int .i64 (fs.getD k default).1) ∧ w.cell? ⟨g, k * 2 + 1, none⟩ = some (.int .i64 (fs.getD k default).2)) ∧ w.frozen? ⟨g, k * 2, none⟩ = false ∧ w.frozen? ⟨g, k * 2 + 1, none⟩ = false := by
  have hk' : k < fs.length := by rw [h.len]; exact hk
  have h1 := h.cells (g := g) rfl (k * 2) _ (fcells_at fs k hk').1
  have h2 := h.cells (g := g) rfl (k * 2 + 1) _ (fcells_at fs k hk').2
  rw [add_zero_off] at h1 h2
  refine ⟨⟨h1, h2⟩, ?_⟩
  rcases h.2 with ⟨hv, _⟩ | ⟨g', cap, cur, hv, _, hh, _⟩
  · cases hv
  · injection hv with hA _ _
    injection hA with hA
    injection hA with hA
    subst hA
    exact ⟨by simp [World.frozen?, hh], by simp [World.frozen?, hh]⟩
/-- a fraction stored into a row of the call's own -/
theorem ownF_set {w : World} {base g n c : Nat} {fs : List Bp.Fr} (h : OwnF w base (.slice (some ⟨g, 0, none⟩) n c) n fs) (k : Nat) (hk : k < n) (a b : Int) :
    OwnF ((w.setCell ⟨g, k * 2, none⟩ (.int .i64 a)).setCell ⟨g, k * 2 + 1, none⟩ (.int .i64 b)) base (.slice (some ⟨g, 0, none⟩) n c) n (fs.set k (a, b)) ∧ w.grownBy ((w.setCell ⟨g, k * 2, none⟩ (.int .i64 a)).setCell ⟨g, k * 2 + 1, none⟩ (.int .i64 b)) (some g) := by
  have hl := h.len
  have h1 := h.row.stored (k * 2) (.int .i64 a)
  have h2 := World.ownsRow.stored h1.1 (k * 2 + 1) (.int .i64 b)
  refine ⟨?_, only_trans h1.2 h2.2⟩
  unfold OwnF
  rw [← fcells_set fs k a b (by omega)]
  exact h2.1
theorem made_fracs {w w1 : World} {n : Nat} (h : w1.ownsRow w.heap.size 44 2 (.slice (some ⟨w.heap.size, 0, none⟩) n n) n (madeCells (Value.agg #[.int .i64 0, .int .i64 0]).cells (n * 2)).toList) : OwnF w1 w.heap.size (.slice (some ⟨w.heap.size, 0, none⟩) n n) n (List.replicate n (0, 0)) := by
  unfold OwnF
  have e : (madeCells (Value.agg #[.int .i64 0, .int .i64 0]).cells (n * 2)).toList = fcells (List.replicate n (0, 0)) := by
    apply List.ext_getElem?
    intro j
    have hl := fcells_len (List.replicate n ((0 : Int), (0 : Int)))
    rw [List.length_replicate] at hl
    by_cases hj : j < n * 2
    · have hm : (madeCells (Value.agg #[.int .i64 0, .int .i64 0]).cells (n * 2)).toList[j]? = some ((#[Value.int .i64 0, .int .i64 0] : Array Value)[j % 2]!) := by
        simp [madeCells, hj, Value.cells]
      rw [hm]
      have hk : j / 2 < (List.replicate n ((0 : Int), (0 : Int))).length := by rw [List.length_replicate]; omega
      have ⟨h1, h2⟩ := fcells_at _ (j / 2) hk
      have hd : (List.replicate n ((0 : Int), (0 : Int))).getD (j / 2) default = (0, 0) := by
        rw [List.length_replicate] at hk
        simp [List.getD, hk]
      rw [hd] at h1 h2
      rcases (show j % 2 = 0 ∨ j % 2 = 1 by omega) with h | h
      · have : j = j / 2 * 2 := by omega
        rw [h]
        rw [← this] at h1
        rw [h1]
        rfl
      · have : j = j / 2 * 2 + 1 := by omega
        rw [h]
        rw [← this] at h2
        rw [h2]
        rfl
    · rw [List.getElem?_eq_none (by simp [size_madeCells]; omega), List.getElem?_eq_none (by omega)]
  rw [e] at h
  exact h

/-- the cells of steps: the slices of their counts, who, what happens -/
def scells : List Value → List (Int × Int) → List Value
  | v :: vs, o :: os => v :: .int .i64 o.1 :: .int .i64 o.2 :: scells vs os
  | _, _ => []
theorem scells_at : ∀ (vs : List Value) (os : List (Int × Int)) (k : Nat), vs.length = os.length → k < os.length → (scells vs os)[k * 3]? = some (vs.getD k undef) ∧ (scells vs os)[k * 3 + 1]? = some (.int .i64 (os.getD k default).1) ∧ (scells vs os)[k * 3 + 2]? = some (.int .i64 (os.getD k default).2)
  | [], [], k, _, h => absurd h (by simp)
  | [], _ :: _, _, h, _ => by simp at h
  | _ :: _, [], _, h, _ => by simp at h
  | v :: vs, o :: os, 0, _, _ => ⟨rfl, rfl, rfl⟩
  | v :: vs, o :: os, k + 1, h, hk => by
    have ih := scells_at vs os k (by simpa using h) (by simpa using hk)
    rw [show (k + 1) * 3 = k * 3 + 1 + 1 + 1 by omega]
    exact ih
theorem scells_snoc : ∀ (vs : List Value) (os : List (Int × Int)) (v : Value) (o : Int × Int), vs.length = os.length → scells (vs ++ [v]) (os ++ [o]) = scells vs os ++ [v, .int .i64 o.1, .int .i64 o.2]
  | [], [], _, _, _ => rfl
  | [], _ :: _, _, _, h => by simp at h
  | _ :: _, [], _, _, h => by simp at h
  | w :: vs, p :: os, v, o, h => by
    simp only [List.cons_append, scells]
    rw [scells_snoc vs os v o (by simpa using h)]
def Bp.Stp.frs (s : Bp.Stp) : List Bp.Fr := Bp.frs s.d s.ns
def fsub (fs : List Bp.Fr) : Nat × List Value := (fs.length, fcells fs)
/-- v is a slice of n steps of the call's own, whose counts lie at vs; none of it lies in the blocks X -/
def StpAt (w : World) (base : Nat) (X : List Nat) (v : Value) (n : Nat) (ss : List Bp.Stp) (vs : List Value) : Prop :=
  ss.length = n ∧ w.ownsRow base 47 3 v n (scells vs (ss.map fun s => (s.who, s.kind))) ∧ Subs w base 44 2 v.ownBlock vs (ss.map fun s => fsub s.frs) ∧
    ∀ y ∈ X, v.ownBlock ≠ some y ∧ ∀ i, i < ss.length → (vs.getD i undef).ownBlock ≠ some y
def OwnS (w : World) (base : Nat) (X : List Nat) (v : Value) (n : Nat) (ss : List Bp.Stp) : Prop := ∃ vs : List Value, StpAt w base X v n ss vs
section
variable {w w' : World} {bs : Nat} {X : List Nat} {v : Value} {n : Nat} {ss : List Bp.Stp}
theorem Subs.kept {w w' : World} {bs : Nat} {e : TypeId} {sz : Nat} {own : Option Nat} {vs : List Value} {subs : List (Nat × List Value)} {X : List Nat} (h : Subs w bs e sz own vs subs) (hk : Kept X w.heap.size w w') (hx : ∀ i, i < subs.length → ∀ y ∈ X, (vs.getD i undef).ownBlock ≠ some y) : Subs w' bs e sz own vs subs :=
  ⟨h.len, fun i hi => ⟨own_kept (h.sub i hi).1 hk (fun g hg => ⟨((h.sub i hi).1.lt g hg).2, fun e => hx i hi g e hg⟩), (h.sub i hi).2⟩, h.own, h.apart⟩
theorem OwnS.kept (h : OwnS w bs X v n ss) (hk : Kept X w.heap.size w w') : OwnS w' bs X v n ss := by
  obtain ⟨vs, h1, h2, h3, h4⟩ := h
  exact ⟨vs, h1, own_kept h2 hk (fun g hg => ⟨(h2.lt g hg).2, fun e => (h4 g e).1 hg⟩), h3.kept hk (fun i hi y hy => (h4 y hy).2 i (by simpa using hi)), h4⟩
theorem OwnS.keep (h : OwnS w bs X v n ss) (hb : Below w.heap.size w w') : OwnS w' bs X v n ss := by
  obtain ⟨vs, h1, h2, h3, h4⟩ := h
  exact ⟨vs, h1, own_keep h2 hb, h3.keep hb, h4⟩
theorem OwnS.base {bs' : Nat} (h : OwnS w bs X v n ss) (hb : bs' ≤ bs) : OwnS w bs' X v n ss := by
  obtain ⟨vs, h1, h2, h3, h4⟩ := h
  exact ⟨vs, h1, own_base h2 hb, h3.base hb, h4⟩
theorem OwnS.nil (w : World) (bs : Nat) (X : List Nat) : OwnS w bs X (.slice none 0 0) 0 [] := ⟨[], rfl, World.ownsRow_nil w bs _ _, Subs.nil .., fun y _ => ⟨(fun e => by cases e), fun i hi => absurd hi (by simp)⟩⟩
theorem OwnS.len (h : OwnS w bs X v n ss) : ss.length = n := by
  obtain ⟨vs, h1, _⟩ := h
  exact h1
theorem OwnS.less {Y : List Nat} (h : OwnS w bs X v n ss) (hY : ∀ y ∈ Y, y ∈ X) : OwnS w bs Y v n ss := by
  obtain ⟨vs, h1, h2, h3, h4⟩ := h
  exact ⟨vs, h1, h2, h3, fun y hy => h4 y (hY y hy)⟩
theorem OwnS.avoid (h : OwnS w bs X v n ss) {y : Nat} (hy : w.heap.size ≤ y) : OwnS w bs (y :: X) v n ss := by
  obtain ⟨vs, h1, h2, h3, h4⟩ := h
  refine ⟨vs, h1, h2, h3, fun z hz => ?_⟩
  rcases List.mem_cons.1 hz with rfl | hz
  · refine ⟨fun e => ?_, fun i hi e => ?_⟩
    · have := (h2.lt _ e).2; omega
    · obtain ⟨g, e1, _, e2⟩ := (h3.sub i (by simpa using hi)).block
      rw [e1] at e
      injection e with e
      omega
  · exact h4 z hz
theorem StpAt.keep {vs : List Value} (h : StpAt w bs X v n ss vs) (hb : Below w.heap.size w w') : StpAt w' bs X v n ss vs := ⟨h.1, own_keep h.2.1 hb, h.2.2.1.keep hb, h.2.2.2⟩
theorem StpAt.less {Y : List Nat} {vs : List Value} (h : StpAt w bs X v n ss vs) (hY : ∀ y ∈ Y, y ∈ X) : StpAt w bs Y v n ss vs := ⟨h.1, h.2.1, h.2.2.1, fun y hy => h.2.2.2 y (hY y hy)⟩
/-- one step more -/
theorem StpAt.snoc {w1 : World} {v' : Value} {vs : List Value} {s : Bp.Stp} {g c m : Nat} (h : StpAt w bs (g :: X) v n ss vs) (hm : s.frs.length = m) (hs : OwnF w bs (.slice (some ⟨g, 0, none⟩) m c) m s.frs) (hX : ∀ y ∈ X, y < w.heap.size ∧ y ≠ g)
    (hg : w.grownBy w1 v.ownBlock) (hat : v'.ownBlock = v.ownBlock ∨ v'.ownBlock = some w.heap.size)
    (hown : w1.ownsRow bs 47 3 v' (n + 1) (scells vs (ss.map fun s => (s.who, s.kind)) ++ [.slice (some ⟨g, 0, none⟩) m c, .int .i64 s.who, .int .i64 s.kind])) :
    OwnS w1 bs X v' (n + 1) (ss ++ [s]) := by
  obtain ⟨h1, h2, h3, h4⟩ := h
  have hlt := (hs.row.lt g rfl).2
  have hgv := (h4 g (List.mem_cons_self ..)).1
  have hgs := (h4 g (List.mem_cons_self ..)).2
  have h5 := h3.grown hg (own' := v'.ownBlock) (by
    rcases hat with e | e
    · exact .inl e
    · exact .inr (fun x hx => by rw [e] at hx; injection hx with hx; omega))
  have hsub : Sub w1 bs 44 2 (.slice (some ⟨g, 0, none⟩) m c) m (fcells s.frs) := by
    refine ⟨?_, g, c, rfl⟩
    exact hs.row.kept hg (.inr (by rw [show (Value.slice (some ⟨g, 0, none⟩) m c).ownBlock = some g from rfl]; exact hgv.symm))
  have hvl : vs.length = ss.length := by have := h3.len; simpa using this
  refine ⟨vs ++ [.slice (some ⟨g, 0, none⟩) m c], by simp [h1], ?_, ?_, fun y hy => ⟨?_, fun i hi => ?_⟩⟩
  · rw [List.map_append]
    show w1.ownsRow bs 47 3 v' (n + 1) (scells (vs ++ [_]) ((ss.map fun s => (s.who, s.kind)) ++ [(s.who, s.kind)]))
    rw [scells_snoc _ _ _ _ (by rw [List.length_map]; exact hvl)]
    exact hown
  · rw [List.map_append]
    show Subs w1 bs 44 2 v'.ownBlock _ ((ss.map fun s => fsub s.frs) ++ [(s.frs.length, fcells s.frs)])
    rw [hm]
    refine h5.snoc hsub ?_ (fun i hi => hgs i (by simpa using hi))
    rcases hat with e | e
    · rw [e]; exact hgv
    · rw [e]
      show some w.heap.size ≠ some g
      intro e2; injection e2 with e2; omega
  · rcases hat with e | e
    · rw [e]; exact (h4 y (List.mem_cons_of_mem _ hy)).1
    · rw [e]
      intro e2; injection e2 with e2
      have := (hX y hy).1; omega
  · rw [List.length_append] at hi
    by_cases hi' : i < ss.length
    · have e : (vs ++ [Value.slice (some ⟨g, 0, none⟩) m c]).getD i undef = vs.getD i undef := by simp [List.getD, List.getElem?_append_left (show i < vs.length by omega)]
      rw [e]
      exact (h4 y (List.mem_cons_of_mem _ hy)).2 i hi'
    · have e : (vs ++ [Value.slice (some ⟨g, 0, none⟩) m c]).getD i undef = .slice (some ⟨g, 0, none⟩) m c := by
        have : i = vs.length := by simp at hi; omega
        subst this
        simp [List.getD]
      rw [e]
      show some g ≠ some y
      intro e2; injection e2 with e2
      exact (hX y hy).2 e2.symm
end
/-- steps as they read -/
def StepsV (w : World) (B : Nat) (A : Option Addr) (n : Nat) (ss : List Bp.Stp) : Prop :=
  ss.length = n ∧ (0 < n → ∃ g o, A = some ⟨g, o, none⟩ ∧ g < B ∧ ∀ k, k < n → ∃ (A' : Option Addr) (m c : Nat), w.cell? ⟨g, o + k * 3, none⟩ = some (.slice A' m c) ∧ m ≤ c ∧ Fracs w B A' m (ss.getD k default).frs ∧ w.cell? ⟨g, o + k * 3 + 1, none⟩ = some (.int .i64 (ss.getD k default).who) ∧ w.cell? ⟨g, o + k * 3 + 2, none⟩ = some (.int .i64 (ss.getD k default).kind))
theorem StepsV.below {w w' : World} {B n : Nat} {A : Option Addr} {ss : List Bp.Stp} (h : StepsV w B A n ss) (hb : Below B w w') : StepsV w' B A n ss := ⟨h.1, fun hn => by
  obtain ⟨g, o, e, hl, hc⟩ := h.2 hn
  refine ⟨g, o, e, hl, fun k hk => ?_⟩
  obtain ⟨A', m, c, h1, h2, h3, h4, h5⟩ := hc k hk
  exact ⟨A', m, c, (hb.cell (p := ⟨g, o + k * 3, none⟩) hl).trans h1, h2, h3.below hb, (hb.cell (p := ⟨g, o + k * 3 + 1, none⟩) hl).trans h4, (hb.cell (p := ⟨g, o + k * 3 + 2, none⟩) hl).trans h5⟩⟩
theorem StepsV.mono {w : World} {B B' n : Nat} {A : Option Addr} {ss : List Bp.Stp} (h : StepsV w B A n ss) (hB : B ≤ B') : StepsV w B' A n ss := ⟨h.1, fun hn => by
  obtain ⟨g, o, e, hl, hc⟩ := h.2 hn
  refine ⟨g, o, e, by omega, fun k hk => ?_⟩
  obtain ⟨A', m, c, h1, h2, h3, h4⟩ := hc k hk
  exact ⟨A', m, c, h1, h2, h3.mono hB, h4⟩⟩
theorem StepsV.at {w : World} {B n : Nat} {A : Option Addr} {ss : List Bp.Stp} (h : StepsV w B A n ss) {k : Nat} (hk : k < n) : ∃ g o A' m c who kind, A = some ⟨g, o, none⟩ ∧ g < B ∧ w.cell? ⟨g, o + k * 3, none⟩ = some (.slice A' m c) ∧ m ≤ c ∧ Fracs w B A' m (ss.getD k default).frs ∧ w.cell? ⟨g, o + k * 3 + 1, none⟩ = some (.int .i64 who) ∧ w.cell? ⟨g, o + k * 3 + 2, none⟩ = some (.int .i64 kind) ∧ Hid ((ss.getD k default).who = who ∧ (ss.getD k default).kind = kind) := by
  obtain ⟨g, o, e, hl, hc⟩ := h.2 (by omega)
  obtain ⟨A', m, c, h1, h2, h3, h4, h5⟩ := hc k hk
  exact ⟨g, o, A', m, c, _, _, e, hl, h1, h2, h3, h4, h5, rfl, rfl⟩
theorem sub_fracs {w : World} {base : Nat} {v : Value} {fs : List Bp.Fr} (h : Sub w base 44 2 v fs.length (fcells fs)) : ∃ g c, v = .slice (some ⟨g, 0, none⟩) fs.length c ∧ fs.length ≤ c ∧ Fracs w w.heap.size (some ⟨g, 0, none⟩) fs.length fs := by
  obtain ⟨h1, g, c, rfl⟩ := h
  refine ⟨g, c, rfl, ?_, OwnF.view (bs := base) (c := c) h1⟩
  rcases h1.2 with ⟨e, _⟩ | ⟨g', cap, cur, e, _, _, hc, _⟩
  · cases e
  · injection e with _ _ e3
    omega
theorem OwnS.view {w : World} {base : Nat} {A : Option Addr} {n c : Nat} {X : List Nat} {ss : List Bp.Stp} (h : OwnS w base X (.slice A n c) n ss) : StepsV w w.heap.size A n ss := by
  obtain ⟨vs, h1, h2, h3, _⟩ := h
  refine ⟨h1, fun hn => ?_⟩
  have hvl : vs.length = ss.length := by have := h3.len; simpa using this
  rcases h2.2 with ⟨hv, h0⟩ | ⟨g, cap, cur, hv, _, hh, _⟩
  · omega
  · have hlt := (h2.lt g (by rw [hv]; rfl)).2
    injection hv with hA _ _
    subst hA
    refine ⟨g, 0, rfl, hlt, fun k hk => ?_⟩
    have hk' : k < ss.length := by omega
    have hs := h3.sub k (by simpa using hk')
    have e1 : ((ss.map fun s => fsub s.frs).getD k default) = fsub (ss.getD k default).frs := by simp [List.getD, hk']
    rw [e1] at hs
    obtain ⟨g', c', hv', hc', hi⟩ := sub_fracs hs
    obtain ⟨c1, c2, c3⟩ := scells_at vs (ss.map fun s => (s.who, s.kind)) k (by rw [List.length_map]; exact hvl) (by simpa using hk')
    have e2 : (ss.map fun s => (s.who, s.kind)).getD k default = ((ss.getD k default).who, (ss.getD k default).kind) := by simp [List.getD, hk']
    rw [e2] at c2 c3
    rw [hv'] at c1
    have d1 := h2.cells (g := g) rfl (k * 3) _ c1
    have d2 := h2.cells (g := g) rfl (k * 3 + 1) _ c2
    have d3 := h2.cells (g := g) rfl (k * 3 + 2) _ c3
    rw [add_zero_off] at d1 d2 d3
    refine ⟨_, _, c', by simpa using d1, hc', hi, by simpa using d2, by simpa using d3⟩
end Go.Proofs.Ytiglkajafdecgaa
