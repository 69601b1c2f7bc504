/-
  Tables in memory: a row of rows of numbers of the call's own, each in a block of its own.
-/
import Derived.Test.YtdcfpobjiofnmaaTrees
import Derived.Test.YtdcfpobjiofnmaaPairPlain
import Derived.Test.YtdcfpobjiofnmaaCounts
namespace Go.Proofs.Ytdcfpobjiofnmaa
set_option linter.unusedVariables false
open Go.RowKit

theorem row_info : (Try.prog.info? 31).map (fun i => (i.zero, i.size, i.bytes)) = some (some (.slice none 0 0), 1, 24) := by kernel_rfl
def tsub (zs : List Int) : Nat × List Value := (zs.length, zs.map (Value.int .i64))
/-- v is a table of n rows of the call's own, whose rows lie at vs -/
def TbAt (w : World) (base : Nat) (v : Value) (n : Nat) (rows : List (List Int)) (vs : List Value) : Prop :=
  rows.length = n ∧ w.ownsRow base 31 1 v n vs ∧ Subs w base 3 1 v.ownBlock vs (rows.map tsub)
def OwnTb (w : World) (base : Nat) (v : Value) (n : Nat) (rows : List (List Int)) : Prop := ∃ vs : List Value, TbAt w base v n rows vs
/-- a table as it reads -/
def TabV (w : World) (B : Nat) (A : Option Addr) (n : Nat) (rows : List (List Int)) : Prop :=
  rows.length = n ∧ (0 < n → ∃ g o, A = some ⟨g, o, none⟩ ∧ g < B ∧ ∀ k, k < n → ∃ (A' : Option Addr) (m c : Nat), w.cell? ⟨g, o + k, none⟩ = some (.slice A' m c) ∧ m ≤ c ∧ Ints w B A' m (rows.getD k []))
section
variable {w w' : World} {bs : Nat} {v : Value} {n : Nat} {rows : List (List Int)}
theorem OwnTb.keep (h : OwnTb w bs v n rows) (hb : Below w.heap.size w w') : OwnTb w' bs v n rows := by
  obtain ⟨vs, h1, h2, h3⟩ := h
  exact ⟨vs, h1, own_keep h2 hb, h3.keep hb⟩
theorem OwnTb.base {bs' : Nat} (h : OwnTb w bs v n rows) (hb : bs' ≤ bs) : OwnTb w bs' v n rows := by
  obtain ⟨vs, h1, h2, h3⟩ := h
  exact ⟨vs, h1, own_base h2 hb, h3.base hb⟩
theorem OwnTb.nil (w : World) (bs : Nat) : OwnTb w bs (.slice none 0 0) 0 [] := ⟨[], rfl, World.ownsRow_nil w bs _ _, Subs.nil ..⟩
theorem OwnTb.len (h : OwnTb w bs v n rows) : rows.length = n := by
  obtain ⟨vs, h1, _⟩ := h
  exact h1
theorem TabV.below {B : Nat} {A : Option Addr} (h : TabV w B A n rows) (hb : Below B w w') : TabV w' B A n rows := ⟨h.1, fun hn => by
  obtain ⟨g, o, e, hl, hc⟩ := h.2 hn
  refine ⟨g, o, e, hl, fun k hk => ?_⟩
  obtain ⟨A', m, c, h1, h2, h3⟩ := hc k hk
  exact ⟨A', m, c, (hb.cell (p := ⟨g, o + k, none⟩) hl).trans h1, h2, h3.below hb⟩⟩
theorem TabV.mono {B B' : Nat} {A : Option Addr} (h : TabV w B A n rows) (hB : B ≤ B') : TabV w B' A n rows := ⟨h.1, fun hn => by
  obtain ⟨g, o, e, hl, hc⟩ := h.2 hn
  refine ⟨g, o, e, by omega, fun k hk => ?_⟩
  obtain ⟨A', m, c, h1, h2, h3⟩ := hc k hk
  exact ⟨A', m, c, h1, h2, h3.mono hB⟩⟩
theorem TabV.drewN {B : Nat} {A : Option Addr} (h : TabV w B A n rows) (k : Nat) : TabV (w.drewN k) B A n rows := h.below (below_drewN (Below.refl _ _) k)
theorem TabV.at {B : Nat} {A : Option Addr} (h : TabV w B A n rows) {k : Nat} (hk : k < n) : ∃ g o A' m c zs, A = some ⟨g, o, none⟩ ∧ g < B ∧ w.cell? ⟨g, o + k, none⟩ = some (.slice A' m c) ∧ m ≤ c ∧ Ints w B A' m zs ∧ Hid (rows.getD k [] = zs) := by
  obtain ⟨g, o, e, hl, hc⟩ := h.2 (by omega)
  obtain ⟨A', m, c, h1, h2, h3⟩ := hc k hk
  exact ⟨g, o, A', m, c, _, e, hl, h1, h2, h3, rfl⟩
/-- one number of a table -/
theorem TabV.get {B : Nat} {A : Option Addr} {g o : Nat} (h : TabV w B A n rows) (hA : A = some ⟨g, o, none⟩) {x y m : Nat} (hx : x < n) (hm : (rows.getD x []).length = m) (hy : y < m) :
    ∃ g' o' c, w.cell? ⟨g, o + x, none⟩ = some (.slice (some ⟨g', o', none⟩) m c) ∧ w.cell? ⟨g', o' + y, none⟩ = some (.int .i64 (Bp.cellOf rows x y)) ∧ g < B ∧ g' < B := by
  obtain ⟨g2, o2, e, hl, hc⟩ := h.2 (by omega)
  subst hA
  injection e with e
  injection e with e1 e2
  subst e1; subst e2
  obtain ⟨A', m', c, h1, h2, h3⟩ := hc x hx
  have hmm : m' = m := by rw [← hm, h3.1]
  subst hmm
  obtain ⟨g', o', e, hl', hc'⟩ := h3.2 (by omega)
  subst e
  exact ⟨g', o', c, h1, hc' y hy, hl, hl'⟩
theorem OwnTb.view {A : Option Addr} {c : Nat} (h : OwnTb w bs (.slice A n c) n rows) : TabV w w.heap.size A n rows := by
  obtain ⟨vs, h1, h2, h3⟩ := h
  refine ⟨h1, fun hn => ?_⟩
  have hvl : vs.length = rows.length := by have := h3.len; simpa using this
  rcases h2.2 with ⟨hv, h0⟩ | ⟨g, cap, cur, hv, _, hh, _⟩
  · omega
  · have hlt := (h2.lt g (by rw [hv]; rfl)).2
    injection hv with hA _ _
    subst hA
    refine ⟨g, 0, rfl, hlt, fun k hk => ?_⟩
    have hk' : k < rows.length := by omega
    have hs := h3.sub k (by simpa using hk')
    have e1 : (rows.map tsub).getD k default = tsub (rows.getD k []) := by simp [List.getD, hk']
    rw [e1] at hs
    obtain ⟨hs1, g', c', hv'⟩ := hs
    have hc' : (rows.getD k []).length ≤ c' := by
      rw [hv'] at hs1
      rcases hs1.2 with ⟨e, _⟩ | ⟨g', cap, cur, e, _, _, hc, _⟩
      · cases e
      · injection e with _ _ e3
        show (tsub (rows.getD k [])).1 ≤ c'
        omega
    rw [hv'] at hs1
    have d1 := h2.cells (g := g) rfl k (vs.getD k undef) (by simp [List.getD, show k < vs.length by omega])
    rw [add_zero_off, hv'] at d1
    refine ⟨_, _, c', by simpa [tsub] using d1, by simpa [tsub] using hc', ?_⟩
    exact Own.ints (base := bs) (c := c') hs1
/-- a row of a table, and what follows where it is written -/
theorem OwnTb.row {g c : Nat} (h : OwnTb w bs (.slice (some ⟨g, 0, none⟩) n c) n rows) {x m : Nat} (hx : x < n) (hm : (rows.getD x []).length = m) :
    ∃ gx cx, w.cell? ⟨g, x, none⟩ = some (.slice (some ⟨gx, 0, none⟩) m cx) ∧ Own w bs (.slice (some ⟨gx, 0, none⟩) m cx) m (rows.getD x []) ∧ bs ≤ gx ∧ gx < w.heap.size ∧ g < w.heap.size ∧ m ≤ cx ∧
      ∀ w' zs, zs.length = m → w.grownBy w' (some gx) → Own w' bs (.slice (some ⟨gx, 0, none⟩) m cx) m zs → OwnTb w' bs (.slice (some ⟨g, 0, none⟩) n c) n (rows.set x zs) := by
  obtain ⟨vs, h1, h2, h3⟩ := h
  have hvl : vs.length = rows.length := by have := h3.len; simpa using this
  have hk' : x < rows.length := by omega
  have hs := h3.sub x (by simpa using hk')
  have e1 : (rows.map tsub).getD x default = tsub (rows.getD x []) := by simp [List.getD, hk']
  rw [e1] at hs
  have hblk := hs.block
  obtain ⟨hs1, gx, cx, hv'⟩ := hs
  rw [hv'] at hs1 hblk
  obtain ⟨_, e3, hb1, hb2⟩ := hblk
  have e4 : gx = _ := Option.some.inj e3
  subst e4
  have e2 : (tsub (rows.getD x [])).1 = m := hm
  rw [e2] at hs1 hv'
  have d1 := h2.cells (g := g) rfl x (vs.getD x undef) (by simp [List.getD, show x < vs.length by omega])
  rw [add_zero_off, hv'] at d1
  have hgl := (h2.lt g rfl).2
  have hown : Own w bs (.slice (some ⟨gx, 0, none⟩) m cx) m (rows.getD x []) := hs1
  have hmc : m ≤ cx := by
    rcases hown.2 with ⟨e, _⟩ | ⟨g', cap, cur, e, _, _, hc, _⟩
    · cases e
    · injection e with _ _ e3
      omega
  refine ⟨gx, cx, by simpa using d1, hown, hb1, hb2, hgl, hmc, fun w' zs hz hg ho => ?_⟩
  refine ⟨vs, by simp [h1], h2.kept hg (.inr ?_), ?_⟩
  · have := h3.own x (by simpa using hk')
    rw [hv'] at this
    exact this
  · have hg' : w.grownBy w' (vs.getD x undef).ownBlock := by rw [hv']; exact hg
    have := h3.set (w' := w') (i := x) (xs := zs.map (Value.int .i64)) (by simpa using hk') hg' (by
      rw [e1, e2, hv']
      exact ⟨ho, gx, cx, rfl⟩)
    rw [e1, e2] at this
    have e6 : tsub zs = (m, zs.map (Value.int .i64)) := by
      show (zs.length, _) = _
      rw [hz]
    rw [← e6, ← List.map_set] at this
    exact this
/-- one row more -/
theorem OwnTb.snoc {A : Option Addr} {c : Nat} {w1 : World} {v' : Value} {zs : List Int} {g c2 m : Nat} {vs : List Value} (h : TbAt w bs v n rows vs) (hm : zs.length = m) (hs : Own w bs (.slice (some ⟨g, 0, none⟩) m c2) m zs) (hv : v.ownBlock ≠ some g) (hvs : ∀ i, i < rows.length → (vs.getD i undef).ownBlock ≠ some g)
    (hg : w.grownBy w1 v.ownBlock) (hat : v'.ownBlock = v.ownBlock ∨ v'.ownBlock = some w.heap.size)
    (hown : w1.ownsRow bs 31 1 v' (n + 1) (vs ++ [.slice (some ⟨g, 0, none⟩) m c2])) :
    OwnTb w1 bs v' (n + 1) (rows ++ [zs]) := by
  obtain ⟨h1, h2, h3⟩ := h
  have hlt := (hs.row.lt g rfl).2
  have h5 := h3.grown hg (own' := v'.ownBlock) (by
    rcases hat with e | e
    · exact .inl e
    · exact .inr (fun x hx => by rw [e] at hx; injection hx with hx; omega))
  have hsub : Sub w1 bs 3 1 (.slice (some ⟨g, 0, none⟩) m c2) m (zs.map (Value.int .i64)) := by
    refine ⟨?_, g, c2, rfl⟩
    exact hs.row.kept hg (.inr (by rw [show (Value.slice (some ⟨g, 0, none⟩) m c2).ownBlock = some g from rfl]; exact hv.symm))
  refine ⟨vs ++ [.slice (some ⟨g, 0, none⟩) m c2], by simp [h1], hown, ?_⟩
  rw [List.map_append]
  show Subs w1 bs 3 1 v'.ownBlock _ (rows.map tsub ++ [(zs.length, zs.map (Value.int .i64))])
  rw [hm]
  refine h5.snoc hsub ?_ (fun i hi => hvs i (by simpa using hi))
  rcases hat with e | e
  · rw [e]; exact hv
  · rw [e]
    show some w.heap.size ≠ some g
    intro e2; injection e2 with e2; omega
/-- the first rows of a table that is made with room for n -/
def OwnTo (w : World) (bs g n : Nat) (rows : List (List Int)) : Prop :=
  ∃ vs : List Value, vs.length = n ∧ rows.length ≤ n ∧ w.ownsRow bs 31 1 (.slice (some ⟨g, 0, none⟩) n n) n vs ∧ Subs w bs 3 1 (some g) (vs.take rows.length) (rows.map tsub)
theorem OwnTo.start {w1 : World} (h : w1.ownsRow w.heap.size 31 1 (.slice (some ⟨w.heap.size, 0, none⟩) n n) n (madeCells (Value.slice none 0 0).cells (n * 1)).toList) : OwnTo w1 w.heap.size w.heap.size n [] :=
  ⟨_, by have := h.1; simpa using this, Nat.zero_le _, h, by simpa using Subs.nil ..⟩
theorem OwnTo.lt {g : Nat} (h : OwnTo w bs g n rows) : bs ≤ g ∧ g < w.heap.size := by
  obtain ⟨vs, _, _, h2, _⟩ := h
  exact h2.lt g rfl
theorem OwnTo.base {g bs' : Nat} (h : OwnTo w bs g n rows) (hb : bs' ≤ bs) : OwnTo w bs' g n rows := by
  obtain ⟨vs, h0, h1, h2, h3⟩ := h
  exact ⟨vs, h0, h1, own_base h2 hb, h3.base hb⟩
theorem OwnTo.keep {g : Nat} (h : OwnTo w bs g n rows) (hb : Below w.heap.size w w') : OwnTo w' bs g n rows := by
  obtain ⟨vs, h0, h1, h2, h3⟩ := h
  exact ⟨vs, h0, h1, own_keep h2 hb, h3.keep hb⟩
theorem OwnTo.cell {g x : Nat} (h : OwnTo w bs g n rows) (hx : x < n) : (∃ u, w.cell? ⟨g, x, none⟩ = some u) ∧ w.frozen? ⟨g, x, none⟩ = false := by
  obtain ⟨vs, h0, h1, h2, h3⟩ := h
  refine ⟨⟨vs.getD x undef, ?_⟩, h2.frozenAt _⟩
  rw [h2.cellAt x (by omega)]
  simp [List.getD, show x < vs.length by omega]
theorem OwnTo.done {g : Nat} (h : OwnTo w bs g n rows) (hn : rows.length = n) : OwnTb w bs (.slice (some ⟨g, 0, none⟩) n n) n rows := by
  obtain ⟨vs, h0, h1, h2, h3⟩ := h
  rw [hn, List.take_of_length_le (by omega)] at h3
  exact ⟨vs, hn, h2, h3⟩
theorem OwnTo.more {w1 w3 : World} {g g1 c m : Nat} {zs : List Int} (h : OwnTo w bs g n rows) (hx : rows.length < n) (hg1 : w.heap.size ≤ g1) (hb1 : Below w.heap.size w w1) (hm : zs.length = m)
    (hg3 : (w1.setCell ⟨g, rows.length, none⟩ (.slice (some ⟨g1, 0, none⟩) m c)).grownBy w3 (some g1)) (hown : Own w3 bs (.slice (some ⟨g1, 0, none⟩) m c) m zs) : OwnTo w3 bs g n (rows ++ [zs]) := by
  obtain ⟨vs, h0, h1, h2, h3⟩ := h
  have hgl := (h2.lt g rfl).2
  have hnew : ∀ i, i < rows.length → ((vs.take rows.length).getD i undef).ownBlock ≠ some g1 := fun i hi e => by
    obtain ⟨x, e1, _, e2⟩ := (h3.sub i (by simpa using hi)).block
    rw [e1] at e
    injection e with e
    omega
  have k2 := own_keep h2 hb1
  have k3 := h3.keep hb1
  have hst := k2.stored rows.length (.slice (some ⟨g1, 0, none⟩) m c)
  have k4 := k3.grown hst.2 (own' := some g) (.inl rfl)
  have hne : (some g1 : Option Nat) ≠ some g := by intro e; injection e with e; omega
  have hvl : (vs.set rows.length (.slice (some ⟨g1, 0, none⟩) m c)).take (rows.length + 1) = vs.take rows.length ++ [.slice (some ⟨g1, 0, none⟩) m c] := by
    rw [List.take_add_one, List.take_set_of_le (Nat.le_refl _)]
    simp [show rows.length < vs.length by omega]
  refine ⟨vs.set rows.length (.slice (some ⟨g1, 0, none⟩) m c), by simp [h0], by simp; omega, hst.1.kept hg3 (.inr (fun e => hne e.symm)), ?_⟩
  rw [List.map_append, List.length_append, List.length_singleton, hvl]
  have k5 := k4.far hg3 (fun i hi e => hnew i (by simpa using hi) e.symm)
  refine Subs.snoc (n := m) (xs := zs.map (Value.int .i64)) k5 ⟨hown, g1, c, rfl⟩ (fun e => hne e.symm) (fun i hi => hnew i (by simpa using hi)) |> fun q => ?_
  show Subs w3 bs 3 1 (some g) _ (rows.map tsub ++ [(zs.length, zs.map (Value.int .i64))])
  rw [hm]
  exact q
end
/-- what a function of tables leaves -/
def tres (ok : Bool) (rows : List (List Int)) : List (List Int) := if ok then rows else []
theorem tres_yes {ok : Bool} (h : ok = true) (rows : List (List Int)) : tres ok rows = rows := by simp [tres, h]
theorem tres_no {ok : Bool} (h : ok = false) (rows : List (List Int)) : tres ok rows = [] := by simp [tres, h]
def TabRes (ok : Bool) (rows : List (List Int)) (w : World) (e : Ending) (w' : World) : Prop :=
  ∃ (A : Option Addr) (n c : Nat), e = .returned (.tuple #[.slice A n c, .bool ok]) ∧ n ≤ c ∧ n ≤ 5 ∧ OwnTb w' w.heap.size (.slice A n c) n (tres ok rows) ∧ Below w.heap.size w w'
/-- what a count of pairs leaves -/
def TabbedI (n : Nat) (rows : List (List Int)) (w : World) (e : Ending) (w' : World) : Prop :=
  ∃ g c, e = .returned (.slice (some ⟨g, 0, none⟩) n c) ∧ n ≤ c ∧ w.heap.size ≤ g ∧ OwnTb w' w.heap.size (.slice (some ⟨g, 0, none⟩) n c) n rows ∧ Below w.heap.size w w'
end Go.Proofs.Ytdcfpobjiofnmaa
