/-
  Tables of truths in memory.
-/
import Derived.Test.YtgcihnhljeahjaaBest
import Derived.Test.YtgcihnhljeahjaaBools
import Derived.Test.YtgcihnhljeahjaaBtabPlain
namespace Go.Proofs.Ytgcihnhljeahjaa
set_option linter.unusedVariables false
open Go.RowKit

theorem brow_info : (Try.prog.info? 56).map (fun i => (i.zero, i.size, i.bytes)) = some (some (.slice none 0 0), 1, 24) := by kernel_rfl
def bsub (zs : List Bool) : Nat × List Value := (zs.length, zs.map (Value.bool))
/-- v is a table of n rows of the call's own, whose rows lie at vs -/
def BbAt (w : World) (base : Nat) (v : Value) (n : Nat) (rows : List (List Bool)) (vs : List Value) : Prop :=
  rows.length = n ∧ w.ownsRow base 56 1 v n vs ∧ Subs w base 4 1 v.ownBlock vs (rows.map bsub)
def OwnBb (w : World) (base : Nat) (v : Value) (n : Nat) (rows : List (List Bool)) : Prop := ∃ vs : List Value, BbAt w base v n rows vs
/-- a table as it reads -/
def BabV (w : World) (B : Nat) (A : Option Addr) (n : Nat) (rows : List (List Bool)) : Prop :=
  rows.length = n ∧ (0 < n → ∃ g o, A = some ⟨g, o, none⟩ ∧ g < B ∧ ∀ k, k < n → ∃ (A' : Option Addr) (m c : Nat), w.cell? ⟨g, o + k, none⟩ = some (.slice A' m c) ∧ m ≤ c ∧ Bools w B A' m (rows.getD k []))
section
variable {w w' : World} {bs : Nat} {v : Value} {n : Nat} {rows : List (List Bool)}
theorem OwnBb.keep (h : OwnBb w bs v n rows) (hb : Below w.heap.size w w') : OwnBb w' bs v n rows := by
  obtain ⟨vs, h1, h2, h3⟩ := h
  exact ⟨vs, h1, own_keep h2 hb, h3.keep hb⟩
theorem OwnBb.base {bs' : Nat} (h : OwnBb w bs v n rows) (hb : bs' ≤ bs) : OwnBb w bs' v n rows := by
  obtain ⟨vs, h1, h2, h3⟩ := h
  exact ⟨vs, h1, own_base h2 hb, h3.base hb⟩
theorem OwnBb.nil (w : World) (bs : Nat) : OwnBb w bs (.slice none 0 0) 0 [] := ⟨[], rfl, World.ownsRow_nil w bs _ _, Subs.nil ..⟩
theorem OwnBb.len (h : OwnBb w bs v n rows) : rows.length = n := by
  obtain ⟨vs, h1, _⟩ := h
  exact h1
theorem BabV.below {B : Nat} {A : Option Addr} (h : BabV w B A n rows) (hb : Below B w w') : BabV w' B A n rows := ⟨h.1, fun hn => by
  obtain ⟨g, o, e, hl, hc⟩ := h.2 hn
  refine ⟨g, o, e, hl, fun k hk => ?_⟩
  obtain ⟨A', m, c, h1, h2, h3⟩ := hc k hk
  exact ⟨A', m, c, (hb.cell (p := ⟨g, o + k, none⟩) hl).trans h1, h2, h3.below hb⟩⟩
theorem BabV.mono {B B' : Nat} {A : Option Addr} (h : BabV w B A n rows) (hB : B ≤ B') : BabV w B' A n rows := ⟨h.1, fun hn => by
  obtain ⟨g, o, e, hl, hc⟩ := h.2 hn
  refine ⟨g, o, e, by omega, fun k hk => ?_⟩
  obtain ⟨A', m, c, h1, h2, h3⟩ := hc k hk
  exact ⟨A', m, c, h1, h2, h3.mono hB⟩⟩
theorem BabV.drewN {B : Nat} {A : Option Addr} (h : BabV w B A n rows) (k : Nat) : BabV (w.drewN k) B A n rows := h.below (below_drewN (Below.refl _ _) k)
theorem BabV.at {B : Nat} {A : Option Addr} (h : BabV w B A n rows) {k : Nat} (hk : k < n) : ∃ g o A' m c zs, A = some ⟨g, o, none⟩ ∧ g < B ∧ w.cell? ⟨g, o + k, none⟩ = some (.slice A' m c) ∧ m ≤ c ∧ Bools w B A' m zs ∧ Hid (rows.getD k [] = zs) := by
  obtain ⟨g, o, e, hl, hc⟩ := h.2 (by omega)
  obtain ⟨A', m, c, h1, h2, h3⟩ := hc k hk
  exact ⟨g, o, A', m, c, _, e, hl, h1, h2, h3, rfl⟩
theorem OwnBb.view {A : Option Addr} {c : Nat} (h : OwnBb w bs (.slice A n c) n rows) : BabV w w.heap.size A n rows := by
  obtain ⟨vs, h1, h2, h3⟩ := h
  refine ⟨h1, fun hn => ?_⟩
  have hvl : vs.length = rows.length := by have := h3.len; simpa using this
  rcases h2.2 with ⟨hv, h0⟩ | ⟨g, cap, cur, hv, _, hh, _⟩
  · omega
  · have hlt := (h2.lt g (by rw [hv]; rfl)).2
    injection hv with hA _ _
    subst hA
    refine ⟨g, 0, rfl, hlt, fun k hk => ?_⟩
    have hk' : k < rows.length := by omega
    have hs := h3.sub k (by simpa using hk')
    have e1 : (rows.map bsub).getD k default = bsub (rows.getD k []) := by simp [List.getD, hk']
    rw [e1] at hs
    obtain ⟨hs1, g', c', hv'⟩ := hs
    have hc' : (rows.getD k []).length ≤ c' := by
      rw [hv'] at hs1
      rcases hs1.2 with ⟨e, _⟩ | ⟨g', cap, cur, e, _, _, hc, _⟩
      · cases e
      · injection e with _ _ e3
        show (bsub (rows.getD k [])).1 ≤ c'
        omega
    rw [hv'] at hs1
    have d1 := h2.cells (g := g) rfl k (vs.getD k undef) (by simp [List.getD, show k < vs.length by omega])
    rw [add_zero_off, hv'] at d1
    refine ⟨_, _, c', by simpa [bsub] using d1, by simpa [bsub] using hc', ?_⟩
    exact OwnB.bools (base := bs) (c := c') hs1
/-- a row of a table, and what follows where it is written -/
theorem OwnBb.row {g c : Nat} (h : OwnBb w bs (.slice (some ⟨g, 0, none⟩) n c) n rows) {x m : Nat} (hx : x < n) (hm : (rows.getD x []).length = m) :
    ∃ gx cx, w.cell? ⟨g, x, none⟩ = some (.slice (some ⟨gx, 0, none⟩) m cx) ∧ OwnB w bs (.slice (some ⟨gx, 0, none⟩) m cx) m (rows.getD x []) ∧ bs ≤ gx ∧ gx < w.heap.size ∧ g < w.heap.size ∧ m ≤ cx ∧
      ∀ w' zs, zs.length = m → w.grownBy w' (some gx) → OwnB w' bs (.slice (some ⟨gx, 0, none⟩) m cx) m zs → OwnBb w' bs (.slice (some ⟨g, 0, none⟩) n c) n (rows.set x zs) := by
  obtain ⟨vs, h1, h2, h3⟩ := h
  have hvl : vs.length = rows.length := by have := h3.len; simpa using this
  have hk' : x < rows.length := by omega
  have hs := h3.sub x (by simpa using hk')
  have e1 : (rows.map bsub).getD x default = bsub (rows.getD x []) := by simp [List.getD, hk']
  rw [e1] at hs
  have hblk := hs.block
  obtain ⟨hs1, gx, cx, hv'⟩ := hs
  rw [hv'] at hs1 hblk
  obtain ⟨_, e3, hb1, hb2⟩ := hblk
  have e4 : gx = _ := Option.some.inj e3
  subst e4
  have e2 : (bsub (rows.getD x [])).1 = m := hm
  rw [e2] at hs1 hv'
  have d1 := h2.cells (g := g) rfl x (vs.getD x undef) (by simp [List.getD, show x < vs.length by omega])
  rw [add_zero_off, hv'] at d1
  have hgl := (h2.lt g rfl).2
  have hown : OwnB w bs (.slice (some ⟨gx, 0, none⟩) m cx) m (rows.getD x []) := hs1
  have hmc : m ≤ cx := by
    rcases hown.2 with ⟨e, _⟩ | ⟨g', cap, cur, e, _, _, hc, _⟩
    · cases e
    · injection e with _ _ e3
      omega
  refine ⟨gx, cx, by simpa using d1, hown, hb1, hb2, hgl, hmc, fun w' zs hz hg ho => ?_⟩
  refine ⟨vs, by simp [h1], h2.kept hg (.inr ?_), ?_⟩
  · have := h3.own x (by simpa using hk')
    rw [hv'] at this
    exact this
  · have hg' : w.grownBy w' (vs.getD x undef).ownBlock := by rw [hv']; exact hg
    have := h3.set (w' := w') (i := x) (xs := zs.map (Value.bool)) (by simpa using hk') hg' (by
      rw [e1, e2, hv']
      exact ⟨ho, gx, cx, rfl⟩)
    rw [e1, e2] at this
    have e6 : bsub zs = (m, zs.map (Value.bool)) := by
      show (zs.length, _) = _
      rw [hz]
    rw [← e6, ← List.map_set] at this
    exact this
/-- one row more -/
theorem OwnBb.snoc {A : Option Addr} {c : Nat} {w1 : World} {v' : Value} {zs : List Bool} {g c2 m : Nat} {vs : List Value} (h : BbAt w bs v n rows vs) (hm : zs.length = m) (hs : OwnB w bs (.slice (some ⟨g, 0, none⟩) m c2) m zs) (hv : v.ownBlock ≠ some g) (hvs : ∀ i, i < rows.length → (vs.getD i undef).ownBlock ≠ some g)
    (hg : w.grownBy w1 v.ownBlock) (hat : v'.ownBlock = v.ownBlock ∨ v'.ownBlock = some w.heap.size)
    (hown : w1.ownsRow bs 56 1 v' (n + 1) (vs ++ [.slice (some ⟨g, 0, none⟩) m c2])) :
    OwnBb w1 bs v' (n + 1) (rows ++ [zs]) := by
  obtain ⟨h1, h2, h3⟩ := h
  have hlt := (hs.row.lt g rfl).2
  have h5 := h3.grown hg (own' := v'.ownBlock) (by
    rcases hat with e | e
    · exact .inl e
    · exact .inr (fun x hx => by rw [e] at hx; injection hx with hx; omega))
  have hsub : Sub w1 bs 4 1 (.slice (some ⟨g, 0, none⟩) m c2) m (zs.map (Value.bool)) := by
    refine ⟨?_, g, c2, rfl⟩
    exact hs.row.kept hg (.inr (by rw [show (Value.slice (some ⟨g, 0, none⟩) m c2).ownBlock = some g from rfl]; exact hv.symm))
  refine ⟨vs ++ [.slice (some ⟨g, 0, none⟩) m c2], by simp [h1], hown, ?_⟩
  rw [List.map_append]
  show Subs w1 bs 4 1 v'.ownBlock _ (rows.map bsub ++ [(zs.length, zs.map (Value.bool))])
  rw [hm]
  refine h5.snoc hsub ?_ (fun i hi => hvs i (by simpa using hi))
  rcases hat with e | e
  · rw [e]; exact hv
  · rw [e]
    show some w.heap.size ≠ some g
    intro e2; injection e2 with e2; omega
end
theorem bb_lit {w0 w : World} (h : w0.heap.size ≤ w.heap.size) : OwnBb (w.alloc (.cells #[] 56)) w0.heap.size (.slice (some ⟨w.heap.size, 0, none⟩) 0 0) 0 [] :=
  ⟨[], rfl, own_base (World.ownsRow_lit w #[] 0 (Nat.le_refl _) (by decide) rfl) h, Subs.nil ..⟩
/-- a table stays where a new row is made and written -/
theorem BbAt.past {w w2 wi : World} {bs : Nat} {v : Value} {n : Nat} {rows : List (List Bool)} {vs : List Value} {G : Nat} (h : BbAt w bs v n rows vs) (hb : Below w.heap.size w w2) (hg : w2.grownBy wi (some G)) (hG : w.heap.size ≤ G) :
    BbAt wi bs v n rows vs ∧ v.ownBlock ≠ some G ∧ ∀ i, i < rows.length → (vs.getD i undef).ownBlock ≠ some G := by
  obtain ⟨h1, h2, h3⟩ := h
  have hv : v.ownBlock ≠ some G := fun e => by have := (h2.lt G e).2; omega
  have hvs : ∀ i, i < rows.length → (vs.getD i undef).ownBlock ≠ some G := fun i hi e => by
    obtain ⟨x, e1, _, e2⟩ := (h3.sub i (by simpa using hi)).block
    rw [e1] at e
    injection e with e
    omega
  exact ⟨⟨h1, (own_keep h2 hb).kept hg (.inr hv), (h3.keep hb).far hg (fun i hi e => hvs i (by simpa using hi) e.symm)⟩, hv, hvs⟩

theorem OwnBb.far {w w' : World} {lo : Nat} {v : Value} {n : Nat} {rows : List (List Bool)} (h : OwnBb w lo v n rows) (hf : Far lo w.heap.size w w') : OwnBb w' lo v n rows := by
  obtain ⟨vs, h1, h2, h3⟩ := h
  exact ⟨vs, h1, own_farlo h2 hf, ⟨h3.len, fun i hi => ⟨own_farlo (h3.sub i hi).1 hf, (h3.sub i hi).2⟩, h3.own, h3.apart⟩⟩

/-- one row of a table of functions -/
theorem BabV.line {w : World} {B n : Nat} {A : Option Addr} {g o : Nat} {f : Nat → Nat → Bool} (h : BabV w B A n (Bp.btabs n f)) (hA : A = some ⟨g, o, none⟩) {x : Nat} (hx : x < n) :
    ∃ g' o' c, w.cell? ⟨g, o + x, none⟩ = some (.slice (some ⟨g', o', none⟩) n c) ∧ ∀ y, y < n → w.cell? ⟨g', o' + y, none⟩ = some (.bool (f x y)) := by
  obtain ⟨g2, o2, e, _, hc⟩ := h.2 (by omega)
  subst hA
  injection e with e
  injection e with e1 e2
  subst e1; subst e2
  obtain ⟨A', m, c, h1, h2, h3⟩ := hc x hx
  rw [Bp.btabs_at _ _ hx] at h3
  have hm : m = n := by rw [← h3.1, Bp.btab_len]
  subst hm
  obtain ⟨g', o', e, _, hc'⟩ := h3.2 (by omega)
  subst e
  refine ⟨g', o', c, h1, fun y hy => ?_⟩
  have := hc' y hy
  rw [Bp.btab_at _ _ hy] at this
  exact this
end Go.Proofs.Ytgcihnhljeahjaa
