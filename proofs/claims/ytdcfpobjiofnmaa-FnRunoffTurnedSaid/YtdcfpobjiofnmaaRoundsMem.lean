/-
  Rounds in memory: a row of rounds of the call's own, each with counts in a row of its own.
-/
import Derived.Test.YtdcfpobjiofnmaaTrees
import Derived.Test.YtdcfpobjiofnmaaLawMem
import Derived.Test.YtdcfpobjiofnmaaRoundsPlain
namespace Go.Proofs.Ytdcfpobjiofnmaa
set_option linter.unusedVariables false
open Go.RowKit

theorem round_info : (Try.prog.info? 59).map (fun i => (i.zero, i.size, i.bytes)) = some (some (.agg #[.slice none 0 0, .int .i64 0]), 2, 32) := by kernel_rfl
/-- the cells of rounds: the slices of their counts, who leaves -/
def rcells : List Value → List Int → List Value
  | v :: vs, o :: os => v :: .int .i64 o :: rcells vs os
  | _, _ => []
theorem rcells_len : ∀ (vs : List Value) (os : List Int), vs.length = os.length → (rcells vs os).length = os.length * 2
  | [], [], _ => rfl
  | [], _ :: _, h => by simp at h
  | _ :: _, [], h => by simp at h
  | v :: vs, o :: os, h => by
    have := rcells_len vs os (by simpa using h)
    simp only [rcells, List.length_cons, this]
    omega
theorem rcells_at : ∀ (vs : List Value) (os : List Int) (k : Nat), vs.length = os.length → k < os.length → (rcells vs os)[k * 2]? = some (vs.getD k undef) ∧ (rcells vs os)[k * 2 + 1]? = some (.int .i64 (os.getD k 0))
  | [], [], k, _, h => absurd h (by simp)
  | [], _ :: _, _, h, _ => by simp at h
  | _ :: _, [], _, h, _ => by simp at h
  | v :: vs, o :: os, 0, _, _ => ⟨rfl, rfl⟩
  | v :: vs, o :: os, k + 1, h, hk => by
    have ih := rcells_at vs os k (by simpa using h) (by simpa using hk)
    rw [show (k + 1) * 2 = k * 2 + 1 + 1 by omega]
    exact ih
theorem rcells_snoc : ∀ (vs : List Value) (os : List Int) (v : Value) (o : Int), vs.length = os.length → rcells (vs ++ [v]) (os ++ [o]) = rcells vs os ++ [v, .int .i64 o]
  | [], [], _, _, _ => rfl
  | [], _ :: _, _, _, h => by simp at h
  | _ :: _, [], _, _, h => by simp at h
  | w :: vs, p :: os, v, o, h => by
    simp only [List.cons_append, rcells]
    rw [rcells_snoc vs os v o (by simpa using h)]
theorem rcells_set1 : ∀ (vs : List Value) (os : List Int) (k : Nat) (o : Int), vs.length = os.length → (rcells vs os).set (k * 2 + 1) (.int .i64 o) = rcells vs (os.set k o)
  | [], [], _, _, _ => by simp [rcells]
  | [], _ :: _, _, _, h => by simp at h
  | _ :: _, [], _, _, h => by simp at h
  | v :: vs, p :: os, 0, o, _ => rfl
  | v :: vs, p :: os, k + 1, o, h => by
    rw [show (k + 1) * 2 + 1 = (k * 2 + 1) + 1 + 1 by omega]
    show v :: .int .i64 p :: (rcells vs os).set (k * 2 + 1) (.int .i64 o) = v :: .int .i64 p :: rcells vs (os.set k o)
    rw [rcells_set1 vs os k o (by simpa using h)]
/-- what a row of numbers is made of -/
def isub (zs : List Int) : Nat × List Value := (zs.length, zs.map (Value.int .i64))
/-- v is a slice of n rounds of the call's own, whose counts lie at vs; none of it lies in the blocks X -/
def RndAt (w : World) (base : Nat) (X : List Nat) (v : Value) (n : Nat) (rs : List Bp.Rnd) (vs : List Value) : Prop :=
  rs.length = n ∧ w.ownsRow base 59 2 v n (rcells vs (rs.map (·.2))) ∧ Subs w base 3 1 v.ownBlock vs (rs.map fun r => isub r.1) ∧
    ∀ y ∈ X, v.ownBlock ≠ some y ∧ ∀ i, i < rs.length → (vs.getD i undef).ownBlock ≠ some y
def OwnRd (w : World) (base : Nat) (X : List Nat) (v : Value) (n : Nat) (rs : List Bp.Rnd) : Prop := ∃ vs : List Value, RndAt w base X v n rs vs
section
variable {w w' : World} {bs : Nat} {X : List Nat} {v : Value} {n : Nat} {rs : List Bp.Rnd}
theorem OwnRd.keep (h : OwnRd w bs X v n rs) (hb : Below w.heap.size w w') : OwnRd w' bs X v n rs := by
  obtain ⟨vs, h1, h2, h3, h4⟩ := h
  exact ⟨vs, h1, own_keep h2 hb, h3.keep hb, h4⟩
theorem OwnRd.base {bs' : Nat} (h : OwnRd w bs X v n rs) (hb : bs' ≤ bs) : OwnRd w bs' X v n rs := by
  obtain ⟨vs, h1, h2, h3, h4⟩ := h
  exact ⟨vs, h1, own_base h2 hb, h3.base hb, h4⟩
theorem OwnRd.nil (w : World) (bs : Nat) (X : List Nat) : OwnRd w bs X (.slice none 0 0) 0 [] := ⟨[], rfl, World.ownsRow_nil w bs _ _, Subs.nil .., fun y _ => ⟨(fun e => by cases e), fun i hi => absurd hi (by simp)⟩⟩
theorem OwnRd.len (h : OwnRd w bs X v n rs) : rs.length = n := by
  obtain ⟨vs, h1, _⟩ := h
  exact h1
theorem OwnRd.less {Y : List Nat} (h : OwnRd w bs X v n rs) (hY : ∀ y ∈ Y, y ∈ X) : OwnRd w bs Y v n rs := by
  obtain ⟨vs, h1, h2, h3, h4⟩ := h
  exact ⟨vs, h1, h2, h3, fun y hy => h4 y (hY y hy)⟩
theorem OwnRd.avoid (h : OwnRd w bs X v n rs) {y : Nat} (hy : w.heap.size ≤ y) : OwnRd w bs (y :: X) v n rs := by
  obtain ⟨vs, h1, h2, h3, h4⟩ := h
  refine ⟨vs, h1, h2, h3, fun z hz => ?_⟩
  rcases List.mem_cons.1 hz with rfl | hz
  · refine ⟨fun e => ?_, fun i hi e => ?_⟩
    · have := (h2.lt _ e).2; omega
    · obtain ⟨g, e1, _, e2⟩ := (h3.sub i (by simpa using hi)).block
      rw [e1] at e
      injection e with e
      omega
  · exact h4 z hz
theorem OwnRd.only (h : OwnRd w bs X v n rs) {y : Nat} (hg : w.grownBy w' (some y)) (hy : y ∈ X) : OwnRd w' bs X v n rs := by
  obtain ⟨vs, h1, h2, h3, h4⟩ := h
  refine ⟨vs, h1, h2.kept hg ?_, h3.far hg (fun i hi => ?_), h4⟩
  · rcases h2.2 with ⟨rfl, _⟩ | ⟨g, cap, cur, rfl, _⟩
    · exact .inl rfl
    · exact .inr (h4 y hy).1
  · exact ((h4 y hy).2 i (by simpa using hi)).symm
theorem RndAt.keep {vs : List Value} (h : RndAt w bs X v n rs vs) (hb : Below w.heap.size w w') : RndAt w' bs X v n rs vs := ⟨h.1, own_keep h.2.1 hb, h.2.2.1.keep hb, h.2.2.2⟩
theorem RndAt.less {Y : List Nat} {vs : List Value} (h : RndAt w bs X v n rs vs) (hY : ∀ y ∈ Y, y ∈ X) : RndAt w bs Y v n rs vs := ⟨h.1, h.2.1, h.2.2.1, fun y hy => h.2.2.2 y (hY y hy)⟩
/-- one round more -/
theorem RndAt.snoc {w1 : World} {v' : Value} {vs : List Value} {zs : List Int} {o : Int} {g c m : Nat} (h : RndAt w bs (g :: X) v n rs vs) (hm : zs.length = m) (hs : Own w bs (.slice (some ⟨g, 0, none⟩) m c) m zs) (hX : ∀ y ∈ X, y < w.heap.size ∧ y ≠ g)
    (hg : w.grownBy w1 v.ownBlock) (hat : v'.ownBlock = v.ownBlock ∨ v'.ownBlock = some w.heap.size)
    (hown : w1.ownsRow bs 59 2 v' (n + 1) (rcells vs (rs.map (·.2)) ++ [.slice (some ⟨g, 0, none⟩) m c, .int .i64 o])) :
    OwnRd w1 bs X v' (n + 1) (rs ++ [(zs, o)]) := by
  obtain ⟨h1, h2, h3, h4⟩ := h
  have hlt := (hs.row.lt g rfl).2
  have hgv := (h4 g (List.mem_cons_self ..)).1
  have hgs := (h4 g (List.mem_cons_self ..)).2
  have h5 := h3.grown hg (own' := v'.ownBlock) (by
    rcases hat with e | e
    · exact .inl e
    · exact .inr (fun x hx => by rw [e] at hx; injection hx with hx; omega))
  have hsub : Sub w1 bs 3 1 (.slice (some ⟨g, 0, none⟩) m c) m (zs.map (Value.int .i64)) := by
    refine ⟨?_, g, c, rfl⟩
    exact hs.row.kept hg (.inr (by rw [show (Value.slice (some ⟨g, 0, none⟩) m c).ownBlock = some g from rfl]; exact hgv.symm))
  have hvl : vs.length = rs.length := by have := h3.len; simpa using this
  refine ⟨vs ++ [.slice (some ⟨g, 0, none⟩) m c], by simp [h1], ?_, ?_, fun y hy => ⟨?_, fun i hi => ?_⟩⟩
  · rw [List.map_append]
    show w1.ownsRow bs 59 2 v' (n + 1) (rcells (vs ++ [_]) (rs.map (·.2) ++ [o]))
    rw [rcells_snoc _ _ _ _ (by rw [List.length_map]; exact hvl)]
    exact hown
  · rw [List.map_append]
    show Subs w1 bs 3 1 v'.ownBlock _ (rs.map (fun r => isub r.1) ++ [(zs.length, zs.map (Value.int .i64))])
    rw [hm]
    refine h5.snoc hsub ?_ (fun i hi => hgs i (by simpa using hi))
    rcases hat with e | e
    · rw [e]; exact hgv
    · rw [e]
      show some w.heap.size ≠ some g
      intro e2; injection e2 with e2; omega
  · rcases hat with e | e
    · rw [e]; exact (h4 y (List.mem_cons_of_mem _ hy)).1
    · rw [e]
      intro e2; injection e2 with e2
      have := (hX y hy).1; omega
  · rw [List.length_append] at hi
    by_cases hi' : i < rs.length
    · have e : (vs ++ [Value.slice (some ⟨g, 0, none⟩) m c]).getD i undef = vs.getD i undef := by simp [List.getD, List.getElem?_append_left (show i < vs.length by omega)]
      rw [e]
      exact (h4 y (List.mem_cons_of_mem _ hy)).2 i hi'
    · have e : (vs ++ [Value.slice (some ⟨g, 0, none⟩) m c]).getD i undef = .slice (some ⟨g, 0, none⟩) m c := by
        have : i = vs.length := by simp at hi; omega
        subst this
        simp [List.getD]
      rw [e]
      show some g ≠ some y
      intro e2; injection e2 with e2
      exact (hX y hy).2 e2.symm
end
/-- what a function of rounds leaves -/
def rres (ok : Bool) (rs : List Bp.Rnd) : List Bp.Rnd := if ok then rs else []
theorem rres_yes {ok : Bool} (h : ok = true) (rs : List Bp.Rnd) : rres ok rs = rs := by simp [rres, h]
theorem rres_no {ok : Bool} (h : ok = false) (rs : List Bp.Rnd) : rres ok rs = [] := by simp [rres, h]
def RoundsRes (ok : Bool) (rs : List Bp.Rnd) (w : World) (e : Ending) (w' : World) : Prop :=
  ∃ (A : Option Addr) (n c : Nat), e = .returned (.tuple #[.slice A n c, .bool ok]) ∧ n ≤ c ∧ n ≤ 5 ∧ OwnRd w' w.heap.size [] (.slice A n c) n (rres ok rs) ∧ Below w.heap.size w w'
def sliceLen : Value → Nat
  | .slice _ n _ => n
  | _ => 0

/-- rounds as they read -/
def RoundsV (w : World) (B : Nat) (A : Option Addr) (n : Nat) (rs : List Bp.Rnd) : Prop :=
  rs.length = n ∧ (0 < n → ∃ g o, A = some ⟨g, o, none⟩ ∧ g < B ∧ ∀ k, k < n → ∃ (A' : Option Addr) (m c : Nat), w.cell? ⟨g, o + k * 2, none⟩ = some (.slice A' m c) ∧ m ≤ c ∧ Ints w B A' m (rs.getD k default).1 ∧ w.cell? ⟨g, o + k * 2 + 1, none⟩ = some (.int .i64 (rs.getD k default).2))
theorem RoundsV.below {w w' : World} {B n : Nat} {A : Option Addr} {rs : List Bp.Rnd} (h : RoundsV w B A n rs) (hb : Below B w w') : RoundsV w' B A n rs := ⟨h.1, fun hn => by
  obtain ⟨g, o, e, hl, hc⟩ := h.2 hn
  refine ⟨g, o, e, hl, fun k hk => ?_⟩
  obtain ⟨A', m, c, h1, h2, h3, h4⟩ := hc k hk
  exact ⟨A', m, c, (hb.cell (p := ⟨g, o + k * 2, none⟩) hl).trans h1, h2, h3.below hb, (hb.cell (p := ⟨g, o + k * 2 + 1, none⟩) hl).trans h4⟩⟩
theorem RoundsV.mono {w : World} {B B' n : Nat} {A : Option Addr} {rs : List Bp.Rnd} (h : RoundsV w B A n rs) (hB : B ≤ B') : RoundsV w B' A n rs := ⟨h.1, fun hn => by
  obtain ⟨g, o, e, hl, hc⟩ := h.2 hn
  refine ⟨g, o, e, by omega, fun k hk => ?_⟩
  obtain ⟨A', m, c, h1, h2, h3, h4⟩ := hc k hk
  exact ⟨A', m, c, h1, h2, h3.mono hB, h4⟩⟩
theorem RoundsV.at {w : World} {B n : Nat} {A : Option Addr} {rs : List Bp.Rnd} (h : RoundsV w B A n rs) {k : Nat} (hk : k < n) : ∃ g o A' m c zs out, A = some ⟨g, o, none⟩ ∧ g < B ∧ w.cell? ⟨g, o + k * 2, none⟩ = some (.slice A' m c) ∧ m ≤ c ∧ Ints w B A' m zs ∧ w.cell? ⟨g, o + k * 2 + 1, none⟩ = some (.int .i64 out) ∧ Hid (rs.getD k default = (zs, out)) := by
  obtain ⟨g, o, e, hl, hc⟩ := h.2 (by omega)
  obtain ⟨A', m, c, h1, h2, h3, h4⟩ := hc k hk
  exact ⟨g, o, A', m, c, _, _, e, hl, h1, h2, h3, h4, rfl⟩
theorem sub_ints {w : World} {base : Nat} {v : Value} {zs : List Int} (h : Sub w base 3 1 v zs.length (zs.map (Value.int .i64))) : ∃ g c, v = .slice (some ⟨g, 0, none⟩) zs.length c ∧ zs.length ≤ c ∧ Ints w w.heap.size (some ⟨g, 0, none⟩) zs.length zs := by
  obtain ⟨h1, g, c, rfl⟩ := h
  refine ⟨g, c, rfl, ?_, Own.ints (base := base) (c := c) h1⟩
  rcases h1.2 with ⟨e, _⟩ | ⟨g', cap, cur, e, _, _, hc, _⟩
  · cases e
  · injection e with _ _ e3
    omega
theorem OwnRd.view {w : World} {base : Nat} {A : Option Addr} {n c : Nat} {X : List Nat} {rs : List Bp.Rnd} (h : OwnRd w base X (.slice A n c) n rs) : RoundsV w w.heap.size A n rs := by
  obtain ⟨vs, h1, h2, h3, _⟩ := h
  refine ⟨h1, fun hn => ?_⟩
  have hvl : vs.length = rs.length := by have := h3.len; simpa using this
  rcases h2.2 with ⟨hv, h0⟩ | ⟨g, cap, cur, hv, _, hh, _⟩
  · omega
  · have hlt := (h2.lt g (by rw [hv]; rfl)).2
    injection hv with hA _ _
    subst hA
    refine ⟨g, 0, rfl, hlt, fun k hk => ?_⟩
    have hk' : k < rs.length := by omega
    have hs := h3.sub k (by simpa using hk')
    have e1 : ((rs.map fun r => isub r.1).getD k default) = isub (rs.getD k default).1 := by simp [List.getD, hk']
    rw [e1] at hs
    obtain ⟨g', c', hv', hc', hi⟩ := sub_ints hs
    obtain ⟨c1, c2⟩ := rcells_at vs (rs.map (·.2)) k (by rw [List.length_map]; exact hvl) (by simpa using hk')
    have e2 : (rs.map (·.2)).getD k 0 = (rs.getD k default).2 := by simp [List.getD, hk']
    rw [e2] at c2
    rw [hv'] at c1
    have d1 := h2.cells (g := g) rfl (k * 2) _ c1
    have d2 := h2.cells (g := g) rfl (k * 2 + 1) _ c2
    rw [add_zero_off] at d1 d2
    refine ⟨_, _, c', by simpa using d1, hc', hi, by simpa using d2⟩
end Go.Proofs.Ytdcfpobjiofnmaa
