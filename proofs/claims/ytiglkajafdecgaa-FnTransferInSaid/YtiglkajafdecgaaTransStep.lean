/-
  The walk of a step of the program's transfer.
-/
import Derived.Test.YtiglkajafdecgaaTransW
import Derived.Test.YtiglkajafdecgaaTransLess
namespace Go.Proofs.Ytiglkajafdecgaa
set_option linter.unusedVariables false
open Go.RowKit
set_option linter.unusedSimpArgs false

theorem iFracLess_val (a b c d : Int) (v : Bool) (w : World) (hv1 : Fp.vld a b = true) (hv2 : Fp.vld c d = true) (hv : Fp.less a b c d = v) :
    Calls Try.prog 26 #[.agg #[.int .i64 a, .int .i64 b], .agg #[.int .i64 c, .int .i64 d]] w fun e w' => e = .returned (.bool v) ∧ Below w.heap.size w w' := by
  subst hv; exact iFracLess_any a b c d w hv1 hv2
/-- the struct of a transfer, its weights and who has left -/
structure TrAt (w : World) (B T W L : Nat) (A : Option Addr) (n c : Nat) (A' : Option Addr) (m c' : Nat) (q : Int) (t : Bp.Tst) (f : Nat) : Prop where
  c0 : w.cell? ⟨T, 0, none⟩ = some (.slice A n c)
  c1 : w.cell? ⟨T, 1, none⟩ = some (.slice A' m c')
  c2 : w.cell? ⟨T, 2, none⟩ = some (.slice (some ⟨W, 0, none⟩) n n)
  c3 : w.cell? ⟨T, 3, none⟩ = some (.slice (some ⟨L, 0, none⟩) m m)
  c4 : w.cell? ⟨T, 4, none⟩ = some (.int .i64 f)
  c5 : w.cell? ⟨T, 5, none⟩ = some (.int .i64 t.s)
  c6 : w.cell? ⟨T, 6, none⟩ = some (.int .i64 q)
  f4 : w.frozen? ⟨T, 4, none⟩ = false
  f5 : w.frozen? ⟨T, 5, none⟩ = false
  TW : T ≠ W
  TL : T ≠ L
  LW : L ≠ W
  bT : B ≤ T
  bW : B ≤ W
  bL : B ≤ L
  lL : L < w.heap.size
  W : OwnF w B (.slice (some ⟨W, 0, none⟩) n n) n (Bp.frs t.d t.u)
  L : OwnB w B (.slice (some ⟨L, 0, none⟩) m m) m t.lf
theorem Bp.hilo (counts : List Int) (left : List Bool) {lots : List Int} (hl : Bp.lval lots = true) (k : Nat) (hk : k ≤ lots.length) : (Bp.hiTo counts left lots k = -1 ∧ Bp.leastTo counts left lots k = -1) ∨ ∃ p p' : Nat, p < lots.length ∧ p' < lots.length ∧ Bp.hiTo counts left lots k = p ∧ Bp.leastTo counts left lots k = p' := by
  have hr := fun j hj => (Bp.lval_at hl j hj).1
  have hi := Bp.hiTo_is counts left lots hr k hk
  have lo := Bp.leastTo_is counts left lots hr k hk
  have hnat : ∀ j, j < lots.length → ∃ p : Nat, p < lots.length ∧ lots.getD j 0 = p := fun j hj => by
    have h1 := Bp.lval_at hl j hj
    obtain ⟨p, hp⟩ := Int.eq_ofNat_of_zero_le h1.1
    exact ⟨p, by omega, hp⟩
  rcases hi with ⟨e1, g1⟩ | ⟨p, hp, e1, g1, _⟩
  · rcases lo with ⟨e2, _⟩ | ⟨p', hp', e2, g2, _⟩
    · exact .inl ⟨e1, e2⟩
    · rw [g1 p' hp'] at g2; cases g2
  · rcases lo with ⟨e2, g2⟩ | ⟨p', hp', e2, g2, _⟩
    · rw [g2 p hp] at g1; cases g1
    · obtain ⟨a, ha, ea⟩ := hnat p (by omega)
      obtain ⟨b, hb, eb⟩ := hnat p' (by omega)
      exact .inr ⟨a, b, ha, hb, by rw [e1, ea], by rw [e2, eb]⟩
/-- what stays while a step is done: the struct, the place of the result, the counts -/
structure Core (w0 w : World) (B R0 T W L g : Nat) (A : Option Addr) (n c : Nat) (A' : Option Addr) (m c' : Nat) (q : Int) (f : Nat) (s d0 : Int) (cs : List Int) : Prop where
  c0 : w.cell? ⟨T, 0, none⟩ = some (.slice A n c)
  c1 : w.cell? ⟨T, 1, none⟩ = some (.slice A' m c')
  c2 : w.cell? ⟨T, 2, none⟩ = some (.slice (some ⟨W, 0, none⟩) n n)
  c3 : w.cell? ⟨T, 3, none⟩ = some (.slice (some ⟨L, 0, none⟩) m m)
  c4 : w.cell? ⟨T, 4, none⟩ = some (.int .i64 f)
  c5 : w.cell? ⟨T, 5, none⟩ = some (.int .i64 s)
  c6 : w.cell? ⟨T, 6, none⟩ = some (.int .i64 q)
  f4 : w.frozen? ⟨T, 4, none⟩ = false
  f5 : w.frozen? ⟨T, 5, none⟩ = false
  r0 : w.cell? ⟨R0, 0, none⟩ = some (.slice none 0 0)
  r1 : w.cell? ⟨R0, 1, none⟩ = some (.int .i64 0)
  r2 : w.cell? ⟨R0, 2, none⟩ = some (.int .i64 0)
  r3 : w.frozen? ⟨R0, 0, none⟩ = false
  r4 : w.frozen? ⟨R0, 1, none⟩ = false
  r5 : w.frozen? ⟨R0, 2, none⟩ = false
  G : OwnF w R0 (.slice (some ⟨g, 0, none⟩) m m) m (Bp.frs d0 cs)
  K : Kept [T, W, L] R0 w0 w
  z : R0 ≤ w.heap.size
section
variable {w0 w w' : World} {B R0 T W L g : Nat} {A : Option Addr} {n c : Nat} {A' : Option Addr} {m c' : Nat} {q : Int} {f : Nat} {s d0 : Int} {cs : List Int}
theorem Core.only (h : Core w0 w B R0 T W L g A n c A' m c' q f s d0 cs) {X : Nat} (hg : w.grownBy w' (some X)) (h1 : T ≠ X) (h2 : R0 ≠ X) (h3 : g ≠ X) (h4 : X ∈ [T, W, L] ∨ R0 ≤ X) : Core w0 w' B R0 T W L g A n c A' m c' q f s d0 cs := by
  have e1 : (some T : Option Nat) ≠ some X := fun e => h1 (Option.some.inj e)
  have e2 : (some R0 : Option Nat) ≠ some X := fun e => h2 (Option.some.inj e)
  have tT := lt_of_cell h.c0
  have tR := lt_of_cell h.r0
  refine ⟨hg.cell h.c0 e1, hg.cell h.c1 e1, hg.cell h.c2 e1, hg.cell h.c3 e1, hg.cell h.c4 e1, hg.cell h.c5 e1, hg.cell h.c6 e1, ?_, ?_, hg.cell h.r0 e2, hg.cell h.r1 e2, hg.cell h.r2 e2, ?_, ?_, ?_,
    h.G.row.kept hg (.inr (fun e => h3 (Option.some.inj e))), ?_, Nat.le_trans h.z hg.size⟩
  · exact (World.frozen?_of_block (a := ⟨T, 4, none⟩) (hg.block T tT e1)).trans h.f4
  · exact (World.frozen?_of_block (a := ⟨T, 5, none⟩) (hg.block T tT e1)).trans h.f5
  · exact (World.frozen?_of_block (a := ⟨R0, 0, none⟩) (hg.block R0 tR e2)).trans h.r3
  · exact (World.frozen?_of_block (a := ⟨R0, 1, none⟩) (hg.block R0 tR e2)).trans h.r4
  · exact (World.frozen?_of_block (a := ⟨R0, 2, none⟩) (hg.block R0 tR e2)).trans h.r5
  · rcases h4 with h4 | h4
    · exact h.K.trans (grownBy_kept hg h4 h.z)
    · exact h.K.trans (Below.kept (below_only hg h4 h.z) _)
theorem Core.seat4 {f' : Nat} (h : Core w0 w B R0 T W L g A n c A' m c' q f s d0 cs) (h2 : R0 ≠ T) (h3 : g ≠ T) : Core w0 (w.setCell ⟨T, 4, none⟩ (.int .i64 f')) B R0 T W L g A n c A' m c' q f' s d0 cs := by
  have hg : w.grownBy (w.setCell ⟨T, 4, none⟩ (.int .i64 f')) (some T) := only_setCell (World.grownBy.refl _ _) (.inl rfl) _
  have e2 : (some R0 : Option Nat) ≠ some T := fun e => h2 (Option.some.inj e)
  have e : ∀ k v, k ≠ 4 → w.cell? ⟨T, k, none⟩ = some v → (w.setCell ⟨T, 4, none⟩ (.int .i64 f')).cell? ⟨T, k, none⟩ = some v := fun k v hk hv => (World.cell?_setCell_other _ _ _ _ (by first | (simp; done) | (simp; omega))).trans hv
  refine ⟨e _ _ (by omega) h.c0, e _ _ (by omega) h.c1, e _ _ (by omega) h.c2, e _ _ (by omega) h.c3, World.cell?_setCell_same _ _ _ h.c4, e _ _ (by omega) h.c5, e _ _ (by omega) h.c6, by rw [World.frozen?_setCell]; exact h.f4, by rw [World.frozen?_setCell]; exact h.f5,
    hg.cell h.r0 e2, hg.cell h.r1 e2, hg.cell h.r2 e2, by rw [World.frozen?_setCell]; exact h.r3, by rw [World.frozen?_setCell]; exact h.r4, by rw [World.frozen?_setCell]; exact h.r5,
    h.G.row.kept hg (.inr (fun e => h3 (Option.some.inj e))), h.K.trans (grownBy_kept hg (by simp) h.z), Nat.le_trans h.z hg.size⟩
theorem Core.seat5 {s' : Int} (h : Core w0 w B R0 T W L g A n c A' m c' q f s d0 cs) (h2 : R0 ≠ T) (h3 : g ≠ T) : Core w0 (w.setCell ⟨T, 5, none⟩ (.int .i64 s')) B R0 T W L g A n c A' m c' q f s' d0 cs := by
  have hg : w.grownBy (w.setCell ⟨T, 5, none⟩ (.int .i64 s')) (some T) := only_setCell (World.grownBy.refl _ _) (.inl rfl) _
  have e2 : (some R0 : Option Nat) ≠ some T := fun e => h2 (Option.some.inj e)
  have e : ∀ k v, k ≠ 5 → w.cell? ⟨T, k, none⟩ = some v → (w.setCell ⟨T, 5, none⟩ (.int .i64 s')).cell? ⟨T, k, none⟩ = some v := fun k v hk hv => (World.cell?_setCell_other _ _ _ _ (by first | (simp; done) | (simp; omega))).trans hv
  refine ⟨e _ _ (by omega) h.c0, e _ _ (by omega) h.c1, e _ _ (by omega) h.c2, e _ _ (by omega) h.c3, e _ _ (by omega) h.c4, World.cell?_setCell_same _ _ _ h.c5, e _ _ (by omega) h.c6, by rw [World.frozen?_setCell]; exact h.f4, by rw [World.frozen?_setCell]; exact h.f5,
    hg.cell h.r0 e2, hg.cell h.r1 e2, hg.cell h.r2 e2, by rw [World.frozen?_setCell]; exact h.r3, by rw [World.frozen?_setCell]; exact h.r4, by rw [World.frozen?_setCell]; exact h.r5,
    h.G.row.kept hg (.inr (fun e => h3 (Option.some.inj e))), h.K.trans (grownBy_kept hg (by simp) h.z), Nat.le_trans h.z hg.size⟩
/-- the result is laid -/
theorem Core.laid {wt : World} {t0 : Bp.Tst} {f0 : Nat} {t : Bp.Tst} (h : Core w0 w B R0 T W L g A n c A' m c' q f s d0 cs) (h0 : TrAt wt B T W L A n c A' m c' q t0 f0) (hs : t.s = s) (hR : R0 ≠ T ∧ R0 ≠ W ∧ R0 ≠ L ∧ R0 ≠ g)
    (hW : OwnF w B (.slice (some ⟨W, 0, none⟩) n n) n (Bp.frs t.d t.u)) (hL : OwnB w B (.slice (some ⟨L, 0, none⟩) m m) m t.lf) (a b e : Value) :
    ((((w.setCell ⟨R0, 0, none⟩ a).setCell ⟨R0, 1, none⟩ b).setCell ⟨R0, 2, none⟩ e).drew.cell? ⟨R0, 0, none⟩ = some a ∧ (((w.setCell ⟨R0, 0, none⟩ a).setCell ⟨R0, 1, none⟩ b).setCell ⟨R0, 2, none⟩ e).drew.cell? ⟨R0, 1, none⟩ = some b ∧ (((w.setCell ⟨R0, 0, none⟩ a).setCell ⟨R0, 1, none⟩ b).setCell ⟨R0, 2, none⟩ e).drew.cell? ⟨R0, 2, none⟩ = some e) ∧
    OwnF (((w.setCell ⟨R0, 0, none⟩ a).setCell ⟨R0, 1, none⟩ b).setCell ⟨R0, 2, none⟩ e).drew R0 (.slice (some ⟨g, 0, none⟩) m m) m (Bp.frs d0 cs) ∧
    TrAt (((w.setCell ⟨R0, 0, none⟩ a).setCell ⟨R0, 1, none⟩ b).setCell ⟨R0, 2, none⟩ e).drew B T W L A n c A' m c' q t f ∧ Kept [T, W, L] R0 w0 (((w.setCell ⟨R0, 0, none⟩ a).setCell ⟨R0, 1, none⟩ b).setCell ⟨R0, 2, none⟩ e).drew := by
  obtain ⟨hT, hW', hL', hg'⟩ := hR
  obtain ⟨wx, hwx⟩ : ∃ wx, ((w.setCell ⟨R0, 0, none⟩ a).setCell ⟨R0, 1, none⟩ b).setCell ⟨R0, 2, none⟩ e = wx := ⟨_, rfl⟩
  have hg : w.grownBy wx (some R0) := by rw [← hwx]; refine only_setCell ?_ (.inl rfl) _; refine only_setCell ?_ (.inl rfl) _; refine only_setCell ?_ (.inl rfl) _; exact World.grownBy.refl _ _
  have eT : (some T : Option Nat) ≠ some R0 := fun e => hT (Option.some.inj e).symm
  have tT := lt_of_cell h.c0
  have k0 : wx.cell? ⟨R0, 0, none⟩ = some a := by rw [← hwx]; exact (World.cell?_setCell_other _ _ _ _ (by simp)).trans ((World.cell?_setCell_other _ _ _ _ (by simp)).trans (World.cell?_setCell_same _ _ _ h.r0))
  have k1 : wx.cell? ⟨R0, 1, none⟩ = some b := by rw [← hwx]; exact (World.cell?_setCell_other _ _ _ _ (by simp)).trans (World.cell?_setCell_same _ _ _ ((World.cell?_setCell_other _ _ _ _ (by simp)).trans h.r1))
  have k2 : wx.cell? ⟨R0, 2, none⟩ = some e := by rw [← hwx]; exact World.cell?_setCell_same _ _ _ ((World.cell?_setCell_other _ _ _ _ (by simp)).trans ((World.cell?_setCell_other _ _ _ _ (by simp)).trans h.r2))
  rw [hwx]
  have hg := only_drew hg
  refine ⟨⟨k0, k1, k2⟩, h.G.row.kept hg (.inr (fun e => hg' (Option.some.inj e).symm)), ?_, h.K.trans (Below.kept (below_only hg (Nat.le_refl _) h.z) _)⟩
  have hz := hg.size
  have hlL := (hL.row.lt L rfl).2
  exact ⟨hg.cell h.c0 eT, hg.cell h.c1 eT, hg.cell h.c2 eT, hg.cell h.c3 eT, hg.cell h.c4 eT, by rw [hs]; exact hg.cell h.c5 eT, hg.cell h.c6 eT, (World.frozen?_of_block (a := ⟨T, 4, none⟩) (hg.block T tT eT)).trans h.f4, (World.frozen?_of_block (a := ⟨T, 5, none⟩) (hg.block T tT eT)).trans h.f5,
    h0.TW, h0.TL, h0.LW, h0.bT, h0.bW, h0.bL, Nat.lt_of_lt_of_le hlL hz, hW.row.kept hg (.inr (fun e => hW' (Option.some.inj e).symm)), hL.row.kept hg (.inr (fun e => hL' (Option.some.inj e).symm))⟩
theorem Core.below (h : Core w0 w B R0 T W L g A n c A' m c' q f s d0 cs) (hb : Below w.heap.size w w') : Core w0 w' B R0 T W L g A n c A' m c' q f s d0 cs := by
  have tT := lt_of_cell h.c0
  have tR := lt_of_cell h.r0
  exact ⟨(hb.cell (p := ⟨T, 0, none⟩) tT).trans h.c0, (hb.cell (p := ⟨T, 1, none⟩) tT).trans h.c1, (hb.cell (p := ⟨T, 2, none⟩) tT).trans h.c2, (hb.cell (p := ⟨T, 3, none⟩) tT).trans h.c3, (hb.cell (p := ⟨T, 4, none⟩) tT).trans h.c4, (hb.cell (p := ⟨T, 5, none⟩) tT).trans h.c5, (hb.cell (p := ⟨T, 6, none⟩) tT).trans h.c6, (hb.frozen (p := ⟨T, 4, none⟩) tT).trans h.f4, (hb.frozen (p := ⟨T, 5, none⟩) tT).trans h.f5,
    (hb.cell (p := ⟨R0, 0, none⟩) tR).trans h.r0, (hb.cell (p := ⟨R0, 1, none⟩) tR).trans h.r1, (hb.cell (p := ⟨R0, 2, none⟩) tR).trans h.r2, (hb.frozen (p := ⟨R0, 0, none⟩) tR).trans h.r3, (hb.frozen (p := ⟨R0, 1, none⟩) tR).trans h.r4, (hb.frozen (p := ⟨R0, 2, none⟩) tR).trans h.r5, h.G.keep hb, h.K.trans (Below.kept (hb.mono h.z) _), Nat.le_trans h.z hb.size⟩
end
set_option maxRecDepth 100000 in
set_option maxHeartbeats 8000000 in
theorem step_any (B T W L : Nat) (A : Option Addr) (n c : Nat) (A' : Option Addr) (m c' : Nat) (q : Int) (t : Bp.Tst) (f : Nat) (ps : List Bp.Pile) (lots : List Int) (w : World)
    (h : TrAt w B T W L A n c A' m c' q t (f + 1)) (hP : Piles w B A n ps) (hI : Ints w B A' m lots) (hnc : n ≤ c) (hmc : m ≤ c') (hBw : B ≤ w.heap.size) (hlv : Bp.lval lots = true) (hfit : Bp.fits ps m = true) (hs : Bp.psum ps ≤ 60) (hq : 1 ≤ q) (hq' : q ≤ 61)
    (hok : Bp.Tok ps lots (f + 1) t) (h1 : 1 ≤ t.s) :
    Calls Try.prog 44 #[.pointer (some ⟨T, 0, none⟩)] w fun e w' => ∃ g, e = .returned (.agg #[.slice (some ⟨g, 0, none⟩) m m, .int .i64 (t.who ps lots q), .int .i64 (t.kind ps lots q)]) ∧ w.heap.size ≤ g ∧ OwnF w' w.heap.size (.slice (some ⟨g, 0, none⟩) m m) m (Bp.frs t.d (t.ns ps)) ∧
      TrAt w' B T W L A n c A' m c' q (t.next ps lots q) f ∧ Kept [T, W, L] w.heap.size w w' := by
  have hl := Lib.hid hI.1
  have hlm := Lib.hid h.L.len
  have hul : t.u.length = n := by rw [hok.ul]; exact hP.1.1
  have hm5 := Bp.lval_n hlv
  rw [hl.out] at hm5
  obtain ⟨m1, m5⟩ := hm5
  have tT := lt_of_cell h.c0
  simp only at tT
  have tW := (h.W.row.lt W rfl).2
  have tL := h.lL
  have hd1 := hok.d1
  have hd60 := hok.d60 h1
  have hs2 := hok.two
  have hbd := Lib.hid (hok.bd (Bp.fits_val hfit) hs)
  have hlen : (t.ns ps).length = m := by unfold Bp.Tst.ns; rw [Bp.nums_len]; exact hlm.out
  have hvld : ∀ j, Fp.vld (Bp.fr t.d ((t.ns ps).getD j 0)).1 (Bp.fr t.d ((t.ns ps).getD j 0)).2 = true := fun j => by
    have := hbd.out j
    exact Bp.fr_vld hd1 (by omega) (by omega) (by omega)
  have Hless := Lib.hid (fun j k => Bp.fr_less_same (d := t.d) hd1 (hvld j) (hvld k))
  have Hvld := Lib.hid hvld
  have Hlv := Lib.hid hlv
  have Hok := Lib.hid hok
  have Hfit := Lib.hid hfit
  have hcT0 := h.c0
  have hcT1 := h.c1
  have hcT2 := h.c2
  have hcT3 := h.c3
  have hcT4 := h.c4
  have hcT5 := h.c5
  have hcT6 := h.c6
  have H := Lib.hid h
  obtain ⟨cs, hcs⟩ : ∃ cs, t.ns ps = cs := ⟨_, rfl⟩
  rw [hcs] at hlen
  simp only [hcs] at Hless Hvld
  have Hcs := Lib.hid hcs
  clear hlv hok hfit hvld hcs h
  have Hn := Lib.hid (H.out)
  go_enter Try.func44, Try.ntmps44
  go_wp2_with fail
  obtain ⟨R0, hR0⟩ : ∃ R0, w.heap.size = R0 := ⟨_, rfl⟩
  have HR := Lib.hid hR0
  rw [hR0]
  obtain ⟨w1, hw1⟩ : ∃ w1, w.alloc (.cells #[.slice none 0 0, .int .i64 0, .int .i64 0] 47) = w1 := ⟨_, rfl⟩
  have hb1 : Below w.heap.size w w1 := by rw [← hw1]; exact (Below.refl _ _).alloc (Nat.le_refl _) _
  have hz1 : R0 < w1.heap.size := by rw [← hw1, ← hR0]; simp
  have e0 : w1.cell? ⟨R0, 0, none⟩ = some (.slice none 0 0) := by rw [← hw1, ← hR0]; simp [go_sem]
  have e1 : w1.cell? ⟨R0, 1, none⟩ = some (.int .i64 0) := by rw [← hw1, ← hR0]; simp [go_sem]
  have e2 : w1.cell? ⟨R0, 2, none⟩ = some (.int .i64 0) := by rw [← hw1, ← hR0]; simp [go_sem]
  have e3 : w1.frozen? ⟨R0, 0, none⟩ = false := by rw [← hw1, ← hR0]; simp [go_sem]
  have e4 : w1.frozen? ⟨R0, 1, none⟩ = false := by rw [← hw1, ← hR0]; simp [go_sem]
  have e5 : w1.frozen? ⟨R0, 2, none⟩ = false := by rw [← hw1, ← hR0]; simp [go_sem]
  rw [hw1]
  refine (counts_any T A n c A' m c' W n L m ps t.d t.u t.lf _ ((hb1.cell (p := ⟨T, 0, none⟩) tT).trans hcT0) ((hb1.cell (p := ⟨T, 1, none⟩) tT).trans hcT1) ((hb1.cell (p := ⟨T, 2, none⟩) tT).trans hcT2) ((hb1.cell (p := ⟨T, 3, none⟩) tT).trans hcT3) ((hP.below (hb1.mono hBw)).mono (by omega)) hnc (H.out.W.keep hb1).view (H.out.L.keep hb1).bools Hfit.out hd1 hd60 Hok.out.u hs hul).mono ?_
  rintro e w2 ⟨g, rfl, hg, hown, hb2⟩
  have hB2 : Below R0 w w2 := by rw [← hR0]; exact hb1.trans (hb2.mono (by omega))
  have hz2 := hb2.size
  have hgl := (hown.row.lt g rfl).2
  have own2 : OwnF w2 R0 (.slice (some ⟨g, 0, none⟩) m m) m (Bp.frs t.d cs) := by rw [← Hcs.out]; exact hown.base (by omega)
  have r0 := (hb2.cell (p := ⟨R0, 0, none⟩) hz1).trans e0
  have r1 := (hb2.cell (p := ⟨R0, 1, none⟩) hz1).trans e1
  have r2 := (hb2.cell (p := ⟨R0, 2, none⟩) hz1).trans e2
  have r3 := (hb2.frozen (p := ⟨R0, 0, none⟩) hz1).trans e3
  have r4 := (hb2.frozen (p := ⟨R0, 1, none⟩) hz1).trans e4
  have r5 := (hb2.frozen (p := ⟨R0, 2, none⟩) hz1).trans e5
  rw [hR0] at tT tW tL hBw
  have cT1 := (hB2.cell (p := ⟨T, 1, none⟩) tT).trans hcT1
  have hLB : OwnB w2 B (.slice (some ⟨L, 0, none⟩) m m) m t.lf := H.out.L.keep (by rw [hR0]; exact hB2)
  have hWB : OwnF w2 B (.slice (some ⟨W, 0, none⟩) n n) n (Bp.frs t.d t.u) := H.out.W.keep (by rw [hR0]; exact hB2)
  have hgR : R0 < g := by omega
  clear hown hg hb2 hb1 e0 e1 e2 e3 e4 e5 hw1 hz1 hR0
  go_wp2_with fail
  go_loopw [4, 5, 16] (fun mo lo i wr => ∃ j : Nat, j ≤ m ∧ i = .int .i64 j ∧ mo = .int .i64 (Bp.hiTo cs t.lf lots j) ∧ lo = .int .i64 (Bp.leastTo cs t.lf lots j) ∧ Below w2.heap.size w2 wr) (fun _ _ i _ => m - (intOf i).toNat)
  case atStart => exact ⟨0, Nat.zero_le _, rfl, rfl, rfl, Below.refl _ _⟩
  case round =>
    obtain ⟨j, hj, rfl, rfl, rfl, hb⟩ := hrel
    have hz := hb.size
    have cT3 := (hb.cell (p := ⟨T, 3, none⟩) (show T < w2.heap.size by omega)).trans ((hB2.cell (p := ⟨T, 3, none⟩) tT).trans hcT3)
    have ownw := own2.keep hb
    have Lw := hLB.keep hb
    by_cases hlt : j < m
    · obtain ⟨g2, o2, z2, rfl, hg2, hc2, hz2'⟩ := ((hI.below (hB2.mono hBw)).below (hb.mono (show B ≤ w2.heap.size by omega))).at hlt
      have hzr := Bp.lval_at Hlv.out j (by rw [hl.out]; exact hlt)
      rw [hz2'.out, hl.out] at hzr
      obtain ⟨zn, rfl⟩ := Int.eq_ofNat_of_zero_le hzr.1
      have hzn : zn < m := by omega
      obtain ⟨cL, _⟩ := ownB_cell Lw zn hzn
      obtain ⟨⟨z0, z1⟩, _, _⟩ := ownF_cell ownw zn hzn
      rw [Bp.frs_at t.d cs (by omega)] at z0 z1
      have i1 : (0 : Int) ≤ (j : Int) := by omega
      have i2 : (j : Int) < (m : Int) := by omega
      have i3 : (0 : Int) ≤ (zn : Int) := by omega
      have i4 : (zn : Int) < (m : Int) := by omega
      have hnx1 : Bp.hiTo cs t.lf lots (j + 1) = if t.lf.getD zn false then Bp.hiTo cs t.lf lots j else if Bp.hiTo cs t.lf lots j < 0 ∨ cs.getD (Bp.hiTo cs t.lf lots j).toNat 0 < cs.getD zn 0 then (zn : Int) else Bp.hiTo cs t.lf lots j := by
        rw [Bp.hiTo, hz2'.out, Int.toNat_natCast]
      have hnx2 : Bp.leastTo cs t.lf lots (j + 1) = if t.lf.getD zn false then Bp.leastTo cs t.lf lots j else if Bp.leastTo cs t.lf lots j < 0 ∨ cs.getD zn 0 ≤ cs.getD (Bp.leastTo cs t.lf lots j).toNat 0 then (zn : Int) else Bp.leastTo cs t.lf lots j := by
        rw [Bp.leastTo, hz2'.out, Int.toNat_natCast]
      obtain ⟨bz, hbz⟩ : ∃ bz, t.lf.getD zn false = bz := ⟨_, rfl⟩
      rw [hbz] at cL hnx1 hnx2
      have Hnx1 := Lib.hid hnx1
      have Hnx2 := Lib.hid hnx2
      have hhl := Bp.hilo cs t.lf Hlv.out j (by rw [hl.out]; omega)
      rw [hl.out] at hhl
      have hvz := Hvld.out zn
      have hlz := fun p => Hless.out p zn
      obtain ⟨za, zb, hzab⟩ : ∃ za zb, Bp.fr t.d (cs.getD zn 0) = (za, zb) := ⟨_, _, rfl⟩
      rw [hzab] at z0 z1 hvz
      simp only [hzab] at hlz
      dsimp only at z0 z1 hvz
      have Hvz := Lib.hid hvz
      have Hlz := Lib.hid hlz
      clear hnx1 hnx2 hbz hzab hvz hlz hcT0 hcT1 hcT2 hcT3 hcT4 hcT5 hcT6
      cases bz
      · rcases hhl with ⟨eh, el⟩ | ⟨p, p', hp, hp', eh, el⟩
        · rw [eh] at Hnx1 ⊢
          rw [el] at Hnx2 ⊢
          have d0 : decide ((-1 : Int) < 0) = true := by decide
          clear eh el
          go_wp2_with fail
          go_quiet (fail)
          go_wp2_with fail
          go_quiet (fail)
          go_wp2_with fail
          go_roundw
          case rel => exact ⟨j + 1, by omega, by go_num, by rw [Hnx1.out, if_neg (by simp), if_pos (.inl (by omega))], by rw [Hnx2.out, if_neg (by simp), if_pos (.inl (by omega))], below_drewN hb _⟩
          case measure => simp [intOf]; omega
        · rw [eh, Int.toNat_natCast] at Hnx1
          rw [el, Int.toNat_natCast] at Hnx2
          rw [eh, el]
          clear eh el
          obtain ⟨⟨p0, p1⟩, _, _⟩ := ownF_cell ownw p hp
          obtain ⟨⟨q0, q1⟩, _, _⟩ := ownF_cell ownw p' hp'
          rw [Bp.frs_at t.d cs (by omega)] at p0 p1 q0 q1
          have hlp := Hlz.out p
          have hlq := Hlz.out p'
          have hvp := Hvld.out p
          have hvq := Hvld.out p'
          obtain ⟨pa, pb, hpab⟩ : ∃ pa pb, Bp.fr t.d (cs.getD p 0) = (pa, pb) := ⟨_, _, rfl⟩
          obtain ⟨qa, qb, hqab⟩ : ∃ qa qb, Bp.fr t.d (cs.getD p' 0) = (qa, qb) := ⟨_, _, rfl⟩
          rw [hpab] at p0 p1 hvp hlp
          rw [hqab] at q0 q1 hvq hlq
          dsimp only at p0 p1 q0 q1 hvp hvq hlp hlq
          obtain ⟨b1, hb1⟩ : ∃ b1, decide (cs.getD p 0 < cs.getD zn 0) = b1 := ⟨_, rfl⟩
          obtain ⟨b2, hb2⟩ : ∃ b2, decide (cs.getD p' 0 < cs.getD zn 0) = b2 := ⟨_, rfl⟩
          rw [hb1] at hlp
          rw [hb2] at hlq
          have Hlp := Lib.hid hlp
          have Hlq := Lib.hid hlq
          have Hvp := Lib.hid hvp
          have Hvq := Lib.hid hvq
          have Hb1 := Lib.hid hb1
          have Hb2 := Lib.hid hb2
          clear hlp hlq hvp hvq hpab hqab hb1 hb2
          have hpn : ¬ (p : Int) < 0 := by omega
          have hqn : ¬ (p' : Int) < 0 := by omega
          have d0 : decide ((p : Int) < 0) = false := decide_eq_false hpn
          have d1 : decide ((p' : Int) < 0) = false := decide_eq_false hqn
          have i5 : (0 : Int) ≤ (p : Int) := by omega
          have i6 : (p : Int) < (m : Int) := by omega
          have i7 : (0 : Int) ≤ (p' : Int) := by omega
          have i8 : (p' : Int) < (m : Int) := by omega
          have ka0 := fun x => calm_cell (W := wr) z0 x
          have ka1 := fun x => calm_cell (W := wr) z1 x
          have kp0 := fun x => calm_cell (W := wr) p0 x
          have kp1 := fun x => calm_cell (W := wr) p1 x
          have hglr : g < wr.heap.size := by omega
          cases b1 <;> cases b2
          all_goals
            go_wp2_with fail
            refine wp_region_calm (by kernel_rfl) (by kernel_rfl) ?_
            repeat (go_big_quiet_step ((go_at_call 26; exact calm_call (iFracLess_val pa pb za zb _ _ Hvp.out Hvz.out Hlp.out))))
            refine wpQuiet_nil ?_
            rintro w3 ⟨⟨_, hb3⟩, rfl⟩
            have kz0 := fun x => calm_cell (W := w3) ((hb3.cell (p := ⟨g, zn * 2, none⟩) hglr).trans z0) x
            have kz1 := fun x => calm_cell (W := w3) ((hb3.cell (p := ⟨g, zn * 2 + 1, none⟩) hglr).trans z1) x
            have kq0 := fun x => calm_cell (W := w3) ((hb3.cell (p := ⟨g, p' * 2, none⟩) hglr).trans q0) x
            have kq1 := fun x => calm_cell (W := w3) ((hb3.cell (p := ⟨g, p' * 2 + 1, none⟩) hglr).trans q1) x
            have hB3 := hb.trans (hb3.mono hz)
            clear ka0 ka1 kp0 kp1 z0 z1 p0 p1 q0 q1 hb3
            go_wp2_with fail
            refine wp_region_calm (by kernel_rfl) (by kernel_rfl) ?_
            repeat (go_big_quiet_step ((go_at_call 26; exact calm_call (iFracLess_val qa qb za zb _ _ Hvq.out Hvz.out Hlq.out))))
            refine wpQuiet_nil ?_
            rintro w4 ⟨⟨_, hb4⟩, rfl⟩
            clear kz0 kz1 kq0 kq1
            go_wp2_with fail
            go_roundw
            case rel =>
              have x1 := Hb1.out
              have x2 := Hb2.out
              first | rw [decide_eq_true_iff] at x1 | rw [decide_eq_false_iff_not] at x1
              first | rw [decide_eq_true_iff] at x2 | rw [decide_eq_false_iff_not] at x2
              refine ⟨j + 1, by omega, by go_num, ?_, ?_, hB3.trans (hb4.mono (by have := hB3.size; omega))⟩
              · rw [Hnx1.out, if_neg (by simp)]
                split <;> first | rfl | (exfalso; omega)
              · rw [Hnx2.out, if_neg (by simp)]
                split <;> first | rfl | (exfalso; omega)
            case measure => simp [intOf]; omega
      · clear hhl
        go_wp2_with fail
        go_roundw
        case rel => exact ⟨j + 1, by omega, by go_num, by rw [Hnx1.out, if_pos rfl], by rw [Hnx2.out, if_pos rfl], hb⟩
        case measure => simp [intOf]; omega
    · have hjm : j = m := by omega
      have hhe : Bp.hiTo cs t.lf lots m = Bp.hi cs t.lf lots := by rw [← hl.out]; rfl
      have hle : Bp.leastTo cs t.lf lots m = Bp.least cs t.lf lots := by rw [← hl.out]; rfl
      rw [hjm, hhe, hle]
      have hk := t.kind_cases ps lots q
      obtain ⟨x, hx, htop, hhi⟩ := Hok.out.hi Hlv.out
      obtain ⟨y, hy, hlo⟩ := Bp.lo_is (counts := t.ns ps) Hlv.out Hok.out.len (by rw [Hok.out.there]; omega)
      have hx' : Bp.hi cs t.lf lots = (x : Int) := by rw [← Hcs.out]; exact hx
      have hy' : Bp.least cs t.lf lots = (y : Int) := by rw [← Hcs.out]; exact hy
      rw [hx', hy']
      have hxm := hhi.lt
      have hym := hlo.lt
      rw [hl.out] at hxm hym
      rw [Hcs.out] at htop
      have hwho : t.who ps lots q = if t.kind ps lots q = 2 then (y : Int) else (x : Int) := by
        unfold Bp.Tst.who
        rw [hx]
        show (if t.kind ps lots q = 2 then Bp.least (t.ns ps) t.lf lots else _) = _
        rw [hy]
      have hbx := hbd.out x
      rw [Hcs.out] at hbx
      have hlw := Bp.fr_less_whole (d := t.d) (a := cs.getD x 0) (q := q) hd1 (Hvld.out x) (by omega) (by omega)
      have hth := Hok.out.there
      have hf5 : f + 1 ≤ 5 := by
        have h1 := (Bp.thereTo_bd t.lf t.lf.length).2
        have h2 : Bp.there t.lf = Bp.thereTo t.lf t.lf.length := rfl
        rw [hlm.out] at h1 h2
        omega
      have Hhx := Lib.hid hx
      have Hhy := Lib.hid hy
      have Hwho := Lib.hid hwho
      have Hhi := Lib.hid hhi
      have Hlo := Lib.hid hlo
      obtain ⟨⟨x0, x1⟩, _, _⟩ := ownF_cell ownw x hxm
      rw [Bp.frs_at t.d cs (by omega)] at x0 x1
      have hvx := Hvld.out x
      have hfx : Bp.fr t.d (cs.getD x 0) = Bp.fr t.d (cs.getD x 0) := rfl
      obtain ⟨xa, xb, hxab⟩ : ∃ xa xb, Bp.fr t.d (cs.getD x 0) = (xa, xb) := ⟨_, _, rfl⟩
      rw [hxab] at x0 x1 hvx hlw
      dsimp only at x0 x1 hvx hlw
      have hvq : Fp.vld q 1 = true := by
        have := Bp.fr_vld (d := 1) (n := q) (by omega) (by omega) (by omega) (by omega)
        rwa [Bp.fr_one] at this
      have Hvx := Lib.hid hvx
      have Hvq := Lib.hid hvq
      have Hxab := Lib.hid hxab
      have hB : Below R0 w wr := hB2.trans (hb.mono (by omega))
      have hRr : R0 < w2.heap.size := by omega
      have hC : Core w wr B R0 T W L g A n c A' m c' q (f + 1) t.s t.d cs :=
        ⟨(hB.cell (p := ⟨T, 0, none⟩) tT).trans hcT0, (hB.cell (p := ⟨T, 1, none⟩) tT).trans hcT1, (hB.cell (p := ⟨T, 2, none⟩) tT).trans hcT2, (hB.cell (p := ⟨T, 3, none⟩) tT).trans hcT3, (hB.cell (p := ⟨T, 4, none⟩) tT).trans hcT4, (hB.cell (p := ⟨T, 5, none⟩) tT).trans hcT5, (hB.cell (p := ⟨T, 6, none⟩) tT).trans hcT6, (hB.frozen (p := ⟨T, 4, none⟩) tT).trans H.out.f4, (hB.frozen (p := ⟨T, 5, none⟩) tT).trans H.out.f5,
          (hb.cell (p := ⟨R0, 0, none⟩) hRr).trans r0, (hb.cell (p := ⟨R0, 1, none⟩) hRr).trans r1, (hb.cell (p := ⟨R0, 2, none⟩) hRr).trans r2, (hb.frozen (p := ⟨R0, 0, none⟩) hRr).trans r3, (hb.frozen (p := ⟨R0, 1, none⟩) hRr).trans r4, (hb.frozen (p := ⟨R0, 2, none⟩) hRr).trans r5, ownw, Below.kept hB _, by omega⟩
      have b6 := hC.c6
      have Ww := hWB.keep hb
      have hglr : g < wr.heap.size := by omega
      have i5 : (0 : Int) ≤ (x : Int) := by omega
      have i6 : (x : Int) < (m : Int) := by omega
      have i7 : (0 : Int) ≤ (y : Int) := by omega
      have i8 : (y : Int) < (m : Int) := by omega
      clear hhe hle hx hy hx' hy' hwho hhi hlo hvx hvq hxab hfx hcT0 hcT1 hcT2 hcT3 hcT4 hcT5 hcT6 r0 r1 r2 r3 r4 r5 own2 hLB hWB
      obtain ⟨S, hS⟩ : ∃ S, wr.heap.size = S := ⟨_, rfl⟩
      have HS := Lib.hid hS
      go_wp2_with fail
      obtain ⟨w5, hw5⟩ : ∃ w5, wr.alloc (.cells #[.slice (some ⟨g, 0, none⟩) m m, .int .i64 (x : Int), .int .i64 0] 47) = w5 := ⟨_, rfl⟩
      have hb5 : Below wr.heap.size wr w5 := by rw [← hw5]; exact (Below.refl _ _).alloc (Nat.le_refl _) _
      have hz5 : S < w5.heap.size := by rw [← hw5, ← hS]; simp
      have hSz : wr.heap.size ≤ S := by omega
      have s0 : w5.cell? ⟨S, 0, none⟩ = some (.slice (some ⟨g, 0, none⟩) m m) := by rw [← hw5, ← hS]; simp [go_sem]
      have s1 : w5.cell? ⟨S, 1, none⟩ = some (.int .i64 (x : Int)) := by rw [← hw5, ← hS]; simp [go_sem]
      have s2 : w5.cell? ⟨S, 2, none⟩ = some (.int .i64 0) := by rw [← hw5, ← hS]; simp [go_sem]
      have s3 : w5.frozen? ⟨S, 1, none⟩ = false := by rw [← hw5, ← hS]; simp [go_sem]
      have s4 : w5.frozen? ⟨S, 2, none⟩ = false := by rw [← hw5, ← hS]; simp [go_sem]
      rw [hw5]
      clear hS
      have y0 := (hb5.cell (p := ⟨g, x * 2, none⟩) hglr).trans x0
      have y1 := (hb5.cell (p := ⟨g, x * 2 + 1, none⟩) hglr).trans x1
      have kx0 := fun z => calm_cell (W := w5) y0 z
      have kx1 := fun z => calm_cell (W := w5) y1 z
      have k6 := fun z => calm_cell (W := w5) ((hb5.cell (p := ⟨T, 6, none⟩) (show T < wr.heap.size by omega)).trans b6) z
      obtain ⟨v, hv⟩ : ∃ v, decide (cs.getD x 0 < q * t.d) = v := ⟨_, rfl⟩
      rw [hv] at hlw
      have Hlw := Lib.hid hlw
      have Hv := Lib.hid hv
      have kTL : T ≠ L := H.out.TL
      have kTW : T ≠ W := H.out.TW
      have kLW : L ≠ W := H.out.LW
      have kSL : ¬ S = L := by omega
      have kST : ¬ S = T := by omega
      have kSW : ¬ S = W := by omega
      have kSR : ¬ S = R0 := by omega
      have kgS : ¬ g = S := by omega
      have kgT : ¬ g = T := by omega
      have kTS : ¬ T = S := by omega
      have kTR : ¬ T = R0 := by omega
      have kRT : ¬ R0 = T := by omega
      have kRS : ¬ R0 = S := by omega
      have kSg : ¬ S = g := by omega
      have kLT : ¬ L = T := Ne.symm kTL
      have kLS : ¬ L = S := by omega
      have kWS : ¬ W = S := by omega
      clear hlw hv x0 x1
      cases v
      all_goals
        refine wp_region_calm (by kernel_rfl) (by kernel_rfl) ?_
        repeat (go_big_quiet_step ((go_at_call 26; exact calm_call (iFracLess_val xa xb q 1 _ _ Hvx.out Hvq.out Hlw.out))))
        refine wpQuiet_nil ?_
        rintro w6 ⟨⟨_, hb6⟩, rfl⟩
        have hB6 : Below wr.heap.size wr w6 := hb5.trans (hb6.mono (by omega))
        have hz6 := hb6.size
        have C6 := hC.below hB6
        have hB0 : Below B w w6 := (hB.trans (hB6.mono (by omega))).mono hBw
        have W6 := Ww.keep hB6
        have L6 := Lw.keep hB6
        have t0 := (hb6.cell (p := ⟨S, 0, none⟩) hz5).trans s0
        have t1 := (hb6.cell (p := ⟨S, 1, none⟩) hz5).trans s1
        have t2 := (hb6.cell (p := ⟨S, 2, none⟩) hz5).trans s2
        have t3 := (hb6.frozen (p := ⟨S, 1, none⟩) hz5).trans s3
        have t4 := (hb6.frozen (p := ⟨S, 2, none⟩) hz5).trans s4
        have x0 := (hb6.cell (p := ⟨g, x * 2, none⟩) (show g < w5.heap.size by omega)).trans y0
        have x1 := (hb6.cell (p := ⟨g, x * 2 + 1, none⟩) (show g < w5.heap.size by omega)).trans y1
        clear s0 s1 s2 s3 s4 kx0 kx1 k6 y0 y1 cT1 cT3 hb6 hb5 hB2 hB6 hB hb ownw Ww Lw hw5 hz2 hgl hC b6
      · have hv := Hv.out
        rw [decide_eq_false_iff_not] at hv
        have hkd : t.kind ps lots q = 1 := by rw [htop] at hk; omega
        have hwx : t.who ps lots q = (x : Int) := by rw [Hwho.out, if_neg (by omega)]
        have x0' := x0
        go_wp2_with fail
        obtain ⟨w7, hw7⟩ : ∃ w7, w6.setCell ⟨S, 2, none⟩ (.int .i64 1) = w7 := ⟨_, rfl⟩
        have hg7 : w6.grownBy w7 (some S) := by rw [← hw7]; exact only_setCell (World.grownBy.refl _ _) (.inl rfl) _
        have C7 := C6.only hg7 (by omega) (by omega) (by omega) (.inr (by omega))
        have W7 : OwnF w7 B (.slice (some ⟨W, 0, none⟩) n n) n (Bp.frs t.d t.u) := W6.row.kept hg7 (.inr (fun e => kWS (Option.some.inj e)))
        have L7 : OwnB w7 B (.slice (some ⟨L, 0, none⟩) m m) m t.lf := L6.row.kept hg7 (.inr (fun e => kLS (Option.some.inj e)))
        have u0 : w7.cell? ⟨S, 0, none⟩ = some (.slice (some ⟨g, 0, none⟩) m m) := by rw [← hw7]; exact (World.cell?_setCell_other _ _ _ _ (by simp)).trans t0
        have u1 : w7.cell? ⟨S, 1, none⟩ = some (.int .i64 (x : Int)) := by rw [← hw7]; exact (World.cell?_setCell_other _ _ _ _ (by simp)).trans t1
        have u2 : w7.cell? ⟨S, 2, none⟩ = some (.int .i64 1) := by rw [← hw7]; exact World.cell?_setCell_same _ _ _ t2
        have hP7 : Piles w7 B A n ps := (hP.below (hB0.trans (below_only hg7 (by omega) (by omega))))
        rw [hw7]
        have hcall := reweigh_any T A n c m W L ps t.d (cs.getD x 0) q t.u t.lf (x : Int) B w7 C7.c0 C7.c2 C7.c3 C7.c6 kTW kLW H.out.bW hP7 hnc W7 L7 Hfit.out hd1 hd60 (by have := Int.mul_le_mul hq hd1 (by omega) (by omega); omega) (by omega) hq hq' (by omega) Hok.out.u hul
        rw [Hxab.out] at hcall
        simp only at hcall
        have Hcall := Lib.hid hcall
        clear hcall
        refine Hcall.out.mono ?_
        rintro e w8 ⟨rfl, W8, hg8⟩
        have C8 := C7.only hg8 kTW (by omega) (by omega) (.inl (by simp))
        have L8 : OwnB w8 B (.slice (some ⟨L, 0, none⟩) m m) m t.lf := L7.row.kept hg8 (.inr (fun e => kLW (Option.some.inj e)))
        have p0 := hg8.cell (a := ⟨S, 0, none⟩) u0 (fun e => kSW (Option.some.inj e))
        have p1 := hg8.cell (a := ⟨S, 1, none⟩) u1 (fun e => kSW (Option.some.inj e))
        have p2 := hg8.cell (a := ⟨S, 2, none⟩) u2 (fun e => kSW (Option.some.inj e))
        have hz8 := C8.z
        clear C6 C7 W6 W7 L6 L7 t0 t1 t2 t3 t4 u0 u1 u2 hP7 hw7 hg7 hg8 Hcall x0 x1 x0'
        obtain ⟨cL, fL⟩ := ownB_cell L8 x hxm
        have c3 := C8.c3
        go_wp2_with fail
        go_region_held (fun w' => w'.cell? ⟨T, 3, none⟩ = some (.slice (some ⟨L, 0, none⟩) m m) ∧ w'.cell? ⟨S, 1, none⟩ = some (.int .i64 (x : Int))) (go_keep) (fail)
        obtain ⟨w9, hw9⟩ : ∃ w9, w8.setCell ⟨L, x, none⟩ (.bool true) = w9 := ⟨_, rfl⟩
        obtain ⟨L9, hg9⟩ := ownB_set L8 x true
        rw [hw9] at L9 hg9
        have C9 := C8.only hg9 kTL (by omega) (by omega) (.inl (by simp))
        have W9 := W8.row.kept hg9 (.inr (fun e => kLW (Option.some.inj e).symm))
        have v0 := hg9.cell (a := ⟨S, 0, none⟩) p0 (fun e => kSL (Option.some.inj e))
        have v1 := hg9.cell (a := ⟨S, 1, none⟩) p1 (fun e => kSL (Option.some.inj e))
        have v2 := hg9.cell (a := ⟨S, 2, none⟩) p2 (fun e => kSL (Option.some.inj e))
        have c4 := C9.c4
        have c5 := C9.c5
        have f4 := C9.f4
        have f5 := C9.f5
        have r0 := C9.r0
        have r1 := C9.r1
        have r2 := C9.r2
        have r3 := C9.r3
        have r4 := C9.r4
        have r5 := C9.r5
        rw [hw9]
        clear hw9 hg9 C8 W8 L8 p0 p1 p2 cL fL c3
        have hwr4 : IntKind.i64.wrap (((f + 1 : Nat) : Int) - 1) = (f : Int) := by rw [IntWalk.i64_in _ (by omega)]; omega
        go_wp2_with fail
        have CA := (C9.seat4 (f' := f) kRT kgT).seat5 (s' := t.s - 1) kRT kgT
        have hg45 : w9.grownBy ((w9.setCell ⟨T, 4, none⟩ (.int .i64 (f : Int))).setCell ⟨T, 5, none⟩ (.int .i64 (t.s - 1))) (some T) := by refine only_setCell ?_ (.inl rfl) _; refine only_setCell ?_ (.inl rfl) _; exact World.grownBy.refl _ _
        have hlf : (t.next ps lots q).lf = t.lf.set x true := by
          show t.lf.set (t.who ps lots q).toNat true = _
          rw [hwx, Int.toNat_natCast]
        have hdd : (t.next ps lots q).d = t.d * cs.getD x 0 := (if_pos hkd).trans (by rw [htop])
        have huu : (t.next ps lots q).u = Bp.weigh ps t.u t.lf (x : Int) (cs.getD x 0 - q * t.d) (cs.getD x 0) := (if_pos hkd).trans (by rw [htop, Hhx.out])
        have hss : (t.next ps lots q).s = t.s - 1 := if_neg (by omega)
        obtain ⟨⟨g0, g1, g2⟩, GF, TF, KF⟩ := CA.laid (t := t.next ps lots q) H.out hss ⟨by omega, by omega, by omega, by omega⟩ (by rw [hdd, huu]; exact W9.kept hg45 (.inr (fun e => kTW (Option.some.inj e).symm))) (by rw [hlf]; exact L9.row.kept hg45 (.inr (fun e => kTL (Option.some.inj e).symm))) (.slice (some ⟨g, 0, none⟩) m m) (.int .i64 (x : Int)) (.int .i64 1)
        exact bodyPost_ret (v := .agg #[.slice (some ⟨g, 0, none⟩) m m, .int .i64 (x : Int), .int .i64 1]) (by simp [results, Try.results44, go_sem, g0, g1, g2]) rfl ⟨g, by rw [hwx, hkd], by rw [HR.out]; omega, by rw [HR.out, Hcs.out]; exact GF, TF, by rw [HR.out]; exact KF⟩
      · have hv := Hv.out
        rw [decide_eq_true_iff] at hv
        have c4 := C6.c4
        have c5 := C6.c5
        by_cases hle : ((f + 1 : Nat) : Int) ≤ t.s
        · have hkd : t.kind ps lots q = 3 := by rw [htop, hth] at hk; omega
          have hwx : t.who ps lots q = (x : Int) := by rw [Hwho.out, if_neg (by omega)]
          have dl : decide (((f + 1 : Nat) : Int) ≤ t.s) = true := decide_eq_true hle
          go_wp2_with fail
          go_quiet (fail)
          obtain ⟨w6q, hw6q⟩ : ∃ w6q, w6.drewN nq = w6q := ⟨_, rfl⟩
          have hbq : Below w6.heap.size w6 w6q := by rw [← hw6q]; exact below_drewN (Below.refl _ _) _
          have hzq := hbq.size
          replace C6 := C6.below hbq
          replace W6 := W6.keep hbq
          replace L6 := L6.keep hbq
          replace t0 := (hbq.cell (p := ⟨S, 0, none⟩) (show S < w6.heap.size by omega)).trans t0
          replace t1 := (hbq.cell (p := ⟨S, 1, none⟩) (show S < w6.heap.size by omega)).trans t1
          replace t2 := (hbq.cell (p := ⟨S, 2, none⟩) (show S < w6.heap.size by omega)).trans t2
          replace t3 := (hbq.frozen (p := ⟨S, 1, none⟩) (show S < w6.heap.size by omega)).trans t3
          replace t4 := (hbq.frozen (p := ⟨S, 2, none⟩) (show S < w6.heap.size by omega)).trans t4
          rw [hw6q]
          have c3 := C6.c3
          clear hw6q hbq c4 c5 x0 x1
          obtain ⟨w7, hw7⟩ : ∃ w7, w6q.setCell ⟨S, 2, none⟩ (.int .i64 3) = w7 := ⟨_, rfl⟩
          have hg7 : w6q.grownBy w7 (some S) := by rw [← hw7]; refine only_setCell ?_ (.inl rfl) _; exact World.grownBy.refl _ _
          have C7 := C6.only hg7 (by omega) (by omega) (by omega) (.inr (by omega))
          have W7 : OwnF w7 B (.slice (some ⟨W, 0, none⟩) n n) n (Bp.frs t.d t.u) := W6.row.kept hg7 (.inr (fun e => kWS (Option.some.inj e)))
          have L7 : OwnB w7 B (.slice (some ⟨L, 0, none⟩) m m) m t.lf := L6.row.kept hg7 (.inr (fun e => kLS (Option.some.inj e)))
          have u0 : w7.cell? ⟨S, 0, none⟩ = some (.slice (some ⟨g, 0, none⟩) m m) := by rw [← hw7]; exact (World.cell?_setCell_other _ _ _ _ (by simp)).trans t0
          have u1 : w7.cell? ⟨S, 1, none⟩ = some (.int .i64 (x : Int)) := by rw [← hw7]; exact (World.cell?_setCell_other _ _ _ _ (by simp)).trans t1
          have u2 : w7.cell? ⟨S, 2, none⟩ = some (.int .i64 3) := by rw [← hw7]; exact World.cell?_setCell_same _ _ _ t2
          have c3' := C7.c3
          clear c3
          obtain ⟨cL, fL⟩ := ownB_cell L7 x hxm
          have c3 := C7.c3
          go_wp2_with fail
          clear hw7 hg7 C6 W6 L6 t0 t1 t2 t3 t4
          go_region_held (fun w' => w'.cell? ⟨T, 3, none⟩ = some (.slice (some ⟨L, 0, none⟩) m m) ∧ w'.cell? ⟨S, 1, none⟩ = some (.int .i64 (x : Int))) (go_keep) (fail)
          obtain ⟨w9, hw9⟩ : ∃ w9, w7.setCell ⟨L, x, none⟩ (.bool true) = w9 := ⟨_, rfl⟩
          obtain ⟨L9, hg9⟩ := ownB_set L7 x true
          rw [hw9] at L9 hg9
          have C9 := C7.only hg9 kTL (by omega) (by omega) (.inl (by simp))
          have W9 := W7.row.kept hg9 (.inr (fun e => kLW (Option.some.inj e).symm))
          have v0 := hg9.cell (a := ⟨S, 0, none⟩) u0 (fun e => kSL (Option.some.inj e))
          have v1 := hg9.cell (a := ⟨S, 1, none⟩) u1 (fun e => kSL (Option.some.inj e))
          have v2 := hg9.cell (a := ⟨S, 2, none⟩) u2 (fun e => kSL (Option.some.inj e))
          have c4 := C9.c4
          have c5 := C9.c5
          have f4 := C9.f4
          have f5 := C9.f5
          have r0 := C9.r0
          have r1 := C9.r1
          have r2 := C9.r2
          have r3 := C9.r3
          have r4 := C9.r4
          have r5 := C9.r5
          rw [hw9]
          clear hw9 hg9 C7 W7 L7 u0 u1 u2 cL fL c3
          have hwr4 : IntKind.i64.wrap (((f + 1 : Nat) : Int) - 1) = (f : Int) := by rw [IntWalk.i64_in _ (by omega)]; omega
          go_wp2_with fail
          have CA := (C9.seat4 (f' := f) kRT kgT).seat5 (s' := t.s - 1) kRT kgT
          have hg45 : w9.grownBy ((w9.setCell ⟨T, 4, none⟩ (.int .i64 (f : Int))).setCell ⟨T, 5, none⟩ (.int .i64 (t.s - 1))) (some T) := by refine only_setCell ?_ (.inl rfl) _; refine only_setCell ?_ (.inl rfl) _; exact World.grownBy.refl _ _
          have hlf : (t.next ps lots q).lf = t.lf.set x true := by
            show t.lf.set (t.who ps lots q).toNat true = _
            rw [hwx, Int.toNat_natCast]
          have hdd : (t.next ps lots q).d = t.d := if_neg (by omega)
          have huu : (t.next ps lots q).u = t.u := if_neg (by omega)
          have hss : (t.next ps lots q).s = t.s - 1 := if_neg (by omega)
          obtain ⟨⟨g0, g1, g2⟩, GF, TF, KF⟩ := CA.laid (t := t.next ps lots q) H.out hss ⟨by omega, by omega, by omega, by omega⟩ (by rw [hdd, huu]; exact W9.kept hg45 (.inr (fun e => kTW (Option.some.inj e).symm))) (by rw [hlf]; exact L9.row.kept hg45 (.inr (fun e => kTL (Option.some.inj e).symm))) (.slice (some ⟨g, 0, none⟩) m m) (.int .i64 (x : Int)) (.int .i64 3)
          exact bodyPost_ret (v := .agg #[.slice (some ⟨g, 0, none⟩) m m, .int .i64 (x : Int), .int .i64 3]) (by simp [results, Try.results44, go_sem, g0, g1, g2]) rfl ⟨g, by rw [hwx, hkd], by rw [HR.out]; omega, by rw [HR.out, Hcs.out]; exact GF, TF, by rw [HR.out]; exact KF⟩
        · have hkd : t.kind ps lots q = 2 := by rw [htop, hth] at hk; omega
          have hwx : t.who ps lots q = (y : Int) := by rw [Hwho.out, if_pos hkd]
          have dl : decide (((f + 1 : Nat) : Int) ≤ t.s) = false := decide_eq_false hle
          go_wp2_with fail
          go_quiet (fail)
          obtain ⟨w6q, hw6q⟩ : ∃ w6q, w6.drewN nq = w6q := ⟨_, rfl⟩
          have hbq : Below w6.heap.size w6 w6q := by rw [← hw6q]; exact below_drewN (Below.refl _ _) _
          have hzq := hbq.size
          replace C6 := C6.below hbq
          replace W6 := W6.keep hbq
          replace L6 := L6.keep hbq
          replace t0 := (hbq.cell (p := ⟨S, 0, none⟩) (show S < w6.heap.size by omega)).trans t0
          replace t1 := (hbq.cell (p := ⟨S, 1, none⟩) (show S < w6.heap.size by omega)).trans t1
          replace t2 := (hbq.cell (p := ⟨S, 2, none⟩) (show S < w6.heap.size by omega)).trans t2
          replace t3 := (hbq.frozen (p := ⟨S, 1, none⟩) (show S < w6.heap.size by omega)).trans t3
          replace t4 := (hbq.frozen (p := ⟨S, 2, none⟩) (show S < w6.heap.size by omega)).trans t4
          rw [hw6q]
          have c3 := C6.c3
          clear hw6q hbq c4 c5 x0 x1
          obtain ⟨w7, hw7⟩ : ∃ w7, (w6q.setCell ⟨S, 2, none⟩ (.int .i64 2)).setCell ⟨S, 1, none⟩ (.int .i64 (y : Int)) = w7 := ⟨_, rfl⟩
          have hg7 : w6q.grownBy w7 (some S) := by rw [← hw7]; refine only_setCell ?_ (.inl rfl) _; refine only_setCell ?_ (.inl rfl) _; exact World.grownBy.refl _ _
          have C7 := C6.only hg7 (by omega) (by omega) (by omega) (.inr (by omega))
          have W7 : OwnF w7 B (.slice (some ⟨W, 0, none⟩) n n) n (Bp.frs t.d t.u) := W6.row.kept hg7 (.inr (fun e => kWS (Option.some.inj e)))
          have L7 : OwnB w7 B (.slice (some ⟨L, 0, none⟩) m m) m t.lf := L6.row.kept hg7 (.inr (fun e => kLS (Option.some.inj e)))
          have u0 : w7.cell? ⟨S, 0, none⟩ = some (.slice (some ⟨g, 0, none⟩) m m) := by rw [← hw7]; exact (World.cell?_setCell_other _ _ _ _ (by simp)).trans ((World.cell?_setCell_other _ _ _ _ (by simp)).trans t0)
          have u1 : w7.cell? ⟨S, 1, none⟩ = some (.int .i64 (y : Int)) := by rw [← hw7]; exact World.cell?_setCell_same _ _ _ ((World.cell?_setCell_other _ _ _ _ (by simp)).trans t1)
          have u2 : w7.cell? ⟨S, 2, none⟩ = some (.int .i64 2) := by rw [← hw7]; exact (World.cell?_setCell_other _ _ _ _ (by simp)).trans (World.cell?_setCell_same _ _ _ t2)
          have c3' := C7.c3
          clear c3
          obtain ⟨cL, fL⟩ := ownB_cell L7 y hym
          have c3 := C7.c3
          go_wp2_with fail
          clear hw7 hg7 C6 W6 L6 t0 t1 t2 t3 t4
          go_region_held (fun w' => w'.cell? ⟨T, 3, none⟩ = some (.slice (some ⟨L, 0, none⟩) m m) ∧ w'.cell? ⟨S, 1, none⟩ = some (.int .i64 (y : Int))) (go_keep) (fail)
          obtain ⟨w9, hw9⟩ : ∃ w9, w7.setCell ⟨L, y, none⟩ (.bool true) = w9 := ⟨_, rfl⟩
          obtain ⟨L9, hg9⟩ := ownB_set L7 y true
          rw [hw9] at L9 hg9
          have C9 := C7.only hg9 kTL (by omega) (by omega) (.inl (by simp))
          have W9 := W7.row.kept hg9 (.inr (fun e => kLW (Option.some.inj e).symm))
          have v0 := hg9.cell (a := ⟨S, 0, none⟩) u0 (fun e => kSL (Option.some.inj e))
          have v1 := hg9.cell (a := ⟨S, 1, none⟩) u1 (fun e => kSL (Option.some.inj e))
          have v2 := hg9.cell (a := ⟨S, 2, none⟩) u2 (fun e => kSL (Option.some.inj e))
          have c4 := C9.c4
          have c5 := C9.c5
          have f4 := C9.f4
          have f5 := C9.f5
          have r0 := C9.r0
          have r1 := C9.r1
          have r2 := C9.r2
          have r3 := C9.r3
          have r4 := C9.r4
          have r5 := C9.r5
          rw [hw9]
          clear hw9 hg9 C7 W7 L7 u0 u1 u2 cL fL c3
          have hwr4 : IntKind.i64.wrap (((f + 1 : Nat) : Int) - 1) = (f : Int) := by rw [IntWalk.i64_in _ (by omega)]; omega
          go_wp2_with fail
          have CA := C9.seat4 (f' := f) kRT kgT
          have hg45 : w9.grownBy (w9.setCell ⟨T, 4, none⟩ (.int .i64 (f : Int))) (some T) := by refine only_setCell ?_ (.inl rfl) _; exact World.grownBy.refl _ _
          have hlf : (t.next ps lots q).lf = t.lf.set y true := by
            show t.lf.set (t.who ps lots q).toNat true = _
            rw [hwx, Int.toNat_natCast]
          have hdd : (t.next ps lots q).d = t.d := if_neg (by omega)
          have huu : (t.next ps lots q).u = t.u := if_neg (by omega)
          have hss : (t.next ps lots q).s = t.s := if_pos hkd
          obtain ⟨⟨g0, g1, g2⟩, GF, TF, KF⟩ := CA.laid (t := t.next ps lots q) H.out hss ⟨by omega, by omega, by omega, by omega⟩ (by rw [hdd, huu]; exact W9.kept hg45 (.inr (fun e => kTW (Option.some.inj e).symm))) (by rw [hlf]; exact L9.row.kept hg45 (.inr (fun e => kTL (Option.some.inj e).symm))) (.slice (some ⟨g, 0, none⟩) m m) (.int .i64 (y : Int)) (.int .i64 2)
          exact bodyPost_ret (v := .agg #[.slice (some ⟨g, 0, none⟩) m m, .int .i64 (y : Int), .int .i64 2]) (by simp [results, Try.results44, go_sem, g0, g1, g2]) rfl ⟨g, by rw [hwx, hkd], by rw [HR.out]; omega, by rw [HR.out, Hcs.out]; exact GF, TF, by rw [HR.out]; exact KF⟩
end Go.Proofs.Ytiglkajafdecgaa
