/-
  The walk of the program's newTransfer: the state ahead of the first step.
-/
import Derived.Test.YtiglkajafdecgaaTransStep
import Derived.Test.YtiglkajafdecgaaQuota
import Derived.Test.YtiglkajafdecgaaTotals
namespace Go.Proofs.Ytiglkajafdecgaa
set_option linter.unusedVariables false
open Go.RowKit
set_option linter.unusedSimpArgs false

theorem step_make {P : Program} {ops : Array Oper} {o : Oper} {a : Act} {w : World} {K : Act → World → Prop} {Q : Exit → Act → World → Prop} {E : Prop} (hgd : o.guard = none) (l c : Operand) (t : TypeId) (hop : o.op = Op.makeSlice t l c)
    (base : Nat) (e : TypeId) (i : TypeInfo) (z : Value) (size : Nat) (h1 : P.underlying t = some (.slice e)) (h2 : P.info? e = some i) (h3 : i.zero = some z) (h4 : i.size = size)
    (kl kc : IntKind) (n : Nat) (hl : a.eval l = .int kl n) (hc : a.eval c = .int kc n) (b2 : i.bytes * n ≤ 281474976710656) (b3 : n ≤ maxLen) (b4 : base ≤ w.heap.size)
    (hK : ∀ w', w'.ownsRow base e size (.slice (some ⟨w.heap.size, 0, none⟩) n n) n (madeCells z.cells (n * size)).toList → w.grownBy w' none → K (a.put o.dst (.slice (some ⟨w.heap.size, 0, none⟩) n n)) w') :
    if Region.wanted o (yielded ops a.tmps) = true then Oper.wp P o a w K Q else E := by
  have hw : Region.wanted o (yielded ops a.tmps) = true := by simp [Region.wanted, hgd]
  rw [if_pos hw]
  obtain ⟨w', hrun, r1, r2⟩ := run_make_full (P := P) w base t e i z size h1 h2 h3 h4 kl kc n b2 b3 b4
  unfold Oper.wp
  simp [execOp, hop, hl, hc, hrun, Result.andThen]
  exact hK _ r1 r2
theorem iPilesTotal_yes (A : Option Addr) (n c : Nat) (ps : List Bp.Pile) (t : Int) (ht : Bp.ptotal ps = t) (w : World) (h : Piles w w.heap.size A n ps) (hn : n ≤ 1048576) (hnc : n ≤ c) :
    Calls Try.prog 25 #[.slice A n c] w fun e w' => e = .returned (.int .i64 t) ∧ Below w.heap.size w w' := by
  subst ht; exact iPilesTotal_any A n c ps w h hn hnc
theorem iQuota_yes (t s q : Int) (hq : Fp.quota t s = q) (w : World) :
    Calls Try.prog 24 #[.int .i64 t, .int .i64 s] w fun e w' => e = .returned (.int .i64 q) ∧ w = w' := by
  subst hq; exact iQuota_any t s w
theorem tr_new {w x : World} {Wb L n c m c' : Nat} {A A' : Option Addr} {q seats : Int} {ps : List Bp.Pile} {lots : List Int} (hb : Below w.heap.size w x) (hw : OwnF x w.heap.size (.slice (some ⟨Wb, 0, none⟩) n n) n (List.replicate n (1, 1))) (hl : OwnB x w.heap.size (.slice (some ⟨L, 0, none⟩) m m) m (List.replicate m false))
    (h1 : w.heap.size ≤ Wb) (h2 : w.heap.size ≤ L) (h3 : Wb ≠ L) (hps : ps.length = n) (hlo : lots.length = m) (t : TypeId) :
    TrAt (x.alloc (.cells #[.slice A n c, .slice A' m c', .slice (some ⟨Wb, 0, none⟩) n n, .slice (some ⟨L, 0, none⟩) m m, .int .i64 m, .int .i64 seats, .int .i64 q] t)) w.heap.size x.heap.size Wb L A n c A' m c' q (Bp.tstart ps lots seats) m := by
  have lW := (hw.row.lt Wb rfl).2
  have lL := (hl.row.lt L rfl).2
  have hba : Below x.heap.size x (x.alloc (.cells #[.slice A n c, .slice A' m c', .slice (some ⟨Wb, 0, none⟩) n n, .slice (some ⟨L, 0, none⟩) m m, .int .i64 m, .int .i64 seats, .int .i64 q] t)) := (Below.refl _ _).alloc (Nat.le_refl _) _
  have e : Bp.frs 1 (List.replicate n 1) = List.replicate n (1, 1) := by
    unfold Bp.frs
    rw [List.map_replicate, Bp.fr_one]
  refine ⟨by simp [go_sem], by simp [go_sem], by simp [go_sem], by simp [go_sem], by simp [go_sem], ?_, by simp [go_sem], by simp [go_sem], by simp [go_sem], by omega, by omega, fun e => h3 e.symm, hb.size, h1, h2, by simp; omega, ?_, ?_⟩
  · show _ = some (Value.int .i64 seats)
    simp [go_sem]
  · show OwnF _ _ _ _ (Bp.frs 1 (List.replicate ps.length 1))
    rw [hps, e]
    exact hw.keep hba
  · show OwnB _ _ _ _ (List.replicate lots.length false)
    rw [hlo]
    exact hl.keep hba
set_option maxRecDepth 100000 in
set_option maxHeartbeats 8000000 in
theorem newTransfer_any (A : Option Addr) (n c : Nat) (A' : Option Addr) (m c' : Nat) (seats : Int) (ps : List Bp.Pile) (lots : List Int) (w : World)
    (hP : Piles w w.heap.size A n ps) (hI : Ints w w.heap.size A' m lots) (hnc : n ≤ c) (hv : Bp.tval ps lots seats = true) :
    Calls Try.prog 43 #[.slice A n c, .slice A' m c', .int .i64 seats] w fun e w' => ∃ T W L, e = .returned (.pointer (some ⟨T, 0, none⟩)) ∧ TrAt w' w.heap.size T W L A n c A' m c' (Bp.tquota ps seats) (Bp.tstart ps lots seats) m ∧ Below w.heap.size w w' := by
  have hl := Lib.hid hI.1
  obtain ⟨hlv, hf, ⟨h1, h2, h3⟩, hs⟩ := (Bp.tval_iff ps lots seats).1 hv
  have hm5 := Bp.lval_n hlv
  have hnl := Lib.hid hP.1.1
  have hlen := Bp.fits_len hf
  rw [hnl.out] at hlen
  rw [hl.out] at hm5
  have hps := Bp.psum_bd (Bp.fits_val hf)
  have hpt := Bp.ptotal_yes (Bp.fits_val hf)
  have hqq : Fp.quota (Bp.psum ps) seats = Bp.tquota ps seats := Fp.quota_in _ _ ((Fp.inr_iff _ _ _).2 ⟨hps.1, hs⟩) ((Fp.inr_iff _ _ _).2 ⟨h1, h2⟩)
  obtain ⟨tot, htot⟩ : ∃ tot, Bp.psum ps = tot := ⟨_, rfl⟩
  rw [htot] at hpt hqq
  obtain ⟨q, hq⟩ : ∃ q, Bp.tquota ps seats = q := ⟨_, rfl⟩
  rw [hq] at hqq ⊢
  have Hpt := Lib.hid hpt
  have Hqq := Lib.hid hqq
  obtain ⟨i0, hi0, hz0, hz1, hz2⟩ := info_parts bool_info
  obtain ⟨m1, m5⟩ := hm5
  clear hlv hf hpt hqq htot hq hps hs hv h3
  go_enter Try.func43, Try.ntmps43
  go_wp2_with fail
  refine wp_region_held_drew (S := fun _ => True) (by kernel_rfl) trivial (fun hHeld => ?_)
  (refine wpAnyH_take (i := 0) (v := ?_) rfl (by kernel_rfl) (by kernel_rfl) (by kernel_rfl) (fun _ _ _ h => h) (Or.inl ⟨by rfl, ?_⟩) (by assumption) ?_); rotate_left 1; (focus ((intro wz hSz; (try dsimp only at hSz); go_simp; try (with_reducible rfl)); done)); (try simp only [Act.put, List.getElem_toArray, List.getElem_cons_zero, List.getElem_cons_succ, List.setIfInBounds_toArray, List.set_cons_zero, List.set_cons_succ])
  (refine wpAnyH_take (i := 1) (v := ?_) rfl (by kernel_rfl) (by kernel_rfl) (by kernel_rfl) (fun _ _ _ h => h) (Or.inl ⟨by rfl, ?_⟩) (by assumption) ?_); rotate_left 1; (focus ((intro wz hSz; (try dsimp only at hSz); go_simp; try (with_reducible rfl)); done)); (try simp only [Act.put, List.getElem_toArray, List.getElem_cons_zero, List.getElem_cons_succ, List.setIfInBounds_toArray, List.set_cons_zero, List.set_cons_succ])
  (refine wpAnyH_take (i := 2) (v := ?_) rfl (by kernel_rfl) (by kernel_rfl) (by kernel_rfl) (fun _ _ _ h => h) (Or.inl ⟨by rfl, ?_⟩) (by assumption) ?_); rotate_left 1; (focus ((intro wz hSz; (try dsimp only at hSz); go_simp; try (with_reducible rfl)); done)); (try simp only [Act.put, List.getElem_toArray, List.getElem_cons_zero, List.getElem_cons_succ, List.setIfInBounds_toArray, List.set_cons_zero, List.set_cons_succ])
  (refine wpAnyH_take (i := 4) (v := ?_) rfl (by kernel_rfl) (by kernel_rfl) (by kernel_rfl) (fun _ _ _ h => h) (Or.inl ⟨by rfl, ?_⟩) (by assumption) ?_); rotate_left 1; (focus ((intro wz hSz; (try dsimp only at hSz); go_simp; try (with_reducible rfl)); done)); (try simp only [Act.put, List.getElem_toArray, List.getElem_cons_zero, List.getElem_cons_succ, List.setIfInBounds_toArray, List.set_cons_zero, List.set_cons_succ])
  (refine wpAnyH_take (i := 5) (v := ?_) rfl (by kernel_rfl) (by kernel_rfl) (by kernel_rfl) (fun _ _ _ h => h) (Or.inl ⟨by rfl, ?_⟩) (by assumption) ?_); rotate_left 1; (focus ((intro wz hSz; (try dsimp only at hSz); go_simp; try (with_reducible rfl)); done)); (try simp only [Act.put, List.getElem_toArray, List.getElem_cons_zero, List.getElem_cons_succ, List.setIfInBounds_toArray, List.set_cons_zero, List.set_cons_succ])
  (refine wpAnyH_take (i := 7) (v := ?_) rfl (by kernel_rfl) (by kernel_rfl) (by kernel_rfl) (fun _ _ _ h => h) (Or.inl ⟨by rfl, ?_⟩) (by assumption) ?_); rotate_left 1; (focus ((intro wz hSz; (try dsimp only at hSz); go_simp; try (with_reducible rfl)); done)); (try simp only [Act.put, List.getElem_toArray, List.getElem_cons_zero, List.getElem_cons_succ, List.setIfInBounds_toArray, List.set_cons_zero, List.set_cons_succ])
  (refine wpAnyH_take (i := 8) (v := ?_) rfl (by kernel_rfl) (by kernel_rfl) (by kernel_rfl) (fun _ _ _ h => h) (Or.inl ⟨by rfl, ?_⟩) (by assumption) ?_); rotate_left 1; (focus ((intro wz hSz; (try dsimp only at hSz); go_simp; try (with_reducible rfl)); done)); (try simp only [Act.put, List.getElem_toArray, List.getElem_cons_zero, List.getElem_cons_succ, List.setIfInBounds_toArray, List.set_cons_zero, List.set_cons_succ])
  (refine wpAnyH_take (i := 10) (v := ?_) rfl (by kernel_rfl) (by kernel_rfl) (by kernel_rfl) (fun _ _ _ h => h) (Or.inl ⟨by rfl, ?_⟩) (by assumption) ?_); rotate_left 1; (focus ((intro wz hSz; (try dsimp only at hSz); go_simp; try (with_reducible rfl)); done)); (try simp only [Act.put, List.getElem_toArray, List.getElem_cons_zero, List.getElem_cons_succ, List.setIfInBounds_toArray, List.set_cons_zero, List.set_cons_succ])
  (refine wpAnyH_take (i := 11) (v := ?_) rfl (by kernel_rfl) (by kernel_rfl) (by kernel_rfl) (fun _ _ _ h => h) (Or.inl ⟨by rfl, ?_⟩) (by assumption) ?_); rotate_left 1; (focus ((intro wz hSz; (try dsimp only at hSz); go_simp; try (with_reducible rfl)); done)); (try simp only [Act.put, List.getElem_toArray, List.getElem_cons_zero, List.getElem_cons_succ, List.setIfInBounds_toArray, List.set_cons_zero, List.set_cons_succ])
  (refine wpAnyH_take (i := 12) (v := ?_) rfl (by kernel_rfl) (by kernel_rfl) (by kernel_rfl) (fun _ _ _ h => h) (Or.inl ⟨by rfl, ?_⟩) (by assumption) ?_); rotate_left 1; (focus ((intro wz hSz; (try dsimp only at hSz); go_simp; try (with_reducible rfl)); done)); (try simp only [Act.put, List.getElem_toArray, List.getElem_cons_zero, List.getElem_cons_succ, List.setIfInBounds_toArray, List.set_cons_zero, List.set_cons_succ])
  (refine wpAnyH_take (i := 13) (v := ?_) rfl (by kernel_rfl) (by kernel_rfl) (by kernel_rfl) (fun _ _ _ h => h) (Or.inl ⟨by rfl, ?_⟩) (by assumption) ?_); rotate_left 1; (focus ((intro wz hSz; (try dsimp only at hSz); go_simp; try (with_reducible rfl)); done)); (try simp only [Act.put, List.getElem_toArray, List.getElem_cons_zero, List.getElem_cons_succ, List.setIfInBounds_toArray, List.set_cons_zero, List.set_cons_succ])
  (refine wpAnyH_take (i := 15) (v := ?_) rfl (by kernel_rfl) (by kernel_rfl) (by kernel_rfl) (fun _ _ _ h => h) (Or.inl ⟨by rfl, ?_⟩) (by assumption) ?_); rotate_left 1; (focus ((intro wz hSz; (try dsimp only at hSz); go_simp; try (with_reducible rfl)); done)); (try simp only [Act.put, List.getElem_toArray, List.getElem_cons_zero, List.getElem_cons_succ, List.setIfInBounds_toArray, List.set_cons_zero, List.set_cons_succ])
  have bD : Below w.heap.size w w.drew := (Below.refl _ _).drew
  have hul0 : True := trivial
  have hll0 : True := trivial
  refine wpAnyH_ready (rs := [3, 9]) (by kernel_rfl) (by simp) ?_
  refine AllReadyH.cons rfl (fun K hK => ?_) ?_
  · skip
    go_simp
    refine hK.out _ _ trivial (fun hHeld1 => ?_)
    clear hK K
    obtain ⟨x1, hx1⟩ : ∃ x1, (w.alloc (.cells #[.int .i64 1, .int .i64 1] 44)).drew = x1 := ⟨_, rfl⟩
    have bx1 : Below w.heap.size w x1 := by rw [← hx1]; exact ((Below.refl w.heap.size w).alloc (Below.refl w.heap.size w).size _).drew
    have c0x1 : x1.cell? ⟨w.heap.size, 0, none⟩ = some (.int .i64 1) := by rw [← hx1]; simp [go_sem]
    have c1x1 : x1.cell? ⟨w.heap.size, 1, none⟩ = some (.int .i64 1) := by rw [← hx1]; simp [go_sem]
    rw [hx1]
    clear hx1
    refine wpAnyH_ready (rs := [6, 9]) (by kernel_rfl) (by simp) ?_
    refine AllReadyH.cons rfl (fun K hK => ?_) ?_
    · skip
      go_simp
      go_wp2_with (go_at_call 66; refine (repeat_any w.heap.size 1 1 n (by omega) x1 c0x1 c1x1).mono ?_; rintro e x2 ⟨Wb, rfl, hWb, wx2, b0x2⟩)
      refine hK.out _ _ trivial (fun hHeld2 => ?_)
      clear hK K
      have bx2 : Below w.heap.size w x2 := bx1.trans (b0x2.mono bx1.size)
      have Hbw : Hid (w.heap.size ≤ Wb) := Nat.le_trans bx1.size hWb
      have hWl := (wx2.row.lt Wb rfl).2
      have wx2' := wx2.base bx1.size
      clear wx2
      refine wpAnyH_ready (rs := [9, 14]) (by kernel_rfl) (by simp) ?_
      refine AllReadyH.cons rfl (fun K hK => ?_) ?_
      · skip
        refine step_make (by rfl) (.tmp 15) (.tmp 15) 72 (by rfl) x2.heap.size 4 i0 _ 1 Try.underlying72 hi0 hz0 hz1 .i64 .i64 m (by rfl) (by rfl) (by rw [hz2]; omega) (by unfold maxLen; omega) (Nat.le_refl _) ?_
        intro x3 ox3 gx3
        refine hK.out _ _ trivial (fun hHeld3 => ?_)
        clear hK K
        have b0x3 : Below x2.heap.size x2 x3 := (Below.refl _ _).grown gx3 (Nat.le_refl _) (by simp)
        have lx3' := madeB_own ox3
        have bx3 : Below w.heap.size w x3 := bx2.trans (b0x3.mono bx2.size)
        have lx3 : OwnB x3 w.heap.size (.slice (some ⟨x2.heap.size, 0, none⟩) m m) m (List.replicate m false) := lx3'.base bx2.size
        obtain ⟨L3, hL3⟩ : ∃ L3, x2.heap.size = L3 := ⟨_, rfl⟩
        have Hbl : Hid (w.heap.size ≤ L3) := by rw [← hL3]; exact bx2.size
        rw [hL3] at lx3 ⊢
        have wx3 := wx2'.keep b0x3
        have Hne : Hid (Wb ≠ L3) := fun e => by have h8 := (wx2'.row.lt Wb rfl).2; omega
        clear ox3 gx3 lx3' hL3
        refine wpAnyH_ready (rs := [14]) (by kernel_rfl) (by simp) ?_
        refine AllReadyH.cons rfl (fun K hK => ?_) AllReadyH.nil
        go_simp
        go_wp2_with (go_at_call 25; refine (iPilesTotal_yes A n c ps tot Hpt.out x3 ((hP.below bx3).mono bx3.size) (by omega) hnc).mono ?_; rintro e x4 ⟨rfl, b0x4⟩)
        refine hK.out _ _ trivial (fun hHeld4 => ?_)
        clear hK K
        have bx4 : Below w.heap.size w x4 := bx3.trans (b0x4.mono bx3.size)
        have wx4 := wx3.keep b0x4
        have lx4 := lx3.keep b0x4
        refine wpAnyH_ready (rs := [16]) (by kernel_rfl) (by simp) ?_
        refine AllReadyH.cons rfl (fun K hK => ?_) AllReadyH.nil
        go_simp
        go_wp2_with (go_at_call 24; refine (iQuota_yes tot seats q Hqq.out x4).mono ?_; rintro e x5 ⟨rfl, rfl⟩)
        refine hK.out _ _ trivial (fun hHeld5 => ?_)
        clear hK K
        (refine wpAnyH_take (i := 17) (v := ?_) rfl (by kernel_rfl) (by kernel_rfl) (by kernel_rfl) (fun _ _ _ h => h) (Or.inl ⟨by rfl, ?_⟩) (by assumption) ?_); rotate_left 1; (focus ((intro wz hSz; (try dsimp only at hSz); go_simp; try (with_reducible rfl)); done)); (try simp only [Act.put, List.getElem_toArray, List.getElem_cons_zero, List.getElem_cons_succ, List.setIfInBounds_toArray, List.set_cons_zero, List.set_cons_succ])
        refine wpAnyH_ready (rs := [18]) (by kernel_rfl) (by simp) ?_
        refine AllReadyH.cons rfl (fun K hK => ?_) AllReadyH.nil
        go_simp
        refine hK.out _ _ trivial (fun hHeldB => ?_)
        clear hK K
        (refine wpAnyH_take (i := 19) (v := ?_) rfl (by kernel_rfl) (by kernel_rfl) (by kernel_rfl) (fun _ _ _ h => h) (Or.inl ⟨by rfl, ?_⟩) (by assumption) ?_); rotate_left 1; (focus ((intro wz hSz; (try dsimp only at hSz); go_simp; try (with_reducible rfl)); done)); (try simp only [Act.put, List.getElem_toArray, List.getElem_cons_zero, List.getElem_cons_succ, List.setIfInBounds_toArray, List.set_cons_zero, List.set_cons_succ])
        (refine wpAnyH_done (by kernel_rfl) ?_ _)
        go_wp2_with fail
        go_ret
        have hzE := bx4.size
        exact ⟨x4.heap.size, Wb, L3, rfl, tr_new bx4 wx4 lx4 Hbw.out Hbl.out Hne.out hnl.out hl.out _, bx4.alloc hzE _⟩
      · refine AllReadyH.cons rfl (fun K hK => ?_) AllReadyH.nil
        go_simp
        go_wp2_with (go_at_call 25; refine (iPilesTotal_yes A n c ps tot Hpt.out x2 ((hP.below bx2).mono bx2.size) (by omega) hnc).mono ?_; rintro e x6 ⟨rfl, b0x6⟩)
        refine hK.out _ _ trivial (fun hHeld6 => ?_)
        clear hK K
        have bx6 : Below w.heap.size w x6 := bx2.trans (b0x6.mono bx2.size)
        have wx6 := wx2'.keep b0x6
        refine wpAnyH_ready (rs := [9, 16]) (by kernel_rfl) (by simp) ?_
        refine AllReadyH.cons rfl (fun K hK => ?_) ?_
        · skip
          refine step_make (by rfl) (.tmp 15) (.tmp 15) 72 (by rfl) x6.heap.size 4 i0 _ 1 Try.underlying72 hi0 hz0 hz1 .i64 .i64 m (by rfl) (by rfl) (by rw [hz2]; omega) (by unfold maxLen; omega) (Nat.le_refl _) ?_
          intro x7 ox7 gx7
          refine hK.out _ _ trivial (fun hHeld7 => ?_)
          clear hK K
          have b0x7 : Below x6.heap.size x6 x7 := (Below.refl _ _).grown gx7 (Nat.le_refl _) (by simp)
          have lx7' := madeB_own ox7
          have bx7 : Below w.heap.size w x7 := bx6.trans (b0x7.mono bx6.size)
          have lx7 : OwnB x7 w.heap.size (.slice (some ⟨x6.heap.size, 0, none⟩) m m) m (List.replicate m false) := lx7'.base bx6.size
          obtain ⟨L7, hL7⟩ : ∃ L7, x6.heap.size = L7 := ⟨_, rfl⟩
          have Hbl : Hid (w.heap.size ≤ L7) := by rw [← hL7]; exact bx6.size
          rw [hL7] at lx7 ⊢
          have wx7 := wx6.keep b0x7
          have Hne : Hid (Wb ≠ L7) := fun e => by have h8 := (wx6.row.lt Wb rfl).2; omega
          clear ox7 gx7 lx7' hL7
          refine wpAnyH_ready (rs := [16]) (by kernel_rfl) (by simp) ?_
          refine AllReadyH.cons rfl (fun K hK => ?_) AllReadyH.nil
          go_simp
          go_wp2_with (go_at_call 24; refine (iQuota_yes tot seats q Hqq.out x7).mono ?_; rintro e x8 ⟨rfl, rfl⟩)
          refine hK.out _ _ trivial (fun hHeld8 => ?_)
          clear hK K
          (refine wpAnyH_take (i := 17) (v := ?_) rfl (by kernel_rfl) (by kernel_rfl) (by kernel_rfl) (fun _ _ _ h => h) (Or.inl ⟨by rfl, ?_⟩) (by assumption) ?_); rotate_left 1; (focus ((intro wz hSz; (try dsimp only at hSz); go_simp; try (with_reducible rfl)); done)); (try simp only [Act.put, List.getElem_toArray, List.getElem_cons_zero, List.getElem_cons_succ, List.setIfInBounds_toArray, List.set_cons_zero, List.set_cons_succ])
          refine wpAnyH_ready (rs := [18]) (by kernel_rfl) (by simp) ?_
          refine AllReadyH.cons rfl (fun K hK => ?_) AllReadyH.nil
          go_simp
          refine hK.out _ _ trivial (fun hHeldB => ?_)
          clear hK K
          (refine wpAnyH_take (i := 19) (v := ?_) rfl (by kernel_rfl) (by kernel_rfl) (by kernel_rfl) (fun _ _ _ h => h) (Or.inl ⟨by rfl, ?_⟩) (by assumption) ?_); rotate_left 1; (focus ((intro wz hSz; (try dsimp only at hSz); go_simp; try (with_reducible rfl)); done)); (try simp only [Act.put, List.getElem_toArray, List.getElem_cons_zero, List.getElem_cons_succ, List.setIfInBounds_toArray, List.set_cons_zero, List.set_cons_succ])
          (refine wpAnyH_done (by kernel_rfl) ?_ _)
          go_wp2_with fail
          go_ret
          have hzE := bx7.size
          exact ⟨x7.heap.size, Wb, L7, rfl, tr_new bx7 wx7 lx7 Hbw.out Hbl.out Hne.out hnl.out hl.out _, bx7.alloc hzE _⟩
        · refine AllReadyH.cons rfl (fun K hK => ?_) AllReadyH.nil
          go_simp
          go_wp2_with (go_at_call 24; refine (iQuota_yes tot seats q Hqq.out x6).mono ?_; rintro e x9 ⟨rfl, rfl⟩)
          refine hK.out _ _ trivial (fun hHeld9 => ?_)
          clear hK K
          refine wpAnyH_ready (rs := [9]) (by kernel_rfl) (by simp) ?_
          refine AllReadyH.cons rfl (fun K hK => ?_) AllReadyH.nil
          refine step_make (by rfl) (.tmp 15) (.tmp 15) 72 (by rfl) x6.heap.size 4 i0 _ 1 Try.underlying72 hi0 hz0 hz1 .i64 .i64 m (by rfl) (by rfl) (by rw [hz2]; omega) (by unfold maxLen; omega) (Nat.le_refl _) ?_
          intro x10 ox10 gx10
          refine hK.out _ _ trivial (fun hHeld10 => ?_)
          clear hK K
          have b0x10 : Below x6.heap.size x6 x10 := (Below.refl _ _).grown gx10 (Nat.le_refl _) (by simp)
          have lx10' := madeB_own ox10
          have bx10 : Below w.heap.size w x10 := bx6.trans (b0x10.mono bx6.size)
          have lx10 : OwnB x10 w.heap.size (.slice (some ⟨x6.heap.size, 0, none⟩) m m) m (List.replicate m false) := lx10'.base bx6.size
          obtain ⟨L10, hL10⟩ : ∃ L10, x6.heap.size = L10 := ⟨_, rfl⟩
          have Hbl : Hid (w.heap.size ≤ L10) := by rw [← hL10]; exact bx6.size
          rw [hL10] at lx10 ⊢
          have wx10 := wx6.keep b0x10
          have Hne : Hid (Wb ≠ L10) := fun e => by have h8 := (wx6.row.lt Wb rfl).2; omega
          clear ox10 gx10 lx10' hL10
          (refine wpAnyH_take (i := 17) (v := ?_) rfl (by kernel_rfl) (by kernel_rfl) (by kernel_rfl) (fun _ _ _ h => h) (Or.inl ⟨by rfl, ?_⟩) (by assumption) ?_); rotate_left 1; (focus ((intro wz hSz; (try dsimp only at hSz); go_simp; try (with_reducible rfl)); done)); (try simp only [Act.put, List.getElem_toArray, List.getElem_cons_zero, List.getElem_cons_succ, List.setIfInBounds_toArray, List.set_cons_zero, List.set_cons_succ])
          refine wpAnyH_ready (rs := [18]) (by kernel_rfl) (by simp) ?_
          refine AllReadyH.cons rfl (fun K hK => ?_) AllReadyH.nil
          go_simp
          refine hK.out _ _ trivial (fun hHeldB => ?_)
          clear hK K
          (refine wpAnyH_take (i := 19) (v := ?_) rfl (by kernel_rfl) (by kernel_rfl) (by kernel_rfl) (fun _ _ _ h => h) (Or.inl ⟨by rfl, ?_⟩) (by assumption) ?_); rotate_left 1; (focus ((intro wz hSz; (try dsimp only at hSz); go_simp; try (with_reducible rfl)); done)); (try simp only [Act.put, List.getElem_toArray, List.getElem_cons_zero, List.getElem_cons_succ, List.setIfInBounds_toArray, List.set_cons_zero, List.set_cons_succ])
          (refine wpAnyH_done (by kernel_rfl) ?_ _)
          go_wp2_with fail
          go_ret
          have hzE := bx10.size
          exact ⟨x10.heap.size, Wb, L10, rfl, tr_new bx10 wx10 lx10 Hbw.out Hbl.out Hne.out hnl.out hl.out _, bx10.alloc hzE _⟩
    · refine AllReadyH.cons rfl (fun K hK => ?_) AllReadyH.nil
      refine step_make (by rfl) (.tmp 15) (.tmp 15) 72 (by rfl) x1.heap.size 4 i0 _ 1 Try.underlying72 hi0 hz0 hz1 .i64 .i64 m (by rfl) (by rfl) (by rw [hz2]; omega) (by unfold maxLen; omega) (Nat.le_refl _) ?_
      intro x11 ox11 gx11
      refine hK.out _ _ trivial (fun hHeld11 => ?_)
      clear hK K
      have b0x11 : Below x1.heap.size x1 x11 := (Below.refl _ _).grown gx11 (Nat.le_refl _) (by simp)
      have lx11' := madeB_own ox11
      have bx11 : Below w.heap.size w x11 := bx1.trans (b0x11.mono bx1.size)
      have lx11 : OwnB x11 w.heap.size (.slice (some ⟨x1.heap.size, 0, none⟩) m m) m (List.replicate m false) := lx11'.base bx1.size
      obtain ⟨L11, hL11⟩ : ∃ L11, x1.heap.size = L11 := ⟨_, rfl⟩
      have Hbl : Hid (w.heap.size ≤ L11) := by rw [← hL11]; exact bx1.size
      rw [hL11] at lx11 ⊢
      have d0x11 := (b0x11.cell (p := ⟨w.heap.size, 0, none⟩) (lt_of_cell c0x1)).trans c0x1
      have d1x11 := (b0x11.cell (p := ⟨w.heap.size, 1, none⟩) (lt_of_cell c1x1)).trans c1x1
      clear ox11 gx11 lx11' hL11
      refine wpAnyH_ready (rs := [6]) (by kernel_rfl) (by simp) ?_
      refine AllReadyH.cons rfl (fun K hK => ?_) AllReadyH.nil
      go_simp
      go_wp2_with (go_at_call 66; refine (repeat_any w.heap.size 1 1 n (by omega) x11 d0x11 d1x11).mono ?_; rintro e x12 ⟨Wb, rfl, hWb, wx12, b0x12⟩)
      refine hK.out _ _ trivial (fun hHeld12 => ?_)
      clear hK K
      have bx12 : Below w.heap.size w x12 := bx11.trans (b0x12.mono bx11.size)
      have Hbw : Hid (w.heap.size ≤ Wb) := Nat.le_trans bx11.size hWb
      have hWl := (wx12.row.lt Wb rfl).2
      have wx12' := wx12.base bx11.size
      have lx12 := lx11.keep b0x12
      have Hne : Hid (Wb ≠ L11) := fun e => by have h8 := (lx11.row.lt L11 rfl).2; omega
      clear wx12
      refine wpAnyH_ready (rs := [14]) (by kernel_rfl) (by simp) ?_
      refine AllReadyH.cons rfl (fun K hK => ?_) AllReadyH.nil
      go_simp
      go_wp2_with (go_at_call 25; refine (iPilesTotal_yes A n c ps tot Hpt.out x12 ((hP.below bx12).mono bx12.size) (by omega) hnc).mono ?_; rintro e x13 ⟨rfl, b0x13⟩)
      refine hK.out _ _ trivial (fun hHeld13 => ?_)
      clear hK K
      have bx13 : Below w.heap.size w x13 := bx12.trans (b0x13.mono bx12.size)
      have wx13 := wx12'.keep b0x13
      have lx13 := lx12.keep b0x13
      refine wpAnyH_ready (rs := [16]) (by kernel_rfl) (by simp) ?_
      refine AllReadyH.cons rfl (fun K hK => ?_) AllReadyH.nil
      go_simp
      go_wp2_with (go_at_call 24; refine (iQuota_yes tot seats q Hqq.out x13).mono ?_; rintro e x14 ⟨rfl, rfl⟩)
      refine hK.out _ _ trivial (fun hHeld14 => ?_)
      clear hK K
      (refine wpAnyH_take (i := 17) (v := ?_) rfl (by kernel_rfl) (by kernel_rfl) (by kernel_rfl) (fun _ _ _ h => h) (Or.inl ⟨by rfl, ?_⟩) (by assumption) ?_); rotate_left 1; (focus ((intro wz hSz; (try dsimp only at hSz); go_simp; try (with_reducible rfl)); done)); (try simp only [Act.put, List.getElem_toArray, List.getElem_cons_zero, List.getElem_cons_succ, List.setIfInBounds_toArray, List.set_cons_zero, List.set_cons_succ])
      refine wpAnyH_ready (rs := [18]) (by kernel_rfl) (by simp) ?_
      refine AllReadyH.cons rfl (fun K hK => ?_) AllReadyH.nil
      go_simp
      refine hK.out _ _ trivial (fun hHeldB => ?_)
      clear hK K
      (refine wpAnyH_take (i := 19) (v := ?_) rfl (by kernel_rfl) (by kernel_rfl) (by kernel_rfl) (fun _ _ _ h => h) (Or.inl ⟨by rfl, ?_⟩) (by assumption) ?_); rotate_left 1; (focus ((intro wz hSz; (try dsimp only at hSz); go_simp; try (with_reducible rfl)); done)); (try simp only [Act.put, List.getElem_toArray, List.getElem_cons_zero, List.getElem_cons_succ, List.setIfInBounds_toArray, List.set_cons_zero, List.set_cons_succ])
      (refine wpAnyH_done (by kernel_rfl) ?_ _)
      go_wp2_with fail
      go_ret
      have hzE := bx13.size
      exact ⟨x13.heap.size, Wb, L11, rfl, tr_new bx13 wx13 lx13 Hbw.out Hbl.out Hne.out hnl.out hl.out _, bx13.alloc hzE _⟩
  · refine AllReadyH.cons rfl (fun K hK => ?_) AllReadyH.nil
    refine step_make (by rfl) (.tmp 15) (.tmp 15) 72 (by rfl) w.drew.heap.size 4 i0 _ 1 Try.underlying72 hi0 hz0 hz1 .i64 .i64 m (by rfl) (by rfl) (by rw [hz2]; omega) (by unfold maxLen; omega) (Nat.le_refl _) ?_
    intro x15 ox15 gx15
    refine hK.out _ _ trivial (fun hHeld15 => ?_)
    clear hK K
    have b0x15 : Below w.drew.heap.size w.drew x15 := (Below.refl _ _).grown gx15 (Nat.le_refl _) (by simp)
    have lx15' := madeB_own ox15
    have bx15 : Below w.heap.size w x15 := bD.trans (b0x15.mono bD.size)
    have lx15 : OwnB x15 w.heap.size (.slice (some ⟨w.drew.heap.size, 0, none⟩) m m) m (List.replicate m false) := lx15'.base bD.size
    obtain ⟨L15, hL15⟩ : ∃ L15, w.drew.heap.size = L15 := ⟨_, rfl⟩
    have Hbl : Hid (w.heap.size ≤ L15) := by rw [← hL15]; exact bD.size
    rw [hL15] at lx15 ⊢
    clear ox15 gx15 lx15' hL15
    refine wpAnyH_ready (rs := [3]) (by kernel_rfl) (by simp) ?_
    refine AllReadyH.cons rfl (fun K hK => ?_) AllReadyH.nil
    go_simp
    refine hK.out _ _ trivial (fun hHeld16 => ?_)
    clear hK K
    obtain ⟨x16, hx16⟩ : ∃ x16, x15.alloc (.cells #[.int .i64 1, .int .i64 1] 44) = x16 := ⟨_, rfl⟩
    have bx16 : Below w.heap.size w x16 := by rw [← hx16]; exact (bx15.alloc bx15.size _)
    have c0x16 : x16.cell? ⟨x15.heap.size, 0, none⟩ = some (.int .i64 1) := by rw [← hx16]; simp [go_sem]
    have c1x16 : x16.cell? ⟨x15.heap.size, 1, none⟩ = some (.int .i64 1) := by rw [← hx16]; simp [go_sem]
    rw [hx16]
    have lx16 : OwnB x16 w.heap.size (.slice (some ⟨L15, 0, none⟩) m m) m (List.replicate m false) := lx15.keep (by rw [← hx16]; exact (Below.refl _ _).alloc (Nat.le_refl _) _)
    clear hx16
    refine wpAnyH_ready (rs := [6]) (by kernel_rfl) (by simp) ?_
    refine AllReadyH.cons rfl (fun K hK => ?_) AllReadyH.nil
    go_simp
    go_wp2_with (go_at_call 66; refine (repeat_any x15.heap.size 1 1 n (by omega) x16 c0x16 c1x16).mono ?_; rintro e x17 ⟨Wb, rfl, hWb, wx17, b0x17⟩)
    refine hK.out _ _ trivial (fun hHeld17 => ?_)
    clear hK K
    have bx17 : Below w.heap.size w x17 := bx16.trans (b0x17.mono bx16.size)
    have Hbw : Hid (w.heap.size ≤ Wb) := Nat.le_trans bx16.size hWb
    have hWl := (wx17.row.lt Wb rfl).2
    have wx17' := wx17.base bx16.size
    have lx17 := lx16.keep b0x17
    have Hne : Hid (Wb ≠ L15) := fun e => by have h8 := (lx16.row.lt L15 rfl).2; omega
    clear wx17
    refine wpAnyH_ready (rs := [14]) (by kernel_rfl) (by simp) ?_
    refine AllReadyH.cons rfl (fun K hK => ?_) AllReadyH.nil
    go_simp
    go_wp2_with (go_at_call 25; refine (iPilesTotal_yes A n c ps tot Hpt.out x17 ((hP.below bx17).mono bx17.size) (by omega) hnc).mono ?_; rintro e x18 ⟨rfl, b0x18⟩)
    refine hK.out _ _ trivial (fun hHeld18 => ?_)
    clear hK K
    have bx18 : Below w.heap.size w x18 := bx17.trans (b0x18.mono bx17.size)
    have wx18 := wx17'.keep b0x18
    have lx18 := lx17.keep b0x18
    refine wpAnyH_ready (rs := [16]) (by kernel_rfl) (by simp) ?_
    refine AllReadyH.cons rfl (fun K hK => ?_) AllReadyH.nil
    go_simp
    go_wp2_with (go_at_call 24; refine (iQuota_yes tot seats q Hqq.out x18).mono ?_; rintro e x19 ⟨rfl, rfl⟩)
    refine hK.out _ _ trivial (fun hHeld19 => ?_)
    clear hK K
    (refine wpAnyH_take (i := 17) (v := ?_) rfl (by kernel_rfl) (by kernel_rfl) (by kernel_rfl) (fun _ _ _ h => h) (Or.inl ⟨by rfl, ?_⟩) (by assumption) ?_); rotate_left 1; (focus ((intro wz hSz; (try dsimp only at hSz); go_simp; try (with_reducible rfl)); done)); (try simp only [Act.put, List.getElem_toArray, List.getElem_cons_zero, List.getElem_cons_succ, List.setIfInBounds_toArray, List.set_cons_zero, List.set_cons_succ])
    refine wpAnyH_ready (rs := [18]) (by kernel_rfl) (by simp) ?_
    refine AllReadyH.cons rfl (fun K hK => ?_) AllReadyH.nil
    go_simp
    refine hK.out _ _ trivial (fun hHeldB => ?_)
    clear hK K
    (refine wpAnyH_take (i := 19) (v := ?_) rfl (by kernel_rfl) (by kernel_rfl) (by kernel_rfl) (fun _ _ _ h => h) (Or.inl ⟨by rfl, ?_⟩) (by assumption) ?_); rotate_left 1; (focus ((intro wz hSz; (try dsimp only at hSz); go_simp; try (with_reducible rfl)); done)); (try simp only [Act.put, List.getElem_toArray, List.getElem_cons_zero, List.getElem_cons_succ, List.setIfInBounds_toArray, List.set_cons_zero, List.set_cons_succ])
    (refine wpAnyH_done (by kernel_rfl) ?_ _)
    go_wp2_with fail
    go_ret
    have hzE := bx18.size
    exact ⟨x18.heap.size, Wb, L15, rfl, tr_new bx18 wx18 lx18 Hbw.out Hbl.out Hne.out hnl.out hl.out _, bx18.alloc hzE _⟩
end Go.Proofs.Ytiglkajafdecgaa
