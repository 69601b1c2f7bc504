/-
  The small functions of the statements on rounds that came in: sizes, copies; from what a law's argument reads as to rounds.
-/
import Derived.Test.YtleceoplfboefaaLawRoundTab
import Derived.Test.YtleceoplfboefaaOpenPiles
namespace Go.Proofs.Ytleceoplfboefaa
set_option linter.unusedVariables false
open Go.ChangeShapes Go.WideShapes Go.ChangeAt Go.RowKit Go.Deep

theorem own_past {w : World} {base : Nat} {e : TypeId} {sz : Nat} {v : Value} {n : Nat} {xs : List Value} (h : w.ownsRow base e sz v n xs) {p : Addr} (hp : p.block < base) (u : Value) : (w.setCell p u).ownsRow base e sz v n xs :=
  h.kept (only_setCell (World.grownBy.refl w (some p.block)) (.inl rfl) u) (by
    rcases h.2 with ⟨rfl, _⟩ | ⟨g, cap, cur, rfl, hb, _⟩
    · exact .inl rfl
    · refine .inr ?_
      simp [Value.ownBlock]
      omega)
set_option maxRecDepth 100000 in
set_option maxHeartbeats 400000 in
theorem toRound_any (A : Option Addr) (n c : Nat) (zs : List Int) (t : Int) (B : Nat) (w : World) (h : Ints w B A n zs) (hB : B ≤ w.heap.size) (hn : n ≤ 1048576) :
    Calls Try.prog 39 #[.agg #[.slice A n c, .int .i64 t]] w fun e w' => ∃ A' c', e = .returned (.agg #[.slice A' n c', .int .i64 t]) ∧ n ≤ c' ∧ Own w' w.heap.size (.slice A' n c') n zs ∧ Below w.heap.size w w' := by
  have H := Lib.hid h
  clear h
  go_enter Try.func39, Try.ntmps39
  go_wp2_with fail
  refine (toIntS_any A n c zs _ ((H.out.below ?_).mono ?_) hn).mono ?_
  · exact ((((Below.refl _ _).alloc hB _).alloc (by simp; omega) _).alloc (by simp; omega) _)
  · simp; omega
  rintro e w1 ⟨A', c', rfl, hc', hown, hb1⟩
  obtain ⟨hc1, hf1⟩ := bcell hb1
  have hz1 := hb1.size
  simp at hz1
  have hown1 := Lib.hid hown
  clear hown
  go_wp2_with fail
  have h3 : w1.ownsRow (w.heap.size + 3) 3 1 (.slice A' n c') n (zs.map (Value.int .i64)) := own_base hown1.out (by simp)
  have hb3 : Below w.heap.size w w1 := (((Below.refl _ _).alloc (Nat.le_refl _) _).alloc (by simp) _).alloc (by simp; omega) _ |>.trans (hb1.mono (by simp; omega))
  exact bodyPost_ret (v := .agg #[.slice A' n c', .int .i64 t]) (by simp [results, Try.results39, go_sem, hc1]) rfl ⟨A', c', rfl, hc', by
    unfold Own
    refine own_base (base := w.heap.size + 3) ?_ (by omega)
    repeat (refine own_past ?_ (by first | (simp; done) | (simp; omega)) _)
    exact h3, by
    repeat (refine Below.setCell ?_ (by first | (simp; done) | (simp; omega)) _)
    exact hb3⟩
/-- the rounds that have been copied: their counts lie apart from the row itself -/
def RCopied (w : World) (B g : Nat) (rs : List Bp.Rnd) (vs : List Value) (os : List Int) (k : Nat) : Prop :=
  ∀ j, j < k → ∃ (A : Option Addr) (m c : Nat), vs.getD j undef = .slice A m c ∧ m ≤ c ∧ Own w B (.slice A m c) m (rs.getD j default).1 ∧ (Value.slice A m c).ownBlock ≠ some g ∧ os.getD j 0 = (rs.getD j default).2
theorem RCopied.keep {w w' : World} {B g k : Nat} {rs : List Bp.Rnd} {vs : List Value} {os : List Int} (h : RCopied w B g rs vs os k) (hb : Below w.heap.size w w') : RCopied w' B g rs vs os k := fun j hj => by
  obtain ⟨A, m, c, h1, h2, h3, h4, h5⟩ := h j hj
  exact ⟨A, m, c, h1, h2, h3.keep hb, h4, h5⟩
theorem RCopied.row {w w' : World} {B g k : Nat} {rs : List Bp.Rnd} {vs : List Value} {os : List Int} (h : RCopied w B g rs vs os k) (hg : w.grownBy w' (some g)) : RCopied w' B g rs vs os k := fun j hj => by
  obtain ⟨A, m, c, h1, h2, h3, h4, h5⟩ := h j hj
  refine ⟨A, m, c, h1, h2, h3.row.kept hg ?_, h4, h5⟩
  rcases h3.row.2 with ⟨e, _⟩ | ⟨g', cap, cur, e, _⟩
  · exact .inl (by rw [e]; rfl)
  · exact .inr h4
theorem RCopied.more {w : World} {B g k : Nat} {rs : List Bp.Rnd} {vs : List Value} {os : List Int} (h : RCopied w B g rs vs os k) {A : Option Addr} {m c : Nat} {zs : List Int} {t : Int} (hr : rs.getD k default = (zs, t)) (hv : vs.length = os.length) (hk : k < os.length)
    (hc : m ≤ c) (ho : Own w B (.slice A m c) m zs) (hn : (Value.slice A m c).ownBlock ≠ some g) : RCopied w B g rs (vs.set k (.slice A m c)) (os.set k t) (k + 1) := fun j hj => by
  by_cases e : j = k
  · subst e
    rw [hr]
    exact ⟨A, m, c, by simp [List.getD, show j < vs.length by omega], hc, ho, hn, by simp [List.getD, hk]⟩
  · obtain ⟨A, m, c, h1, h2, h3, h4, h5⟩ := h j (by omega)
    refine ⟨A, m, c, ?_, h2, h3, h4, ?_⟩
    · rw [← h1]; simp [List.getD, List.getElem?_set_ne (Ne.symm e)]
    · rw [← h5]; simp [List.getD, List.getElem?_set_ne (Ne.symm e)]
theorem rcells_set0 : ∀ (vs : List Value) (os : List Int) (k : Nat) (v : Value), vs.length = os.length → (rcells vs os).set (k * 2) v = rcells (vs.set k v) os
  | [], [], _, _, _ => by simp [rcells]
  | [], _ :: _, _, _, h => by simp at h
  | _ :: _, [], _, _, h => by simp at h
  | v :: vs, p :: os, 0, o, _ => rfl
  | v :: vs, p :: os, k + 1, o, h => by
    rw [show (k + 1) * 2 = (k * 2) + 1 + 1 by omega]
    show v :: .int .i64 p :: (rcells vs os).set (k * 2) o = v :: .int .i64 p :: rcells (vs.set k o) os
    rw [rcells_set0 vs os k o (by simpa using h)]
theorem rcells_made : ∀ n : Nat, (madeCells #[.slice none 0 0, .int .i64 0] (n * 2)).toList = rcells (List.replicate n (.slice none 0 0)) (List.replicate n 0) := by
  intro n
  apply List.ext_getElem?
  intro j
  have hl := rcells_len (List.replicate n (.slice none 0 0)) (List.replicate n 0) (by simp)
  rw [List.length_replicate] at hl
  by_cases hj : j < n * 2
  · have hm : (madeCells #[Value.slice none 0 0, .int .i64 0] (n * 2)).toList[j]? = some ((#[Value.slice none 0 0, .int .i64 0] : Array Value)[j % 2]!) := by
      simp [madeCells, hj]
    rw [hm]
    obtain ⟨h1, h2⟩ := rcells_at (List.replicate n (.slice none 0 0)) (List.replicate n 0) (j / 2) (by simp) (by simp; omega)
    have d1 : (List.replicate n (Value.slice none 0 0)).getD (j / 2) undef = .slice none 0 0 := by simp [List.getD, show j / 2 < n by omega]
    have d2 : (List.replicate n (0 : Int)).getD (j / 2) 0 = 0 := by simp [List.getD, show j / 2 < n by omega]
    rw [d1] at h1
    rw [d2] at h2
    rcases (show j % 2 = 0 ∨ j % 2 = 1 by omega) with h | h
    · have e : j = j / 2 * 2 := by omega
      rw [h]
      rw [← e] at h1
      rw [h1]
      rfl
    · have e : j = j / 2 * 2 + 1 := by omega
      rw [h]
      rw [← e] at h2
      rw [h2]
      rfl
  · rw [List.getElem?_eq_none (by simp [size_madeCells]; omega), List.getElem?_eq_none (by omega)]
theorem rounds_of_copied {w : World} {B g n c : Nat} {rs : List Bp.Rnd} {vs : List Value} {os : List Int} (hl : rs.length = n) (hv : vs.length = n) (ho : os.length = n) (h : w.ownsRow B 58 2 (.slice (some ⟨g, 0, none⟩) n c) n (rcells vs os)) (hc : RCopied w B g rs vs os n) :
    RoundsV w w.heap.size (some ⟨g, 0, none⟩) n rs := by
  refine ⟨hl, fun hn => ⟨g, 0, rfl, (h.lt g rfl).2, fun k hk => ?_⟩⟩
  obtain ⟨A, m, c', h1, h2, h3, h4, h5⟩ := hc k hk
  obtain ⟨c1, c2⟩ := rcells_at vs os k (by omega) (by omega)
  rw [h1] at c1
  rw [h5] at c2
  have d1 := h.cells (g := g) rfl (k * 2) _ c1
  have d2 := h.cells (g := g) rfl (k * 2 + 1) _ c2
  rw [add_zero_off] at d1 d2
  exact ⟨A, m, c', by simpa using d1, h2, h3.ints, by simpa using d2⟩
/-- what a copy of rounds leaves -/
def CopiedR (n : Nat) (rs : List Bp.Rnd) (w : World) (e : Ending) (w' : World) : Prop :=
  ∃ (A : Option Addr) (c : Nat), e = .returned (.slice A n c) ∧ n ≤ c ∧ RoundsV w' w'.heap.size A n rs ∧ Below w.heap.size w w'
set_option maxRecDepth 100000 in
set_option maxHeartbeats 400000 in
theorem toRoundS_any (A : Option Addr) (n c : Nat) (rs : List Bp.Rnd) (w : World) (h : RoundsV w w.heap.size A n rs) (hn : n ≤ 1048576) (hs : ∀ k, (rs.getD k default).1.length ≤ 1048576) :
    Calls Try.prog 20 #[.slice A n c] w (CopiedR n rs w) := by
  have hl := Lib.hid h.1
  have Hs := Lib.hid hs
  clear hs
  obtain ⟨i0, hi0, hz0, hz1, hz2⟩ := info_parts round_info
  go_enter Try.func20, Try.ntmps20
  go_wp2_with (at_make; refine wpList_make_full _ rfl (.tmp 6) (.tmp 6) 25 rfl w.heap.size 58 i0 _ 2 Try.underlying25 hi0 hz0 hz1 .i64 .i64 n n n rfl rfl rfl rfl (by rw [hz2]; omega) (by unfold maxLen; omega) (Nat.le_refl _) ?_; intro w1 hown hg)
  have hown1 : w1.ownsRow w.heap.size 58 2 (.slice (some ⟨w.heap.size, 0, none⟩) n n) n (rcells (List.replicate n (.slice none 0 0)) (List.replicate n 0)) := by
    rw [← rcells_made]
    exact hown
  have hb1 : Below w.heap.size w w1 := (Below.refl _ _).grown hg (Nat.le_refl _) (by simp)
  clear hown hg
  go_loopw [4] (fun i wr => ∃ (k : Nat) (vs : List Value) (os : List Int), k ≤ n ∧ i = .int .i64 k ∧ Hid (vs.length = n) ∧ Hid (os.length = n) ∧ wr.ownsRow w.heap.size 58 2 (.slice (some ⟨w.heap.size, 0, none⟩) n n) n (rcells vs os) ∧ RCopied wr w.heap.size w.heap.size rs vs os k ∧ Below w.heap.size w wr) (fun i _ => n - (intOf i).toNat)
  case atStart => exact ⟨0, _, _, Nat.zero_le _, rfl, by unfold Hid; simp, by unfold Hid; simp, hown1, fun j hj => absurd hj (by omega), hb1⟩
  case round =>
    obtain ⟨k, vs, os, hk, rfl, hvl, hol, hown, hcp, hb⟩ := hrel
    have hz := hb.size
    by_cases hlt : k < n
    · have hr := h.below hb
      obtain ⟨g, o, A1, m1, c1, zs, t, rfl, hg, hc1, hm1, hz1, hc2, hp⟩ := hr.at hlt
      have hm1b : m1 ≤ 1048576 := by
        have := Hs.out k
        rw [hp.out] at this
        have h3 := hz1.1
        simp only at this
        omega
      go_wp2_with fail
      refine (toRound_any A1 m1 c1 zs t w.heap.size _ hz1 hz hm1b).mono ?_
      rintro e w2 ⟨A2, c2, rfl, hmc2, hown2, hb2⟩
      have hrow2 := own_keep hown hb2
      have hcp2 := hcp.keep hb2
      have hgl := (hown.lt w.heap.size rfl).2
      have hne : (Value.slice A2 m1 c2).ownBlock ≠ some w.heap.size := fun e => by have := (hown2.row.lt _ e).1; omega
      have hkl : k * 2 + 1 < n * 2 := by omega
      obtain ⟨r1, r2⟩ := rcells_at vs os k (by rw [hvl.out, hol.out]) (by rw [hol.out]; exact hlt)
      have hd1 := (hrow2.cellAt (k * 2) (by omega)).trans r1
      have hd2 := (hrow2.cellAt (k * 2 + 1) (by omega)).trans r2
      obtain ⟨u1, hu1⟩ : ∃ u, vs.getD k undef = u := ⟨_, rfl⟩
      obtain ⟨u2, hu2⟩ : ∃ u, os.getD k 0 = u := ⟨_, rfl⟩
      rw [hu1] at hd1
      rw [hu2] at hd2
      have hf1 : w2.frozen? ⟨w.heap.size, k * 2, none⟩ = false := hrow2.frozenAt _
      have hf2 : w2.frozen? ⟨w.heap.size, k * 2 + 1, none⟩ = false := hrow2.frozenAt _
      have s1 := hrow2.stored (k * 2) (.slice A2 m1 c2)
      have s2 := s1.1.stored (k * 2 + 1) (.int .i64 t)
      have hst := s2.1
      rw [rcells_set0 _ _ _ _ (by rw [hvl.out, hol.out]), rcells_set1 _ _ _ _ (by rw [List.length_set, hvl.out, hol.out])] at hst
      have hmo := hcp2.more hp.out (by rw [hvl.out, hol.out]) (by rw [hol.out]; exact hlt) hmc2 (hown2.base hz) hne
      have hcpn := (hmo.row s1.2).row s2.2
      have hB2 : Below w.heap.size w w2 := hb.trans (hb2.mono hz)
      have Hst := Lib.hid hst
      have Hcpn := Lib.hid hcpn
      have Hv : Hid ((vs.set k (.slice A2 m1 c2)).length = n) := by unfold Hid; rw [List.length_set]; exact hvl.out
      have Ho : Hid ((os.set k t).length = n) := by unfold Hid; rw [List.length_set]; exact hol.out
      clear s1 s2 hst hmo hcpn hown hown2 hrow2 hcp hcp2 hb2 r1 r2 hu1 hu2 hz1 hr
      go_wp2_with fail
      go_roundw
      case rel => exact ⟨k + 1, _, _, by omega, by go_num, Hv, Ho, Hst.out, Hcpn.out, (hB2.setCell (Nat.le_refl _) _).setCell (Nat.le_refl _) _⟩
      case measure => simp [intOf]; omega
    · have hkn : k = n := by omega
      have Hkn := Lib.hid hkn
      clear hkn
      go_wp2_with fail
      go_ret
      refine ⟨_, n, rfl, Nat.le_refl _, ?_, hb⟩
      have hcp' := hcp
      rw [Hkn.out] at hcp'
      exact rounds_of_copied hl.out hvl.out hol.out hown hcp'
set_option maxRecDepth 100000 in
set_option maxHeartbeats 400000 in
theorem szIntS_any (A : Option Addr) (n c : Nat) (L : Int) (w : World) (hn : n ≤ 9223372036854775807) (h0 : 0 ≤ L) (h1 : L ≤ 1048576) :
    Calls Try.prog 61 #[.slice A n c, .int .i64 L] w fun e w' => e = .returned (.int .i64 (if L < n then -1 else L - n)) ∧ w = w' := by
  by_cases h : L < n
  · rw [if_pos h]
    go_enter Try.func61, Try.ntmps61
    go_wp2
    go_ret
    exact ⟨rfl, rfl⟩
  · rw [if_neg h]
    go_enter Try.func61, Try.ntmps61
    go_wp2
    go_ret
    exact ⟨rfl, rfl⟩
set_option maxRecDepth 100000 in
set_option maxHeartbeats 400000 in
theorem szRound_any (A : Option Addr) (n c : Nat) (t L : Int) (w : World) (hn : n ≤ 9223372036854775807) (h0 : 0 ≤ L) (h1 : L ≤ 1048576) :
    Calls Try.prog 37 #[.agg #[.slice A n c, .int .i64 t], .int .i64 L] w fun e w' => e = .returned (.int .i64 (if L < n then -1 else L - n)) ∧ Below w.heap.size w w' := by
  by_cases h : L < n
  · rw [if_pos h]
    go_enter Try.func37, Try.ntmps37
    go_wp2_with fail
    refine (szIntS_any A n c L _ hn h0 h1).mono ?_
    rintro e w1 ⟨rfl, rfl⟩
    rw [if_pos h]
    go_wp2_with fail
    go_ret
    exact ⟨rfl, (by repeat (first | exact Below.refl _ _ | assumption | refine below_drewN ?_ _ | refine Below.drew ?_ | refine Below.alloc ?_ (by first | exact Nat.le_refl _ | omega | (simp; done) | (simp; omega)) _ | refine Below.setCell ?_ (by first | exact Nat.le_refl _ | omega | (simp; done) | (simp; omega)) _))⟩
  · rw [if_neg h]
    go_enter Try.func37, Try.ntmps37
    go_wp2_with fail
    refine (szIntS_any A n c L _ hn h0 h1).mono ?_
    rintro e w1 ⟨rfl, rfl⟩
    rw [if_neg (by omega)]
    go_wp2_with fail
    go_ret
    exact ⟨rfl, (by repeat (first | exact Below.refl _ _ | assumption | refine below_drewN ?_ _ | refine Below.drew ?_ | refine Below.alloc ?_ (by first | exact Nat.le_refl _ | omega | (simp; done) | (simp; omega)) _ | refine Below.setCell ?_ (by first | exact Nat.le_refl _ | omega | (simp; done) | (simp; omega)) _))⟩
/-- what szRoundS answers: where the answer is not below 0, nothing is long -/
def SizedR (n : Nat) (rs : List Bp.Rnd) (L : Int) (w : World) (e : Ending) (w' : World) : Prop :=
  ∃ r : Int, e = .returned (.int .i64 r) ∧ (0 ≤ r → (n : Int) ≤ L ∧ ∀ k, ((rs.getD k default).1.length : Int) ≤ L) ∧ r ≤ L ∧ Below w.heap.size w w'
set_option maxRecDepth 100000 in
set_option maxHeartbeats 400000 in
theorem szRoundS_any (A : Option Addr) (n c : Nat) (rs : List Bp.Rnd) (L : Int) (w : World) (h : RoundsV w w.heap.size A n rs) (hn : n ≤ 9223372036854775807) (hss : ∀ k, (rs.getD k default).1.length ≤ 9223372036854775807) (h0 : 0 ≤ L) (h1 : L ≤ 1048576) :
    Calls Try.prog 18 #[.slice A n c, .int .i64 L] w (SizedR n rs L w) := by
  have hl := Lib.hid h.1
  have Hss := Lib.hid hss
  clear hss
  by_cases hL : L < n
  · go_enter Try.func18, Try.ntmps18
    go_wp2
    go_ret
    exact ⟨-1, rfl, fun h => absurd h (by omega), by omega, Below.refl _ _⟩
  · go_enter Try.func18, Try.ntmps18
    go_wp2
    go_loopw [1, 5] (fun l i wr => ∃ (k : Nat) (q : Int), k ≤ n ∧ i = .int .i64 k ∧ l = .int .i64 q ∧ 0 ≤ q ∧ q ≤ L ∧ Hid (∀ j, j < k → ((rs.getD j default).1.length : Int) ≤ L) ∧ Below w.heap.size w wr) (fun _ i _ => n - (intOf i).toNat)
    case atStart => exact ⟨0, L - n, Nat.zero_le _, rfl, rfl, by omega, by omega, (fun j hj => absurd hj (by omega)), Below.refl _ _⟩
    case round =>
      obtain ⟨k, q, hk, rfl, rfl, hq0, hqL, hq, hb⟩ := hrel
      have hz := hb.size
      by_cases hlt : k < n
      · obtain ⟨g, o, A1, m1, c1, zs, t, rfl, hg, hc1, hm1, hz1, hc2, hp⟩ := (h.below hb).at hlt
        have hm1b : m1 ≤ 9223372036854775807 := by
          have := Hss.out k
          rw [hp.out] at this
          have h3 := hz1.1
          simp only at this
          omega
        have hzl := Lib.hid hz1.1
        clear hz1
        by_cases hqs : q < m1
        · go_wp2_with fail
          refine (szRound_any A1 m1 c1 t q _ hm1b hq0 (by omega)).mono ?_
          rintro e w1 ⟨rfl, hb1⟩
          rw [if_pos hqs]
          go_wp2_with fail
          go_ret
          exact ⟨-1, rfl, (fun h => absurd h (by omega)), by omega, hb.trans (hb1.mono hz)⟩
        · go_wp2_with fail
          refine (szRound_any A1 m1 c1 t q _ hm1b hq0 (by omega)).mono ?_
          rintro e w1 ⟨rfl, hb1⟩
          rw [if_neg (by omega)]
          go_wp2_with fail
          go_roundw
          case rel => exact ⟨k + 1, q - m1, by omega, by go_num, rfl, by omega, by omega, (fun j hj => by
            by_cases e : j = k
            · subst e
              rw [hp.out]
              show (zs.length : Int) ≤ L
              rw [hzl.out]
              omega
            · exact hq.out j (by omega)), hb.trans (hb1.mono hz)⟩
          case measure => simp [intOf]; omega
      · have hkn : k = n := by omega
        have Hkn := Lib.hid hkn
        clear hkn
        go_wp2_with fail
        go_ret
        exact ⟨q, rfl, (fun _ => ⟨by omega, (fun j => by
          by_cases hj : j < k
          · exact hq.out j hj
          · have e : rs.getD j default = default := by unfold List.getD; rw [List.getElem?_eq_none (by rw [hl.out, ← Hkn.out]; omega)]; rfl
            rw [e]
            exact h0)⟩), hqL, hb⟩
theorem rounds_of_open {H : Type} {enc : TypeId × Value → H} {w : World} {fuel : Nat} {cs : List Value} {x : DataW H × List MemPlace} (h : DataW.trod enc Try.prog w 0 (fun _ => true) true fuel 38 cs = some x) :
    ∃ (A : Option Addr) (n c : Nat) (rs : List Bp.Rnd), cs = [.slice A n c] ∧ RoundsV w w.heap.size A n rs ∧ n ≤ 9223372036854775807 ∧ n ≤ c ∧ ∀ k, (rs.getD k default).1.length ≤ 9223372036854775807 := by
  rcases open_slice_pairs Try.underlying38 Try.underlying64 (by kernel_rfl) rfl rfl (by kernel_rfl) (by kernel_rfl) h with ⟨rfl, _⟩ | ⟨a, len, cap, m, n, V0, V1, D0, D1, P0, P1, rfl, _, hl, hm, hmm, _, hx⟩
  · exact ⟨none, 0, 0, [], rfl, ⟨rfl, fun h => absurd h (by omega)⟩, by omega, Nat.le_refl _, fun k => Nat.zero_le _⟩
  · have hmc : m = cap := hmm
    subst hmc
    have hs : ∀ i, i < m → ∃ q : (Option Addr × Nat × Nat) × Bp.Rnd, V0 i = .slice q.1.1 q.1.2.1 q.1.2.2 ∧ Ints w w.heap.size q.1.1 q.1.2.1 q.2.1 ∧ q.1.2.1 ≤ q.1.2.2 ∧ q.1.2.1 ≤ 9223372036854775807 ∧ V1 i = .int .i64 q.2.2 := fun i hi => by
      obtain ⟨_, _, t0, t1⟩ := hx i hi
      obtain ⟨A, n', c', zs, e0, hz, hz1, hz2⟩ := ints_of_open t0
      obtain ⟨z, e1, _, _⟩ := DataW.trod_int (k := .i64) (by kernel_rfl) t1
      exact ⟨((A, n', c'), (zs, z)), by simpa using e0, hz, hz2, hz1, by simpa using e1⟩
    obtain ⟨Q, hQ⟩ := choose_lt hs
    have hml : m ≤ 9223372036854775807 := by unfold maxLen at hm; exact hm
    refine ⟨some a, len, m, (List.range len).map fun i => (Q i).2, rfl, ⟨by simp, fun hn => ?_⟩, by omega, hl, fun k => ?_⟩
    · obtain ⟨b, off, spot⟩ := a
      obtain ⟨hsp, hb⟩ := spot_none (by simpa using (hx 0 (by omega)).1)
      have hsp' : spot = none := hsp
      subst hsp'
      refine ⟨b, off, rfl, hb, fun k hk => ?_⟩
      obtain ⟨h1, h2, _, _⟩ := hx k (by omega)
      obtain ⟨q1, q2, q3, q4, q5⟩ := hQ k (by omega)
      rw [add_off] at h1 h2
      have e : ((List.range len).map fun i => (Q i).2).getD k default = (Q k).2 := by simp [List.getD, hk]
      rw [e]
      rw [q1] at h1
      rw [q5] at h2
      exact ⟨_, _, _, h1, q3, q2, h2⟩
    · by_cases hk : k < len
      · have e : ((List.range len).map fun i => (Q i).2).getD k default = (Q k).2 := by simp [List.getD, hk]
        rw [e]
        obtain ⟨q1, q2, q3, q4, q5⟩ := hQ k (by omega)
        rw [q2.1]
        exact q4
      · have e : ((List.range len).map fun i => (Q i).2).getD k default = default := by simp [List.getD, show len ≤ k by omega]
        rw [e]
        exact Nat.zero_le _
end Go.Proofs.Ytleceoplfboefaa
