/-
  The small functions of the statements themselves: sizes, copies, comparisons, marks.
-/
import Derived.Test.YtiglkajafdecgaaSmall
namespace Go.Proofs.Ytiglkajafdecgaa
set_option linter.unusedVariables false
open Go.RowKit

theorem int_row : (Try.prog.info? 3).map (fun i => (i.zero, i.size, i.bytes)) = some (some (.int .i64 0), 1, 8) := by kernel_rfl
theorem pile_row : (Try.prog.info? 57).map (fun i => (i.zero, i.size, i.bytes)) = some (some (.agg #[.string ByteArray.empty, .int .i64 0]), 2, 24) := by kernel_rfl

/-- what szPileS answers: where the answer is not below 0, nothing is long -/
def Sized (n : Nat) (ps : List (ByteArray × Int)) (L : Int) (w : World) (e : Ending) (w' : World) : Prop :=
  ∃ r : Int, e = .returned (.int .i64 r) ∧ (0 ≤ r → (n : Int) ≤ L ∧ ∀ p ∈ ps, (p.1.size : Int) ≤ L) ∧ r ≤ L ∧ Below w.heap.size w w'

set_option maxRecDepth 100000 in
set_option maxHeartbeats 400000 in
theorem szPile_any (s : ByteArray) (m L : Int) (w : World) (hs : s.size ≤ 9223372036854775807) (h0 : 0 ≤ L) (h1 : L ≤ 1048576) :
    Calls Try.prog 33 #[.agg #[.string s, .int .i64 m], .int .i64 L] w fun e w' => e = .returned (.int .i64 (if L < s.size then -1 else L - s.size)) ∧ Below w.heap.size w w' := by
  by_cases h : L < s.size
  · rw [if_pos h]
    go_enter Try.func33, Try.ntmps33
    go_wp2
    go_ret
    exact ⟨rfl, (by repeat (first | exact Below.refl _ _ | assumption | refine below_drewN ?_ _ | refine Below.drew ?_ | refine Below.alloc ?_ (by first | exact Nat.le_refl _ | omega | (simp; done) | (simp; omega)) _ | refine Below.setCell ?_ (by first | exact Nat.le_refl _ | omega | (simp; done) | (simp; omega)) _))⟩
  · rw [if_neg h]
    go_enter Try.func33, Try.ntmps33
    go_wp2
    go_ret
    exact ⟨rfl, (by repeat (first | exact Below.refl _ _ | assumption | refine below_drewN ?_ _ | refine Below.drew ?_ | refine Below.alloc ?_ (by first | exact Nat.le_refl _ | omega | (simp; done) | (simp; omega)) _ | refine Below.setCell ?_ (by first | exact Nat.le_refl _ | omega | (simp; done) | (simp; omega)) _))⟩

theorem sized_step {ps : List (ByteArray × Int)} {k : Nat} {s : ByteArray} {m : Int} (hp : ps.getD k default = (s, m)) (hk : k < ps.length) {P : ByteArray × Int → Prop} (h : ∀ p ∈ ps.take k, P p) (hs : P (s, m)) : ∀ p ∈ ps.take (k + 1), P p := by
  rw [List.take_succ_eq_append_getElem hk]
  intro p hpm
  rcases List.mem_append.1 hpm with h1 | h1
  · exact h p h1
  · have e : ps[k] = (s, m) := by rw [← hp]; simp [List.getD, hk]
    rw [e] at h1
    simp only [List.mem_singleton] at h1
    rw [h1]; exact hs

set_option maxRecDepth 100000 in
set_option maxHeartbeats 400000 in
theorem szPileS_any (A : Option Addr) (n c : Nat) (ps : List (ByteArray × Int)) (L : Int) (w : World) (h : PilesR w w.heap.size A n ps) (hn : n ≤ 9223372036854775807) (hss : ∀ p ∈ ps, p.1.size ≤ 9223372036854775807) (h0 : 0 ≤ L) (h1 : L ≤ 1048576) :
    Calls Try.prog 10 #[.slice A n c, .int .i64 L] w (Sized n ps L w) := by
  have hl := Lib.hid h.1
  by_cases hL : L < n
  · go_enter Try.func10, Try.ntmps10
    go_wp2
    go_ret
    exact ⟨-1, rfl, fun h => absurd h (by omega), by omega, Below.refl _ _⟩
  · go_enter Try.func10, Try.ntmps10
    go_wp2
    go_loopw [1, 5] (fun l i wr => ∃ (k : Nat) (q : Int), k ≤ n ∧ i = .int .i64 k ∧ l = .int .i64 q ∧ 0 ≤ q ∧ q ≤ L ∧ Hid (∀ p ∈ ps.take k, (p.1.size : Int) ≤ L) ∧ Below w.heap.size w wr) (fun _ i _ => n - (intOf i).toNat)
    case atStart => exact ⟨0, L - n, Nat.zero_le _, rfl, rfl, by omega, by omega, fun p hp => by simp at hp, Below.refl _ _⟩
    case round =>
      obtain ⟨k, q, hk, rfl, rfl, hq0, hqL, hq, hb⟩ := hrel
      have hz := hb.size
      by_cases hlt : k < n
      · have hr := h.below hb
        obtain ⟨g, o, s, m, rfl, hg, hc1, hc2, hp⟩ := hr.at hlt
        have hsz : s.size ≤ 9223372036854775807 := by
          have hk' : k < ps.length := by rw [hl.out]; exact hlt
          have : ps.getD k default ∈ ps := by
            have : ps.getD k default = ps[k] := by simp [List.getD, hk']
            rw [this]; exact List.getElem_mem hk'
          rw [hp.out] at this
          exact hss _ this
        by_cases hqs : q < s.size
        · go_wp2_with fail
          refine (szPile_any s m q _ hsz hq0 (by omega)).mono ?_
          rintro e w1 ⟨rfl, hb1⟩
          rw [if_pos hqs]
          go_wp2_with fail
          go_ret
          exact ⟨-1, rfl, fun h => absurd h (by omega), by omega, hb.trans (hb1.mono hz)⟩
        · go_wp2_with fail
          refine (szPile_any s m q _ hsz hq0 (by omega)).mono ?_
          rintro e w1 ⟨rfl, hb1⟩
          rw [if_neg (by omega)]
          go_wp2_with fail
          go_roundw
          case rel => exact ⟨k + 1, q - s.size, by omega, by go_num, rfl, by omega, by omega, sized_step hp.out (by rw [hl.out]; exact hlt) hq.out (by show (s.size : Int) ≤ L; omega), hb.trans (hb1.mono hz)⟩
          case measure => simp [intOf]; omega
      · have hkn : k = n := by omega
        have Hkn := Lib.hid hkn
        clear hkn
        go_wp2_with fail
        go_ret
        exact ⟨q, rfl, fun _ => ⟨by omega, fun p hp => hq.out p (by rw [List.take_of_length_le (by rw [hl.out, Hkn.out]; exact Nat.le_refl _)]; exact hp)⟩, hqL, hb⟩

set_option maxRecDepth 100000 in
set_option maxHeartbeats 400000 in
theorem toPile_any (s : ByteArray) (m : Int) (w : World) :
    Calls Try.prog 36 #[.agg #[.string s, .int .i64 m]] w fun e w' => e = .returned (.agg #[.string s, .int .i64 m]) ∧ Below w.heap.size w w' := by
  go_enter Try.func36, Try.ntmps36
  go_wp2
  exact bodyPost_ret (v := .agg #[.string s, .int .i64 m]) (by simp [results, Try.results36, go_sem]) rfl ⟨rfl, (by repeat (first | exact Below.refl _ _ | assumption | refine below_drewN ?_ _ | refine Below.drew ?_ | refine Below.alloc ?_ (by first | exact Nat.le_refl _ | omega | (simp; done) | (simp; omega)) _ | refine Below.setCell ?_ (by first | exact Nat.le_refl _ | omega | (simp; done) | (simp; omega)) _))⟩

/-- piles copied up to place k -/
def copied (ps : List (ByteArray × Int)) (k : Nat) : List (ByteArray × Int) := ps.take k ++ List.replicate (ps.length - k) (ByteArray.empty, 0)
theorem copied_zero (ps : List (ByteArray × Int)) : copied ps 0 = List.replicate ps.length (ByteArray.empty, 0) := by simp [copied]
theorem copied_all (ps : List (ByteArray × Int)) : copied ps ps.length = ps := by simp [copied]
theorem copied_len (ps : List (ByteArray × Int)) (k : Nat) (h : k ≤ ps.length) : (copied ps k).length = ps.length := by simp [copied]; omega
theorem copied_set (ps : List (ByteArray × Int)) (k : Nat) (h : k < ps.length) : (copied ps k).set k (ps.getD k default) = copied ps (k + 1) := by
  have e : ps.getD k default = ps[k] := by simp [List.getD, h]
  rw [e]
  unfold copied
  rw [List.set_append_right _ _ (by simp; omega), List.take_succ_eq_append_getElem h, List.append_assoc]
  congr 1
  have h1 : ps.length - k = (ps.length - (k + 1)) + 1 := by omega
  have h2 : k - (ps.take k).length = 0 := by simp; omega
  rw [h1, h2, List.replicate_succ]
  rfl

/-- what a copy leaves: piles of the call's own -/
def CopiedP (n : Nat) (ps : List (ByteArray × Int)) (w : World) (e : Ending) (w' : World) : Prop :=
  ∃ (A : Option Addr) (c : Nat), e = .returned (.slice A n c) ∧ n ≤ c ∧ OwnP w' w.heap.size (.slice A n c) n ps ∧ Below w.heap.size w w'

set_option maxRecDepth 100000 in
set_option maxHeartbeats 400000 in
theorem toPileS_any (A : Option Addr) (n c : Nat) (ps : List (ByteArray × Int)) (w : World) (h : PilesR w w.heap.size A n ps) (hn : n ≤ 1048576) :
    Calls Try.prog 12 #[.slice A n c] w (CopiedP n ps w) := by
  have hl := Lib.hid h.1
  obtain ⟨i0, hi0, hz0, hz1, hz2⟩ := info_parts pile_row
  go_enter Try.func12, Try.ntmps12
  go_wp2_with (at_make; refine wpList_make_full _ rfl (.tmp 6) (.tmp 6) 26 rfl w.heap.size 57 i0 _ 2 Try.underlying26 hi0 hz0 hz1 .i64 .i64 n n n rfl rfl rfl rfl (by rw [hz2]; omega) (by unfold maxLen; omega) (Nat.le_refl _) ?_; intro w1 hown hg)
  have hown1 : OwnP w1 w.heap.size (.slice (some ⟨w.heap.size, 0, none⟩) n n) n (copied ps 0) := by
    unfold OwnP
    rw [copied_zero, hl.out, ← pcells_made]
    exact hown
  have hb1 : Below w.heap.size w w1 := (Below.refl _ _).grown hg (Nat.le_refl _) (by simp)
  have hlt1 := (hown.lt w.heap.size rfl).2
  clear hown hg
  go_loopw [4] (fun i wr => ∃ k : Nat, k ≤ n ∧ i = .int .i64 k ∧ OwnP wr w.heap.size (.slice (some ⟨w.heap.size, 0, none⟩) n n) n (copied ps k) ∧ Below w.heap.size w wr) (fun i _ => n - (intOf i).toNat)
  case atStart => exact ⟨0, Nat.zero_le _, rfl, hown1, hb1⟩
  case round =>
    obtain ⟨k, hk, rfl, hown, hb⟩ := hrel
    have hz := hb.size
    by_cases hlt : k < n
    · have hr := h.below hb
      obtain ⟨g, o, s, m, rfl, hg, hc1, hc2, hp⟩ := hr.at hlt
      go_wp2_with fail
      refine (toPile_any s m _).mono ?_
      rintro e w2 ⟨rfl, hb2⟩
      have hown2 := hown.keep hb2
      have hcl : (copied ps k).length = n := by rw [copied_len ps k (by rw [hl.out]; exact hk), hl.out]
      have hk2 : k < (copied ps k).length := by rw [hcl]; exact hlt
      have hd1 : w2.cell? ⟨w.heap.size, k * 2, none⟩ = some (.string ((copied ps k).getD k default).1) := (hown2.row.cellAt (k * 2) (by omega)).trans (pcells_at _ k hk2).1
      have hd2 : w2.cell? ⟨w.heap.size, k * 2 + 1, none⟩ = some (.int .i64 ((copied ps k).getD k default).2) := (hown2.row.cellAt (k * 2 + 1) (by omega)).trans (pcells_at _ k hk2).2
      have hf1 : w2.frozen? ⟨w.heap.size, k * 2, none⟩ = false := hown2.row.frozenAt _
      have hf2 : w2.frozen? ⟨w.heap.size, k * 2 + 1, none⟩ = false := hown2.row.frozenAt _
      have hst := (hown2.row.stored (k * 2) (.string s)).1.stored (k * 2 + 1) (.int .i64 m)
      have hst' : OwnP ((w2.setCell ⟨w.heap.size, k * 2, none⟩ (.string s)).setCell ⟨w.heap.size, k * 2 + 1, none⟩ (.int .i64 m)) w.heap.size (.slice (some ⟨w.heap.size, 0, none⟩) n n) n (copied ps (k + 1)) := by
        have := hst.1
        rw [pcells_set _ _ _ _ hk2, ← hp.out, copied_set ps k (by rw [hl.out]; exact hlt)] at this
        exact this
      have hB2 : Below w.heap.size w w2 := hb.trans (hb2.mono hz)
      clear hst hown hown2 hb2 hcl
      have Hk2 := Lib.hid hk2
      clear hk2
      go_wp2_with fail
      go_roundw
      case rel => exact ⟨k + 1, by omega, by go_num, hst', (hB2.setCell (Nat.le_refl _) _).setCell (Nat.le_refl _) _⟩
      case measure => simp [intOf]; omega
    · have hkn : k = n := by omega
      have Hkn := Lib.hid hkn
      clear hkn
      go_wp2_with fail
      go_ret
      refine ⟨_, n, rfl, Nat.le_refl _, ?_, hb⟩
      have e := copied_all ps
      rw [hl.out, ← Hkn.out] at e
      rw [← e]
      exact hown

theorem list_eq {α : Type} (xs ys : List α) (d : α) (hl : xs.length = ys.length) (h : ∀ j, j < xs.length → xs.getD j d = ys.getD j d) : xs = ys := by
  apply List.ext_getElem hl
  intro j h1 h2
  have := h j h1
  simpa [List.getD, h1, h2] using this

set_option maxRecDepth 100000 in
set_option maxHeartbeats 400000 in
theorem eqIntS_any (A A' : Option Addr) (n c n' c' : Nat) (xs ys : List Int) (B B' : Nat) (w : World) (h : Ints w B A n xs) (h' : Ints w B' A' n' ys) (hn : n ≤ 4611686018427387904) :
    Calls Try.prog 15 #[.slice A n c, .slice A' n' c'] w fun e w' => e = .returned (.bool (decide (xs = ys))) ∧ Drawn w w' := by
  have hl := Lib.hid h.1
  have hl' := Lib.hid h'.1
  by_cases hne : n = n'
  · have d0 : ((n : Int) != (n' : Int)) = false := by simp; omega
    have Hne := Lib.hid hne
    have Hle : n ≤ n' := by omega
    clear hne
    go_enter Try.func15, Try.ntmps15
    go_wp2
    go_loopw [5] (fun i wr => ∃ k : Nat, k ≤ n ∧ i = .int .i64 k ∧ Hid (∀ j, j < k → xs.getD j 0 = ys.getD j 0) ∧ Drawn w wr) (fun i _ => n - (intOf i).toNat)
    case atStart => exact ⟨0, Nat.zero_le _, rfl, fun j hj => absurd hj (by omega), Drawn.refl w⟩
    case round =>
      obtain ⟨k, hk, rfl, hq, hd⟩ := hrel
      by_cases hlt : k < n
      · obtain ⟨g, o, z, rfl, _, hc, hz⟩ := (h.below (hd.below B)).at hlt
        obtain ⟨g', o', z', rfl, _, hc', hz'⟩ := (h'.below (hd.below B')).at (show k < n' by omega)
        have hlt' : k < n' := by omega
        have hi1 : (0 : Int) ≤ (k : Int) := by omega
        have hi2 : (k : Int) < (n : Int) := by omega
        have hi3 : (k : Int) < (n' : Int) := by omega
        by_cases hzz : z = z'
        · have hb : (z != z') = false := by simpa using hzz
          have Hzz := Lib.hid hzz
          clear hzz
          go_wp2_with fail
          go_quiet (fail)
          go_wp2_with fail
          go_roundw
          case rel => exact ⟨k + 1, by omega, by go_num, fun j hj => by
            by_cases hj' : j = k
            · subst hj'; rw [hz.out, hz'.out]; exact Hzz.out
            · exact hq.out j (by omega), hd.drewN _⟩
          case measure => simp [intOf]; omega
        · have hb : (z != z') = true := by simpa using hzz
          have Hzz := Lib.hid hzz
          clear hzz
          go_wp2_with fail
          go_quiet (fail)
          go_wp2_with fail
          go_ret
          exact ⟨ret_bool (by
            symm
            rw [decide_eq_false_iff_not]
            intro e
            apply Hzz.out
            rw [← hz.out, ← hz'.out, e]), hd.drewN _⟩
      · go_wp2_with fail
        go_ret
        exact ⟨ret_bool (by
          symm
          rw [decide_eq_true_iff]
          exact list_eq _ _ 0 (by rw [hl.out, hl'.out, Hne.out]) (fun j hj => hq.out j (by rw [hl.out] at hj; omega))), hd⟩
  · have d0 : ((n : Int) != (n' : Int)) = true := by simp; omega
    have Hne := Lib.hid hne
    clear hne
    go_enter Try.func15, Try.ntmps15
    go_wp2_with fail
    go_ret
    exact ⟨ret_bool (by
      symm
      rw [decide_eq_false_iff_not]
      intro e
      apply Hne.out
      rw [← hl.out, ← hl'.out, e]), Drawn.refl w⟩


set_option maxRecDepth 100000 in
set_option maxHeartbeats 400000 in
theorem eqPile_any (s s' : ByteArray) (m m' : Int) (w : World) :
    Calls Try.prog 37 #[.agg #[.string s, .int .i64 m], .agg #[.string s', .int .i64 m']] w fun e w' => e = .returned (.bool (s.toList == s'.toList && m == m')) ∧ Below w.heap.size w w' := by
  cases h1 : (s.toList == s'.toList)
  · go_enter Try.func37, Try.ntmps37
    go_wp2
    go_ret
    exact ⟨rfl, (by repeat (first | exact Below.refl _ _ | assumption | refine below_drewN ?_ _ | refine Below.drew ?_ | refine Below.alloc ?_ (by first | exact Nat.le_refl _ | omega | (simp; done) | (simp; omega)) _ | refine Below.setCell ?_ (by first | exact Nat.le_refl _ | omega | (simp; done) | (simp; omega)) _))⟩
  · cases h2 : (m == m')
    · have h3 : (m != m') = true := by rw [bne, h2]; rfl
      go_enter Try.func37, Try.ntmps37
      go_wp2
      go_ret
      exact ⟨rfl, (by repeat (first | exact Below.refl _ _ | assumption | refine below_drewN ?_ _ | refine Below.drew ?_ | refine Below.alloc ?_ (by first | exact Nat.le_refl _ | omega | (simp; done) | (simp; omega)) _ | refine Below.setCell ?_ (by first | exact Nat.le_refl _ | omega | (simp; done) | (simp; omega)) _))⟩
    · have h3 : (m != m') = false := by rw [bne, h2]; rfl
      go_enter Try.func37, Try.ntmps37
      go_wp2
      go_ret
      exact ⟨rfl, (by repeat (first | exact Below.refl _ _ | assumption | refine below_drewN ?_ _ | refine Below.drew ?_ | refine Below.alloc ?_ (by first | exact Nat.le_refl _ | omega | (simp; done) | (simp; omega)) _ | refine Below.setCell ?_ (by first | exact Nat.le_refl _ | omega | (simp; done) | (simp; omega)) _))⟩

theorem toList_inj {s t : ByteArray} (h : s.toList = t.toList) : s = t := by
  rw [ByteArray.toList_eq, ByteArray.toList_eq] at h
  exact WideShapes.bytes_inj h
theorem pile_eq (s t : ByteArray) (m q : Int) : (s.toList == t.toList && m == q) = decide ((s, m) = (t, q)) := by
  by_cases h : s = t
  · subst h
    by_cases h2 : m = q
    · subst h2; simp
    · have : (m == q) = false := by simpa using h2
      rw [this]; simp [h2]
  · have h3 : (s.toList == t.toList) = false := by
      rw [beq_eq_false_iff_ne]
      exact fun e => h (toList_inj e)
    rw [h3]; simp [h]
theorem eqPile_val (s s' : ByteArray) (m m' : Int) (v : Bool) (hv : decide ((s, m) = (s', m')) = v) (w : World) :
    Calls Try.prog 37 #[.agg #[.string s, .int .i64 m], .agg #[.string s', .int .i64 m']] w fun e w' => e = .returned (.bool v) ∧ Below w.heap.size w w' := by
  subst hv
  rw [← pile_eq]
  exact eqPile_any s s' m m' w

set_option maxRecDepth 100000 in
set_option maxHeartbeats 400000 in
theorem eqPileS_any (A A' : Option Addr) (n c n' c' : Nat) (xs ys : List (ByteArray × Int)) (w : World) (h : PilesR w w.heap.size A n xs) (h' : PilesR w w.heap.size A' n' ys) (hn : n ≤ 4611686018427387904) :
    Calls Try.prog 16 #[.slice A n c, .slice A' n' c'] w fun e w' => e = .returned (.bool (decide (xs = ys))) ∧ Below w.heap.size w w' := by
  have hl := Lib.hid h.1
  have hl' := Lib.hid h'.1
  by_cases hne : n = n'
  · have d0 : ((n : Int) != (n' : Int)) = false := by simp; omega
    have Hne := Lib.hid hne
    have Hle : n ≤ n' := by omega
    clear hne
    go_enter Try.func16, Try.ntmps16
    go_wp2
    go_loopw [5] (fun i wr => ∃ k : Nat, k ≤ n ∧ i = .int .i64 k ∧ Hid (∀ j, j < k → xs.getD j default = ys.getD j default) ∧ Below w.heap.size w wr) (fun i _ => n - (intOf i).toNat)
    case atStart => exact ⟨0, Nat.zero_le _, rfl, fun j hj => absurd hj (by omega), Below.refl _ _⟩
    case round =>
      obtain ⟨k, hk, rfl, hq, hd⟩ := hrel
      have hsz := hd.size
      by_cases hlt : k < n
      · obtain ⟨g, o, s, m, rfl, _, hc1, hc2, hz⟩ := (h.below hd).at hlt
        obtain ⟨g', o', s', m', rfl, _, hc1', hc2', hz'⟩ := (h'.below hd).at (show k < n' by omega)
        have hlt' : k < n' := by omega
        have hi1 : (0 : Int) ≤ (k : Int) := by omega
        have hi2 : (k : Int) < (n : Int) := by omega
        have hi3 : (k : Int) < (n' : Int) := by omega
        have hx1 := fun x => calm_cell (W := wr) hc1 x
        have hx2 := fun x => calm_cell (W := wr) hc2 x
        have hx3 := fun x => calm_cell (W := wr) hc1' x
        have hx4 := fun x => calm_cell (W := wr) hc2' x
        cases hv : decide ((s, m) = (s', m'))
        · have Hv := Lib.hid hv
          clear hv
          go_wp2_with fail
          refine wp_region_calm (by kernel_rfl) (by kernel_rfl) ?_
          repeat (go_big_quiet_step ((go_at_call 37; exact calm_call (eqPile_val s s' m m' false Hv.out _))))
          refine wpQuiet_nil ?_
          rintro _ ⟨⟨w1, hb1⟩, rfl⟩
          go_wp2_with fail
          go_ret
          exact ⟨ret_bool (by
            symm
            rw [decide_eq_false_iff_not]
            intro e
            have h1 := hz.out
            rw [e, hz'.out] at h1
            have := Hv.out
            rw [decide_eq_false_iff_not] at this
            exact this h1.symm), hd.trans (hb1.mono hsz)⟩
        · have Hv := Lib.hid hv
          clear hv
          go_wp2_with fail
          refine wp_region_calm (by kernel_rfl) (by kernel_rfl) ?_
          repeat (go_big_quiet_step ((go_at_call 37; exact calm_call (eqPile_val s s' m m' true Hv.out _))))
          refine wpQuiet_nil ?_
          rintro _ ⟨⟨w1, hb1⟩, rfl⟩
          go_wp2_with fail
          go_roundw
          case rel => exact ⟨k + 1, by omega, by go_num, fun j hj => by
            by_cases hj' : j = k
            · subst hj'; rw [hz.out, hz'.out]; exact of_decide_eq_true Hv.out
            · exact hq.out j (by omega), hd.trans (hb1.mono hsz)⟩
          case measure => simp [intOf]; omega
      · go_wp2_with fail
        go_ret
        exact ⟨ret_bool (by
          symm
          rw [decide_eq_true_iff]
          exact list_eq _ _ default (by rw [hl.out, hl'.out, Hne.out]) (fun j hj => hq.out j (by rw [hl.out] at hj; omega))), hd⟩
  · have d0 : ((n : Int) != (n' : Int)) = true := by simp; omega
    have Hne := Lib.hid hne
    clear hne
    go_enter Try.func16, Try.ntmps16
    go_wp2_with fail
    go_ret
    exact ⟨ret_bool (by
      symm
      rw [decide_eq_false_iff_not]
      intro e
      apply Hne.out
      rw [← hl.out, ← hl'.out, e]), Below.refl _ _⟩

/-- numbers from k on -/
def marks (k : Int) (n : Nat) : List Int := (List.range n).map fun (i : Nat) => k + (i : Int)
theorem marks_len (k : Int) (n : Nat) : (marks k n).length = n := by simp [marks]
theorem marks_at (k : Int) (n j : Nat) (h : j < n) : (marks k n).getD j 0 = k + j := by simp [marks, List.getD, h]
/-- the first j numbers marked -/
def marked (xs : List Int) (k : Int) (j : Nat) : List Int := marks k j ++ xs.drop j
theorem marked_zero (xs : List Int) (k : Int) : marked xs k 0 = xs := by simp [marked, marks]
theorem marked_all (xs : List Int) (k : Int) : marked xs k xs.length = marks k xs.length := by simp [marked]
theorem marked_len (xs : List Int) (k : Int) (j : Nat) (h : j ≤ xs.length) : (marked xs k j).length = xs.length := by simp [marked, marks_len]; omega
theorem marked_set (xs : List Int) (k : Int) (j : Nat) (h : j < xs.length) : (marked xs k j).set j (k + j) = marked xs k (j + 1) := by
  unfold marked
  rw [List.set_append_right _ _ (by rw [marks_len]; omega), marks_len, Nat.sub_self, List.drop_eq_getElem_cons h, List.set_cons_zero]
  unfold marks
  rw [List.range_succ, List.map_append, List.append_assoc]
  rfl

/-- what marking leaves -/
def MarkedI (g : Nat) (n c : Nat) (k : Int) (w : World) (e : Ending) (w' : World) : Prop :=
  e = .returned (.int .i64 (k + n)) ∧ Own w' g (.slice (some ⟨g, 0, none⟩) n c) n (marks k n) ∧ w.grownBy w' (some g)

set_option maxRecDepth 100000 in
set_option maxHeartbeats 400000 in
theorem markIntS_any (g n c : Nat) (xs : List Int) (k : Int) (w : World) (h : Own w g (.slice (some ⟨g, 0, none⟩) n c) n xs) (hn : n ≤ 1048576) (hk0 : 0 ≤ k) (hk1 : k ≤ 1073741824) :
    Calls Try.prog 18 #[.slice (some ⟨g, 0, none⟩) n c, .int .i64 k] w (MarkedI g n c k w) := by
  have hl := Lib.hid h.len
  go_enter Try.func18, Try.ntmps18
  go_wp2
  go_loopw [1, 5] (fun q i wr => ∃ j : Nat, j ≤ n ∧ i = .int .i64 j ∧ q = .int .i64 (k + j) ∧ Own wr g (.slice (some ⟨g, 0, none⟩) n c) n (marked xs k j) ∧ w.grownBy wr (some g)) (fun _ i _ => n - (intOf i).toNat)
  case atStart => exact ⟨0, Nat.zero_le _, rfl, by simp, by rw [marked_zero]; exact h, World.grownBy.refl _ _⟩
  case round =>
    obtain ⟨j, hj, rfl, rfl, hown, hg⟩ := hrel
    by_cases hlt : j < n
    · have hml : (marked xs k j).length = n := by rw [marked_len xs k j (by rw [hl.out]; exact hj), hl.out]
      have hc : wr.cell? ⟨g, j, none⟩ = some (.int .i64 ((marked xs k j).getD j 0)) := by
        rw [hown.row.cellAt j (by omega)]
        have : j < (marked xs k j).length := by rw [hml]; exact hlt
        simp [List.getD, this]
      have hf : wr.frozen? ⟨g, j, none⟩ = false := hown.row.frozenAt _
      have hst := hown.row.stored j (.int .i64 (k + j))
      have hst1 : Own (wr.setCell ⟨g, j, none⟩ (.int .i64 (k + j))) g (.slice (some ⟨g, 0, none⟩) n c) n (marked xs k (j + 1)) := by
        have := hst.1
        rw [← List.map_set, marked_set xs k j (by rw [hl.out]; exact hlt)] at this
        exact this
      have hg1 : w.grownBy (wr.setCell ⟨g, j, none⟩ (.int .i64 (k + j))) (some g) := ⟨hst.2.os.trans hg.os, hst.2.tape.trans hg.tape, hst.2.output.trans hg.output, Nat.le_trans hg.size hst.2.size, fun i hi hne => (hst.2.block i (Nat.lt_of_lt_of_le hi hg.size) hne).trans (hg.block i hi hne)⟩
      clear hst hown hg
      have Hml := Lib.hid hml
      clear hml
      obtain ⟨z, hz⟩ : ∃ z, (marked xs k j).getD j 0 = z := ⟨_, rfl⟩
      rw [hz] at hc
      clear hz
      go_wp2_with fail
      go_roundw
      case rel => exact ⟨j + 1, by omega, by go_num, by first | go_num | (congr 1; omega), hst1, hg1⟩
      case measure => simp [intOf]; omega
    · have hjn : j = n := by omega
      subst hjn
      go_wp2_with fail
      go_ret
      refine ⟨rfl, ?_, hg⟩
      have := marked_all xs k
      rw [hl.out] at this
      rw [← this]; exact hown

set_option maxRecDepth 100000 in
set_option maxHeartbeats 400000 in
theorem heldIntS_any (A : Option Addr) (n c : Nat) (k : Int) (B : Nat) (w : World) (h : Ints w B A n (marks k n)) (hn : n ≤ 1048576) (hk0 : 0 ≤ k) (hk1 : k ≤ 1073741824) :
    Calls Try.prog 19 #[.slice A n c, .int .i64 k] w fun e w' => e = .returned (.int .i64 (k + n)) ∧ w = w' := by
  go_enter Try.func19, Try.ntmps19
  go_wp2
  go_loop [1, 5] (fun q i => ∃ j : Nat, j ≤ n ∧ i = .int .i64 j ∧ q = .int .i64 (k + j)) (fun _ i => n - (intOf i).toNat)
  case atStart => exact ⟨0, Nat.zero_le _, rfl, by simp⟩
  case round =>
    obtain ⟨j, hj, rfl, rfl⟩ := hrel
    by_cases hlt : j < n
    · obtain ⟨g, o, z, rfl, _, hc, hz⟩ := h.at hlt
      have hz' := hz.out
      rw [marks_at k n j hlt] at hz'
      subst hz'
      clear hz
      have hb : (k + (j : Int) != k + (j : Int)) = false := by simp
      go_wp2
      go_round
      case rel => exact ⟨j + 1, by omega, by go_num, by first | go_num | (congr 1; omega)⟩
      case measure => simp [intOf]; omega
    · have hjn : j = n := by omega
      subst hjn
      go_wp2
      go_ret
      exact ⟨rfl, rfl⟩

/-- some string -/
def SomeText (w : World) (e : Ending) (w' : World) : Prop := ∃ s : ByteArray, e = .returned (.string s) ∧ Below w.heap.size w w'
theorem a_digit (q : Int) (h0 : 0 ≤ q) : ∃ b : UInt8, (b.toNat : Int) = 48 + q % 10 := ⟨UInt8.ofNat (48 + (q % 10).toNat), by
  rw [UInt8.toNat_ofNat']
  omega⟩
theorem text_size (a b : ByteArray) : (a ++ b).size = a.size + b.size := ByteArray.size_append

set_option maxRecDepth 100000 in
set_option maxHeartbeats 400000 in
theorem markText_any (k : Int) (w : World) (h0 : 0 ≤ k) (h1 : k ≤ 1073741824) :
    Calls Try.prog 38 #[.int .i64 k] w (SomeText w) := by
  by_cases hk : k ≤ 0
  · go_enter Try.func38, Try.ntmps38
    go_wp2
    go_ret
    exact ⟨_, rfl, Below.refl _ _⟩
  · go_enter Try.func38, Try.ntmps38
    go_wp2
    go_loopw [0, 3] (fun q s wr => ∃ (x : Int) (t : ByteArray), q = .int .i64 x ∧ s = .string t ∧ 0 ≤ x ∧ x ≤ k ∧ (t.size : Int) + x ≤ k ∧ Below w.heap.size w wr) (fun q _ _ => (intOf q).toNat)
    case atStart => exact ⟨k, _, rfl, rfl, by omega, by omega, by simp [ByteArray.size], Below.refl _ _⟩
    case round =>
      obtain ⟨x, t, rfl, rfl, hx0, hx1, hxt, hb⟩ := hrel
      have hz := hb.size
      by_cases hx : 0 < x
      · obtain ⟨b, hbd⟩ := a_digit x hx0
        have hcv := run_convert_bytes_back (P := Try.prog) (wr.alloc (.cells #[.int .u8 (48 + x % 10)] 5)) 34 9 5 ⟨wr.heap.size, 0, none⟩ 1 [b] Try.underlying34 Try.underlying5 Try.underlying9 (by
          intro j hj
          have : j = 0 := by simp at hj; omega
          subst this
          rw [add_zero_off, ← hbd]
          simp [go_sem])
        obtain ⟨tb, htb⟩ : ∃ tb : ByteArray, tb = ⟨[b].toArray⟩ := ⟨_, rfl⟩
        have hcv' : (convert 34 9 (.slice (some ⟨wr.heap.size, 0, none⟩) 1 1)).run Try.prog (wr.alloc (.cells #[.int .u8 (48 + x % 10)] 5)) = .ok (.string tb) (wr.alloc (.cells #[.int .u8 (48 + x % 10)] 5)) := by rw [htb]; exact hcv
        have htz : tb.size = 1 := by rw [htb]; rfl
        have hts := Lib.hid (show (tb ++ t).size = 1 + t.size by rw [text_size, htz])
        have htz' : tb.size ≤ 1 := by omega
        clear hcv hbd htb htz
        go_wp2_with fail
        go_roundw
        case rel => exact ⟨x / 10, tb ++ t, rfl, rfl, by omega, by omega, by rw [hts.out]; omega, hb.alloc hz _⟩
        case measure => simp [intOf]; omega
      · go_wp2
        go_ret
        exact ⟨_, rfl, hb⟩

/-- what marking piles leaves: only their own block has turned -/
def MarkedP (g : Nat) (n : Nat) (k : Int) (w : World) (e : Ending) (w' : World) : Prop := e = .returned (.int .i64 (k + 2 * n)) ∧ w.grownBy w' (some g)

set_option maxRecDepth 100000 in
set_option maxHeartbeats 400000 in
theorem markPileS_any (g n c : Nat) (ps : List (ByteArray × Int)) (k : Int) (w : World) (h : OwnP w g (.slice (some ⟨g, 0, none⟩) n c) n ps) (hn : n ≤ 1048576) (hk0 : 0 ≤ k) (hk1 : k ≤ 1048576) :
    Calls Try.prog 17 #[.slice (some ⟨g, 0, none⟩) n c, .int .i64 k] w (MarkedP g n k w) := by
  go_enter Try.func17, Try.ntmps17
  go_wp2
  go_loopw [1, 5] (fun q i wr => ∃ j : Nat, j ≤ n ∧ i = .int .i64 j ∧ q = .int .i64 (k + 2 * j) ∧ (∃ qs, OwnP wr g (.slice (some ⟨g, 0, none⟩) n c) n qs) ∧ w.grownBy wr (some g)) (fun _ i _ => n - (intOf i).toNat)
  case atStart => exact ⟨0, Nat.zero_le _, rfl, by simp, ⟨ps, h⟩, World.grownBy.refl _ _⟩
  case round =>
    obtain ⟨j, hj, rfl, rfl, ⟨qs, hown⟩, hg⟩ := hrel
    by_cases hlt : j < n
    · go_wp2_with fail
      refine (markText_any (k + 2 * j) _ (by omega) (by omega)).mono ?_
      rintro e w1 ⟨t, rfl, hb1⟩
      have hown1 := hown.keep hb1
      have hjq : j < qs.length := by rw [hown.len]; exact hlt
      have hd1 : w1.cell? ⟨g, j * 2, none⟩ = some (.string (qs.getD j default).1) := (hown1.row.cellAt (j * 2) (by omega)).trans (pcells_at _ j hjq).1
      have hd2 : w1.cell? ⟨g, j * 2 + 1, none⟩ = some (.int .i64 (qs.getD j default).2) := (hown1.row.cellAt (j * 2 + 1) (by omega)).trans (pcells_at _ j hjq).2
      have hf1 : w1.frozen? ⟨g, j * 2, none⟩ = false := hown1.row.frozenAt _
      have hf2 : w1.frozen? ⟨g, j * 2 + 1, none⟩ = false := hown1.row.frozenAt _
      have hst1 := hown1.row.stored (j * 2) (.string t)
      have hst2 := hst1.1.stored (j * 2 + 1) (.int .i64 (k + 2 * j + 1))
      have hnext : Hid (∃ qs, OwnP ((w1.setCell ⟨g, j * 2, none⟩ (.string t)).setCell ⟨g, j * 2 + 1, none⟩ (.int .i64 (k + 2 * j + 1))) g (.slice (some ⟨g, 0, none⟩) n c) n qs) := ⟨qs.set j (t, k + 2 * j + 1), by
        have := hst2.1
        rw [pcells_set _ _ _ _ hjq] at this
        exact this⟩
      have hgn : Hid (w.grownBy ((w1.setCell ⟨g, j * 2, none⟩ (.string t)).setCell ⟨g, j * 2 + 1, none⟩ (.int .i64 (k + 2 * j + 1))) (some g)) := only_trans (only_trans (only_keep hg hb1) hst1.2) hst2.2
      clear hst1 hst2 hown hown1 hg hb1
      have Hjq := Lib.hid hjq
      clear hjq
      go_wp2_with fail
      go_roundw
      case rel => exact ⟨j + 1, by omega, by go_num, by first | go_num | (congr 1; omega), hnext.out, hgn.out⟩
      case measure => simp [intOf]; omega
    · have hjn : j = n := by omega
      subst hjn
      go_wp2_with fail
      go_ret
      exact ⟨rfl, hg⟩
end Go.Proofs.Ytiglkajafdecgaa
