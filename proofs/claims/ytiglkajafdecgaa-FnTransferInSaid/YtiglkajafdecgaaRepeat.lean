/-
  The walks of bits.Mul at one factor 1, of slices.Repeat at one fraction.
-/
import Derived.Test.YtiglkajafdecgaaTransMem
import Derived.Laws.CopyOwn
import Derived.Deep.RegionLaw
namespace Go.Proofs.Ytiglkajafdecgaa
set_option linter.unusedVariables false
open Go.RowKit

/-- copy of elements of any number of cells -/
theorem run_copy_wide (P : Program) (w : World) (dT sT ty elem : TypeId) (sz g o dLen dCap : Nat) (a : Addr) (sLen sCap : Nat) (cur : Array Value) (t : TypeId) (n : Nat) (cs : List Value)
    (hu : P.underlying dT = some (.slice elem)) (hs : (P.info? elem).map (·.size) = some sz)
    (hg : w.heap[g]? = some (.cells cur t (0, 0))) (hn : n = Nat.min sLen dLen) (hcs : cs.length = n * sz)
    (hsrc : ∀ j v, cs[j]? = some v → w.cell? (a.add j) = some v) (hfit : o + cs.length ≤ cur.size) (h1 : ∀ v ∈ cs, v.oneCell' = true) :
    (Builtin.copy_ #[dT, sT] ty #[.slice (some ⟨g, o, none⟩) dLen dCap, .slice (some a) sLen sCap]).run P w =
      .ok (goInt n) (w.setRow g (cur.toList.take o ++ cs ++ cur.toList.drop (o + cs.length)).toArray) := by
  have hl := run_loadCells_list (P := P) w a cs hsrc
  have hst := run_storeCells_at P g o t cs 0 cur w hg (by simpa using hfit) h1
  cases hq : P.info? elem with
  | none => simp [hq] at hs
  | some i =>
    have hi : i.size = sz := by simpa [hq] using hs
    rw [hcs] at hl
    simp [Builtin.copy_, run_underlying hu, Builtin.lenOf, Builtin.firstCells, sizeOf, typeInfo, hq, hi, ← hn, hl, hst]
theorem wpList_copy_wide {P : Program} {w : World} {ops : Array Oper} {rest : List Oper} {o : Oper} {a : Act} {Q : Exit → Act → World → Prop} (hgd : o.guard = none) (d s : Operand) (dT sT : TypeId)
    (ho : o.op = .call { callee := .builtin .copy, args := #[d, s], argTypes := #[dT, sT] }) (elem : TypeId) (sz : Nat) (hu : P.underlying dT = some (.slice elem)) (hsz : (P.info? elem).map (·.size) = some sz)
    (g off dLen dCap : Nat) (ad : Addr) (sLen sCap : Nat) (hd : a.eval d = .slice (some ⟨g, off, none⟩) dLen dCap) (hs : a.eval s = .slice (some ad) sLen sCap)
    (cur : List Value) (t : TypeId) (hg : w.heap[g]? = some (.cells cur.toArray t (0, 0))) (n : Nat) (cs : List Value) (hn : n = Nat.min sLen dLen) (hcs : cs.length = n * sz)
    (hsrc : ∀ j v, cs[j]? = some v → w.cell? (ad.add j) = some v) (hfit : off + cs.length ≤ cur.length) (h1 : ∀ v ∈ cs, v.oneCell' = true) (B : Nat) (w0 : World) (hb : Below B w0 w) (hBg : B ≤ g)
    (h : ∀ w', Hid (w'.heap[g]? = some (.cells (splice cur off cs).toArray t (0, 0))) → Below B w0 w' → wpList P ops Q rest (a.put o.dst (goInt n)) w') : wpList P ops Q (o :: rest) a w := by
  refine wpList_plain hgd fun K hK => ?_
  have hrun := run_copy_wide P w dT sT o.type elem sz g off dLen dCap ad sLen sCap cur.toArray t n cs hu hsz hg hn hcs hsrc (by simpa using hfit) h1
  unfold Oper.wp
  simp [execOp, ho, resolve, invoke, builtin, hd, hs, hrun, Result.andThen]
  exact hK _ _ (h _ (show _ = _ by simpa [splice] using setRow_heap w g _ _ t _ hg) (below_setRow hb hBg _))
theorem step_copy_wide {P : Program} {ops : Array Oper} {o : Oper} {a : Act} {w : World} {K : Act → World → Prop} {Q : Exit → Act → World → Prop} {E : Prop} (hgd : o.guard = none) (d s : Operand) (dT sT : TypeId)
    (ho : o.op = .call { callee := .builtin .copy, args := #[d, s], argTypes := #[dT, sT] }) (elem : TypeId) (sz : Nat) (hu : P.underlying dT = some (.slice elem)) (hsz : (P.info? elem).map (·.size) = some sz)
    (g off dLen dCap : Nat) (ad : Addr) (sLen sCap : Nat) (hd : a.eval d = .slice (some ⟨g, off, none⟩) dLen dCap) (hs : a.eval s = .slice (some ad) sLen sCap)
    (cur : List Value) (t : TypeId) (hg : w.heap[g]? = some (.cells cur.toArray t (0, 0))) (n : Nat) (cs : List Value) (hn : n = Nat.min sLen dLen) (hcs : cs.length = n * sz)
    (hsrc : ∀ j v, cs[j]? = some v → w.cell? (ad.add j) = some v) (hfit : off + cs.length ≤ cur.length) (h1 : ∀ v ∈ cs, v.oneCell' = true) (B : Nat) (w0 : World) (hb : Below B w0 w) (hBg : B ≤ g)
    (h : ∀ w', Hid (w'.heap[g]? = some (.cells (splice cur off cs).toArray t (0, 0))) → Below B w0 w' → K (a.put o.dst (goInt n)) w') :
    if Region.wanted o (yielded ops a.tmps) = true then Oper.wp P o a w K Q else E := by
  have hw : Region.wanted o (yielded ops a.tmps) = true := by simp [Region.wanted, hgd]
  rw [if_pos hw]
  have hrun := run_copy_wide P w dT sT o.type elem sz g off dLen dCap ad sLen sCap cur.toArray t n cs hu hsz hg hn hcs hsrc (by simpa using hfit) h1
  unfold Oper.wp
  simp [execOp, ho, resolve, invoke, builtin, hd, hs, hrun, Result.andThen]
  exact h _ (show _ = _ by simpa [splice] using setRow_heap w g _ _ t _ hg) (below_setRow hb hBg _)

set_option maxRecDepth 100000 in
set_option maxHeartbeats 400000 in
theorem mul64_one (n : Nat) (hn : n ≤ 12) (w : World) :
    Calls Try.prog 90 #[.int .u64 1, .int .u64 n] w fun e w' => e = .returned (.tuple #[.int .u64 0, .int .u64 n]) ∧ w = w' := by
  have hc : n = 0 ∨ n = 1 ∨ n = 2 ∨ n = 3 ∨ n = 4 ∨ n = 5 ∨ n = 6 ∨ n = 7 ∨ n = 8 ∨ n = 9 ∨ n = 10 ∨ n = 11 ∨ n = 12 := by omega
  rcases hc with rfl | rfl | rfl | rfl | rfl | rfl | rfl | rfl | rfl | rfl | rfl | rfl | rfl
  all_goals
    go_enter Try.func90, Try.ntmps90
    go_wp2
    go_ret2
    exact ⟨rfl, rfl⟩
set_option maxRecDepth 100000 in
set_option maxHeartbeats 400000 in
theorem mul_one (n : Nat) (hn : n ≤ 12) (w : World) :
    Calls Try.prog 83 #[.int .u64 1, .int .u64 n] w fun e w' => e = .returned (.tuple #[.int .u64 0, .int .u64 n]) ∧ w = w' := by
  go_enter Try.func83, Try.ntmps83
  go_wp2_with (go_at_call 90; refine (mul64_one n hn _).mono ?_; rintro e w' ⟨rfl, rfl⟩)
  go_ret2
  exact ⟨rfl, rfl⟩

theorem ownF_full {w : World} {bs g n : Nat} {fs : List Bp.Fr} (h : OwnF w bs (.slice (some ⟨g, 0, none⟩) n n) n fs) : w.heap[g]? = some (.cells (fcells fs).toArray 44 (0, 0)) := by
  rcases h.2 with ⟨hv, _⟩ | ⟨g', cap, cur, hv, _, hh, _, _, hsz, htk⟩
  · cases hv
  · injection hv with hA _ hc
    injection hA with hA
    injection hA with hA
    subst hA; subst hc
    rw [hh]
    have e : cur.toList = fcells fs := by
      rw [← htk, List.take_of_length_le (by simp [hsz])]
    rw [← e]
theorem ownF_of {w : World} {bs g n : Nat} {fs : List Bp.Fr} (hb : bs ≤ g) (hl : fs.length = n) (hn : n ≤ maxLen) (h : w.heap[g]? = some (.cells (fcells fs).toArray 44 (0, 0))) : OwnF w bs (.slice (some ⟨g, 0, none⟩) n n) n fs := by
  have e := fcells_len fs
  refine ⟨by omega, .inr ⟨g, n, _, rfl, hb, h, Nat.le_refl _, hn, by simp [e, hl], ?_⟩⟩
  rw [List.take_of_length_le (by simp [e, hl])]
/-- m fractions of one kind, then zeros -/
def reps (x : Bp.Fr) (n m : Nat) : List Bp.Fr := List.replicate m x ++ List.replicate (n - m) (0, 0)
theorem reps_len (x : Bp.Fr) {n m : Nat} (h : m ≤ n) : (reps x n m).length = n := by simp [reps]; omega
theorem reps_zero (x : Bp.Fr) (n : Nat) : reps x n 0 = List.replicate n (0, 0) := by simp [reps]
theorem reps_all (x : Bp.Fr) (n : Nat) : reps x n n = List.replicate n x := by simp [reps]
theorem reps_splice (x : Bp.Fr) {n m k : Nat} (h : m + k ≤ n) : splice (fcells (reps x n m)) (m * 2) (fcells (List.replicate k x)) = fcells (reps x n (m + k)) := by
  have e1 : (fcells (List.replicate m x)).length = m * 2 := by rw [fcells_len, List.length_replicate]
  have e2 : (fcells (List.replicate k ((0 : Int), (0 : Int)))).length = k * 2 := by rw [fcells_len, List.length_replicate]
  have e3 : (fcells (List.replicate k x)).length = k * 2 := by rw [fcells_len, List.length_replicate]
  have e4 : List.replicate (n - m) ((0 : Int), (0 : Int)) = List.replicate k (0, 0) ++ List.replicate (n - (m + k)) (0, 0) := by
    rw [List.replicate_append_replicate]; congr 1; omega
  unfold splice reps
  rw [e4, fcells_append, fcells_append, fcells_append, e3, ← List.replicate_append_replicate, fcells_append]
  rw [List.take_append_of_le_length (by omega), List.take_of_length_le (by omega)]
  rw [List.drop_append, List.drop_of_length_le (by omega), e1, List.nil_append, show m * 2 + k * 2 - m * 2 = k * 2 by omega, List.drop_append, List.drop_of_length_le (by omega), e2]
  simp
theorem two_src {w : World} {g : Nat} {a b : Int} (h0 : w.cell? ⟨g, 0, none⟩ = some (.int .i64 a)) (h1 : w.cell? ⟨g, 1, none⟩ = some (.int .i64 b)) : ∀ j v, (fcells (List.replicate 1 (a, b)))[j]? = some v → w.cell? ((⟨g, 0, none⟩ : Addr).add j) = some v := by
  intro j v hj
  match j, hj with
  | 0, hj => injection hj with hj; subst hj; exact h0
  | 1, hj => injection hj with hj; subst hj; exact h1
theorem reps_src {w : World} {g n m k : Nat} {x : Bp.Fr} (h : w.heap[g]? = some (.cells (fcells (reps x n m)).toArray 44 (0, 0))) (hk : k ≤ m) : ∀ j v, (fcells (List.replicate k x))[j]? = some v → w.cell? ((⟨g, 0, none⟩ : Addr).add j) = some v := by
  intro j v hj
  rw [add_zero_off]
  have e1 : (fcells (List.replicate k x)).length = k * 2 := by rw [fcells_len, List.length_replicate]
  have hjk : j < k * 2 := by
    rcases Nat.lt_or_ge j (k * 2) with h1 | h1
    · exact h1
    · rw [List.getElem?_eq_none (by omega)] at hj; cases hj
  have e : List.replicate m x = List.replicate k x ++ List.replicate (m - k) x := by
    rw [List.replicate_append_replicate]; congr 1; omega
  have e2 : (fcells (reps x n m))[j]? = some v := by
    unfold reps
    rw [e, fcells_append, fcells_append, List.append_assoc, List.getElem?_append_left (by omega)]
    exact hj
  simp only [World.cell?, h]
  simpa using e2
set_option maxRecDepth 100000 in
set_option maxHeartbeats 1000000 in
theorem repeat_any (g0 : Nat) (a b : Int) (n : Nat) (hn : n ≤ 12) (w : World) (h0 : w.cell? ⟨g0, 0, none⟩ = some (.int .i64 a)) (h1 : w.cell? ⟨g0, 1, none⟩ = some (.int .i64 b)) :
    Calls Try.prog 66 #[.slice (some ⟨g0, 0, none⟩) 1 1, .int .i64 n] w fun e w' => ∃ g, e = .returned (.slice (some ⟨g, 0, none⟩) n n) ∧ w.heap.size ≤ g ∧ OwnF w' w.heap.size (.slice (some ⟨g, 0, none⟩) n n) n (List.replicate n (a, b)) ∧ Below w.heap.size w w' := by
  obtain ⟨i0, hi0, hz0, hz1, hz2⟩ := info_parts frac_info
  have hfs : (Try.prog.info? 44).map (·.size) = some 2 := by rw [hi0]; simp [hz1]
  have hg0 := lt_of_cell h0
  simp only at hg0
  obtain ⟨q, hq⟩ : ∃ q, q = Nat.min 1 n := ⟨_, rfl⟩
  have hq1 : q ≤ 1 := by rw [hq]; exact Nat.min_le_left _ _
  have hqn : q ≤ n := by rw [hq]; exact Nat.min_le_right _ _
  have hq0 : n ≠ 0 → q = 1 := fun h => by rw [hq]; exact Nat.min_eq_left (by omega)
  have hsrc0 : ∀ (wx : World), Below w.heap.size w wx → ∀ j v, (fcells (List.replicate q (a, b)))[j]? = some v → wx.cell? ((⟨g0, 0, none⟩ : Addr).add j) = some v := fun wx hb j v hj => by
    have : q = 0 ∨ q = 1 := by omega
    rcases this with h | h
    · rw [h] at hj; cases hj
    · rw [h] at hj
      exact two_src ((hb.cell (p := ⟨g0, 0, none⟩) hg0).trans h0) ((hb.cell (p := ⟨g0, 1, none⟩) hg0).trans h1) j v hj
  have Hq := Lib.hid hq
  clear hq
  have d0 : decide ((n : Int) < 0) = false := decide_eq_false (by omega)
  have d1 : decide ((9223372036854775807 : Int) < (n : Int)) = false := decide_eq_false (by omega)
  go_enter Try.func66, Try.ntmps66
  go_wp2_with (first
    | (go_at_call 83; refine (mul_one n hn _).mono ?_; rintro e w' ⟨rfl, rfl⟩)
    | (at_make; refine wpList_make_full _ rfl (.tmp 29) (.tmp 29) 45 rfl w.heap.size 44 i0 _ 2 Try.underlying45 hi0 hz0 hz1 .i64 .i64 n n n rfl rfl rfl rfl (by rw [hz2]; omega) (by unfold maxLen; omega) (Nat.le_refl _) ?_; intro w1 hown hg; have hrow := ownF_full (made_fracs hown); rw [← reps_zero (a, b) n] at hrow; have hB1 : Below w.heap.size w w1 := (Below.refl _ _).grown hg (Nat.le_refl _) (by simp))
    | (refine wpList_copy_wide (o := ⟨some 33, _, _, _, _, _⟩) rfl (.tmp 31) (.tmp 32) 45 45 rfl 44 2 Try.underlying45 hfs w.heap.size 0 n n ⟨g0, 0, none⟩ 1 1 rfl rfl (fcells (reps (a, b) n 0)) 44 hrow q (fcells (List.replicate q (a, b))) Hq.out (by rw [fcells_len, List.length_replicate]) (hsrc0 _ hB1) (by rw [fcells_len, fcells_len, List.length_replicate, reps_len _ (Nat.zero_le _)]; omega) (fcells_one _) w.heap.size w hB1 (Nat.le_refl _) ?_; intro w2 hrow2 hB2))
  have hr2 : w2.heap[w.heap.size]? = some (.cells (fcells (reps (a, b) n q)).toArray 44 (0, 0)) := by
    have := hrow2.out
    rwa [show (0 : Nat) = 0 * 2 by rfl, reps_splice _ (by omega), Nat.zero_add] at this
  have Hr2 := Lib.hid hr2
  clear hown hg hrow hrow2 hB1 hr2 hsrc0 hi0 hz0 hz1 hz2
  by_cases hn0 : n = 0
  · subst hn0
    have hqq : q = 0 := by omega
    subst hqq
    go_loopw [8] (fun x wr => x = .int .i64 0 ∧ w2 = wr) (fun _ _ => 0)
    case atStart => exact ⟨rfl, rfl⟩
    case round =>
      obtain ⟨rfl, rfl⟩ := hrel
      go_wp2_with fail
      go_ret
      exact ⟨w.heap.size, rfl, Nat.le_refl _, ownF_of (Nat.le_refl _) rfl (by unfold maxLen; omega) (by have := Hr2.out; rwa [reps_all] at this), hB2⟩
  · have hqq : 1 ≤ q := by rw [hq0 hn0]; exact Nat.le_refl _
    clear hq0
    go_loopw [8] (fun x wr => ∃ m : Nat, x = .int .i64 m ∧ 1 ≤ m ∧ m ≤ n ∧ Hid (wr.heap[w.heap.size]? = some (.cells (fcells (reps (a, b) n m)).toArray 44 (0, 0))) ∧ Below w.heap.size w wr) (fun x _ => n - (intOf x).toNat)
    case atStart => exact ⟨q, rfl, hqq, hqn, Hr2, hB2⟩
    case round =>
      obtain ⟨m, rfl, hm1, hmn, hr, hb⟩ := hrel
      clear Hr2 hB2
      by_cases hlt : m < n
      · have i1 : (0 : Int) ≤ (m : Int) := by omega
        have i2 : (m : Int) ≤ (n : Int) := by omega
        have i3 : ¬ n = m := by omega
        have i4 : ¬ m = n := by omega
        obtain ⟨k, hk⟩ : ∃ k, k = Nat.min m (n - m) := ⟨_, rfl⟩
        have hk1 : k ≤ m := by rw [hk]; exact Nat.min_le_left _ _
        have hk2 : k ≤ n - m := by rw [hk]; exact Nat.min_le_right _ _
        have hk3 : 1 ≤ k := by rw [hk]; exact Nat.le_min.2 ⟨hm1, by omega⟩
        have Hk := Lib.hid hk
        clear hk
        have hr' : wr.drew.heap[w.heap.size]? = some (.cells (fcells (reps (a, b) n m)).toArray 44 (0, 0)) := hr.out
        have hsr := reps_src hr' hk1
        have hfit : m * 2 + (fcells (List.replicate k (a, b))).length ≤ (fcells (reps (a, b) n m)).length := by rw [fcells_len, fcells_len, List.length_replicate, reps_len _ hmn]; omega
        have hbd : Below w.heap.size w wr.drew := hb.drew
        have Hr' := Lib.hid hr'
        have Hsr := Lib.hid hsr
        have Hfit := Lib.hid hfit
        clear hr' hsr hfit
        go_wp2_with fail
        go_region_law (first
          | ((refine step_copy_wide (o := ⟨some 45, _, _, _, _, _⟩) (by rfl) (.tmp 41) (.tmp 44) 45 45 (by rfl) 44 2 Try.underlying45 hfs w.heap.size (m * 2) (n - m) (n - m) ⟨w.heap.size, 0, none⟩ m n (by simp [go_sem]) (by simp [go_sem]) (fcells (reps (a, b) n m)) 44 Hr'.out k (fcells (List.replicate k (a, b))) Hk.out (by rw [fcells_len, List.length_replicate]) Hsr.out Hfit.out (fcells_one _) w.heap.size w hbd (Nat.le_refl _) ?_; intro w3 hr3 hb3))
          | fail)
        have hr4 := hr3.out
        rw [reps_splice _ (by omega)] at hr4
        have Hr4 := Lib.hid hr4
        have hwr : IntKind.i64.wrap ((m : Int) + (k : Int)) = ((m + k : Nat) : Int) := by rw [wrap_small _ (by omega) (by omega)]; omega
        clear hr3 hr4 Hr' Hsr Hfit Hk hr hbd hb
        go_simp
        go_roundw
        case rel => exact ⟨_, _, _, _, _, _, _, _, _, _, _, _, _, _, ⟨m + k, by go_num, by omega, by omega, Hr4, hb3⟩, rfl⟩
        case measure => simp [intOf]; omega
      · have hmn' : m = n := by omega
        subst hmn'
        go_wp2_with fail
        go_ret
        exact ⟨w.heap.size, rfl, Nat.le_refl _, ownF_of (Nat.le_refl _) (by simp) (by unfold maxLen; omega) (by have := hr.out; rwa [reps_all] at this), hb⟩
end Go.Proofs.Ytiglkajafdecgaa
