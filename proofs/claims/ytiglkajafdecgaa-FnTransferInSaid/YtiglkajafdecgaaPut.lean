/-
  The walks of the reference's l3Put and PilesAdd: some piles of the call's own.
-/
import Derived.Test.YtiglkajafdecgaaPiles
import Derived.Deep.RegionLaw
import Derived.Deep.DrawnRows
import Derived.Deep.AppendLies
namespace Go.Proofs.Ytiglkajafdecgaa
set_option linter.unusedVariables false
open Go.RowKit

attribute [local go_sem ↓] Go.wp_at_zero Go.wp_at_succ
theorem pile_row0 : (Try.prog.info? 57).map (fun i => (i.zero, i.size, i.bytes)) = some (some (.agg #[.string ByteArray.empty, .int .i64 0]), 2, 24) := by kernel_rfl
/-- append to a slice of the call's own, as one step of a region that draws its order -/
theorem step_append_own {P : Program} {w : World} {ops : Array Oper} {o : Oper} {a : Act} {K : Act → World → Prop} {Q : Exit → Act → World → Prop} {E : Prop} (hgd : o.guard = none) (s x : Operand) (t : TypeId)
    (ho : o.op = .call { callee := .builtin .append, args := #[s, x], argTypes := #[t, t] })
    (base : Nat) (e : TypeId) (i : TypeInfo) (z : Value) (size bytes : Nat) (ht : P.underlying t = some (.slice e)) (hi : P.info? e = some i) (hz : i.zero = some z)
    (hsize : i.size = size) (hby : i.bytes = bytes) (hzs : z.cells.size = size) (hsz : 0 < size)
    (v : Value) (n : Nat) (xs : List Value) (hs : a.eval s = v) (hown : w.ownsRow base e size v n xs)
    (ad : Addr) (m c : Nat) (news : List Value) (hx : a.eval x = .slice (some ad) m c) (hl : news.length = m * size) (hnews : ∀ j u, news[j]? = some u → w.cell? (ad.add j) = some u) (h1 : ∀ u ∈ news, u.oneCell' = true)
    (h63 : n + m ≤ maxLen) (hbytes : (n + m) * bytes ≤ 140737488355328) (hbase : base ≤ w.heap.size)
    (h : ∀ v' w', w'.ownsRow base e size v' (n + m) (xs ++ news) → w.grownBy w' v.ownBlock → (v' = .slice none 0 0 ↔ v = .slice none 0 0 ∧ m = 0) → K (a.put o.dst v') w') :
    if Region.wanted o (yielded ops a.tmps) = true then Oper.wp P o a w K Q else E := by
  have hw : Region.wanted o (yielded ops a.tmps) = true := by simp [Region.wanted, hgd]
  rw [if_pos hw]
  exact wp_append_own w s x t ho base e i z size bytes ht hi hz hsize hby hzs hsz v n xs hs hown ad m c news hx hl hnews h1 h63 hbytes hbase h

theorem pcells_one {ps : List (ByteArray × Int)} : ∀ u ∈ pcells ps, u.oneCell' = true := fun u hu => by
  unfold pcells at hu
  obtain ⟨p, _, h⟩ := List.mem_flatMap.1 hu
  simp only [List.mem_cons, List.not_mem_nil, or_false] at h
  rcases h with rfl | rfl <;> simp [Value.oneCell']
theorem pcells_append (xs ys : List (ByteArray × Int)) : pcells (xs ++ ys) = pcells xs ++ pcells ys := by simp [pcells]
/-- the cells of piles that lie at an address -/
theorem pcells_lie {w : World} {g o n : Nat} {ps : List (ByteArray × Int)} (hn : ps.length = n) (h : ∀ k, k < n → w.cell? ⟨g, o + k * 2, none⟩ = some (.string (ps.getD k default).1) ∧ w.cell? ⟨g, o + k * 2 + 1, none⟩ = some (.int .i64 (ps.getD k default).2)) :
    ∀ j u, (pcells ps)[j]? = some u → w.cell? ((⟨g, o, none⟩ : Addr).add j) = some u := fun j u hu => by
  have hj : j < (pcells ps).length := by
    rcases Nat.lt_or_ge j (pcells ps).length with h1 | h1
    · exact h1
    · rw [List.getElem?_eq_none h1] at hu; cases hu
  rw [pcells_len] at hj
  have hk : j / 2 < n := by omega
  have hc := h (j / 2) hk
  have hp := pcells_at ps (j / 2) (by omega)
  have hadd : (⟨g, o, none⟩ : Addr).add j = ⟨g, o + j, none⟩ := by
    unfold Addr.add
    split
    · next h => subst h; rfl
    · rfl
  rw [hadd]
  rcases (show j = j / 2 * 2 ∨ j = j / 2 * 2 + 1 by omega) with e | e
  · rw [e] at hu ⊢
    rw [hp.1] at hu
    rw [hc.1]; exact hu
  · rw [e] at hu ⊢
    rw [hp.2] at hu
    rw [← Nat.add_assoc, hc.2]; exact hu

/-- what a call leaves that makes piles: their texts are short -/
def PutP (n : Nat) (w : World) (e : Ending) (w' : World) : Prop :=
  ∃ (g n' c' : Nat) (ps : List (ByteArray × Int)), e = .returned (.slice (some ⟨g, 0, none⟩) n' c') ∧ n' ≤ n + 1 ∧ n' ≤ c' ∧ (∀ p ∈ ps, p.1.size ≤ 1048576) ∧ OwnP w' w.heap.size (.slice (some ⟨g, 0, none⟩) n' c') n' ps ∧ Below w.heap.size w w'

theorem own_lit0 {w : World} {base : Nat} (h : base ≤ w.heap.size) : (w.alloc (.cells #[] 57)).ownsRow base 57 2 (.slice (some ⟨w.heap.size, 0, none⟩) 0 0) 0 [] := World.ownsRow_lit w #[] 0 h (by decide) rfl
theorem own_drawn {w : World} {base : Nat} {e : TypeId} {sz : Nat} {v : Value} {n : Nat} {xs : List Value} (h : w.ownsRow base e sz v n xs) : w.drew.ownsRow base e sz v n xs := own_keep h (Below.refl _ _).drew
theorem own_form {w : World} {base : Nat} {e : TypeId} {sz : Nat} {v : Value} {n : Nat} {xs : List Value} (h : w.ownsRow base e sz v n xs) (hn : v ≠ .slice none 0 0) : ∃ g c, v = .slice (some ⟨g, 0, none⟩) n c ∧ n ≤ c ∧ base ≤ g := by
  rcases h.2 with ⟨rfl, _⟩ | ⟨g, cap, cur, rfl, hb, _, hc, _⟩
  · exact absurd rfl hn
  · exact ⟨g, cap, rfl, hc, hb⟩
theorem below_row {w a b : World} {B : Nat} {v : Value} {e : TypeId} {sz n : Nat} {xs : List Value} (h : Below B w a) (hg : a.grownBy b v.ownBlock) (ho : a.ownsRow B e sz v n xs) (hB : B ≤ w.heap.size) : Below B w b :=
  h.grown hg (Nat.le_trans hB h.size) (fun k hk => (ho.lt k hk).1)

theorem set_same_at {α : Type} (l : List α) (i : Nat) (x : α) (h : l[i]? = some x) : l.set i x = l := by
  apply List.ext_getElem?
  intro j
  rw [List.getElem?_set]
  split
  · next e =>
    subst e
    split
    · exact h.symm
    · next h2 => rw [List.getElem?_eq_none (by omega)] at h; cases h
  · rfl
theorem blk_a (w : World) (o o' : Obj) : ((w.alloc o).alloc o').drew.heap[w.heap.size + 1]? = some o' := by
  have := heap_alloc_new (w.alloc o) o'
  rw [show (w.alloc o).heap.size = w.heap.size + 1 by simp] at this
  exact this
theorem blk_b (w : World) (o o' : Obj) : ((w.alloc o).alloc o').drew.heap[w.heap.size]? = some o :=
  (heap_alloc_old (w.alloc o) o' (r := w.heap.size) (by simp)).trans (heap_alloc_new w o)
theorem own_lit1 {w : World} {base : Nat} (h : base ≤ w.heap.size + 1) (o : Obj) : ((w.alloc o).alloc (.cells #[] 57)).ownsRow base 57 2 (.slice (some ⟨w.heap.size + 1, 0, none⟩) 0 0) 0 [] := by
  have := own_lit0 (w := w.alloc o) (base := base) (by simpa using h)
  rw [show (w.alloc o).heap.size = w.heap.size + 1 by simp] at this
  exact this
theorem put_own {w : World} {base : Nat} {v : Value} {n : Nat} {xs ys : List (ByteArray × Int)} {s : ByteArray} {m : Int} (h : w.ownsRow base 57 2 v n (pcells xs ++ [.string s, .int .i64 m] ++ pcells ys)) : w.ownsRow base 57 2 v n (pcells (xs ++ [(s, m)] ++ ys)) := by
  rw [pcells_append, pcells_append]
  exact h
theorem put_sizes {ps : List (ByteArray × Int)} {s : ByteArray} {m : Int} (h : ∀ p ∈ ps, p.1.size ≤ 1048576) (hs : s.size ≤ 1048576) (a b k : Nat) : ∀ p ∈ (ps.drop 0).take a ++ [(s, m)] ++ (ps.drop k).take b, p.1.size ≤ 1048576 := fun p hp => by
  rcases List.mem_append.1 hp with h1 | h1
  · rcases List.mem_append.1 h1 with h2 | h2
    · exact h p (List.mem_of_mem_drop (List.mem_of_mem_take h2))
    · simp only [List.mem_singleton] at h2
      subst h2; exact hs
  · exact h p (List.mem_of_mem_drop (List.mem_of_mem_take h1))

set_option maxRecDepth 100000 in
set_option maxHeartbeats 4000000 in
theorem l3Put_some (g n c : Nat) (ps : List Bp.Pile) (s : ByteArray) (m : Int) (w : World) (h : Piles w w.heap.size (some ⟨g, 0, none⟩) n ps) (hn : n ≤ 1000) (hnc : n ≤ c) (hs : s.size ≤ 1048576) (hm : 0 ≤ m) (hm' : m ≤ 1000) (hps : Bp.psval ps = true) :
    Calls Try.prog 81 #[.slice (some ⟨g, 0, none⟩) n c, .string s, .int .i64 m] w (PutP n w) := by
  have hl := Lib.hid h.1.1
  obtain ⟨i0, hi0, hz0, hz1, hz2⟩ := info_parts pile_row0
  have hsz := Lib.hid h.1.2
  have hview : ∀ lo hi, lo ≤ hi → hi ≤ n → ∀ w', Below w.heap.size w w' → ∀ j u, (pcells ((ps.drop lo).take (hi - lo)))[j]? = some u → w'.cell? ((⟨g, lo * 2, none⟩ : Addr).add j) = some u := fun lo hi h1 h2 w' hb => by
    refine pcells_lie (n := hi - lo) (by rw [List.length_take, List.length_drop, hl.out]; omega) (fun k hk => ?_)
    obtain ⟨g', o', e, hg', hc⟩ := (h.below hb).2 (show 0 < n by omega)
    injection e with e
    injection e with e1 e2
    subst e1; subst e2
    have := hc (lo + k) (by omega)
    have e3 : ((ps.drop lo).take (hi - lo)).getD k default = ps.getD (lo + k) default := by simp [List.getD, hk]
    rw [e3, show lo * 2 + k * 2 = 0 + (lo + k) * 2 by omega]
    exact this
  have Hview := Lib.hid hview
  clear hview
  have hall : Hid (∀ w', Below w.heap.size w w' → ∀ j u, (pcells ps)[j]? = some u → w'.cell? ((⟨g, 0, none⟩ : Addr).add j) = some u) := fun w' hb => by
    have := Hview.out 0 n (Nat.zero_le _) (Nat.le_refl _) w' hb
    rw [List.drop_zero, List.take_of_length_le (by rw [hl.out]; omega)] at this
    exact this
  go_enter Try.func81, Try.ntmps81
  go_wp2
  go_loop [7] (fun i => ∃ k : Nat, k ≤ n ∧ i = .int .i64 k) (fun i => n - (intOf i).toNat)
  case atStart => exact ⟨0, Nat.zero_le _, rfl⟩
  case round =>
    obtain ⟨k, hk, rfl⟩ := hrel
    have hkc : k ≤ c := by omega
    by_cases hlt : k < n
    · obtain ⟨g', o', s', q, hA, hgl, hc1, hc2, hss, hp⟩ := h.at hlt
      injection hA with hA
      injection hA with e1 e2
      subst e1; subst e2
      rw [Nat.zero_add] at hc1 hc2
      have hq := (Bp.pval_iff _).1 (Bp.psval_at ps hps k (by rw [hl.out]; exact hlt))
      rw [hp.out] at hq
      have hq1 : 1 ≤ q := hq.2.1
      have hq2 : q ≤ 99 := hq.2.2
      clear hq
      have hkc3 : k < c := by omega
      cases hb : Op.bytesLess s'.toList s.toList
      · cases he : (s'.toList == s.toList)
        · go_wp2_with (at_builtin; refine wpList_append_own _ rfl (.tmp 24) (.tmp 25) 26 rfl w.heap.size 57 i0 _ 2 24 Try.underlying26 hi0 hz0 hz1 hz2 rfl (by decide) _ 0 [] rfl (own_lit0 (Nat.le_refl _)) ⟨g, 0, none⟩ n c (pcells ps) rfl (by rw [pcells_len, hl.out]) (hall.out _ (by repeat (first | exact Below.refl _ _ | assumption | refine below_drewN ?_ _ | refine Below.drew ?_ | refine Below.alloc ?_ (by first | exact Nat.le_refl _ | omega | (simp; done) | (simp; omega)) _ | refine Below.setCell ?_ (by first | exact Nat.le_refl _ | omega | (simp; done) | (simp; omega)) _))) pcells_one (by unfold maxLen; omega) (by omega) (by simp) ?_; intro v1 w1 hown1 hg1 hv1; have B1 : Below w.heap.size w w1 := below_row ((Below.refl w.heap.size w).alloc (Nat.le_refl _) _) hg1 (own_lit0 (Nat.le_refl _)) (Nat.le_refl _); clear hg1; obtain ⟨g1, c1, rfl, hc1', hg1'⟩ := own_form hown1 (fun e => by have := hv1.1 e; cases this.1); clear hv1; rw [List.nil_append, Nat.zero_add] at hown1; rw [Nat.zero_add] at hc1' ⊢; have hc1v : w1.cell? ⟨g, k * 2, none⟩ = some (.string s') := (B1.cell hgl).trans hc1)
          have hck : ¬ c = k := by omega
          have hs1 := B1.size
          go_region_law (first
            | ((refine step_append_own (o := ⟨some 56, _, _, _, _, _⟩) (by rfl) (.tmp 52) (.tmp 55) 26 (by rfl) w.heap.size 57 i0 _ 2 24 Try.underlying26 hi0 hz0 hz1 hz2 (by rfl) (by decide) (.slice (some ⟨w1.heap.size, 0, none⟩) 0 0) 0 [] (by rfl) (by first | exact own_drawn (own_lit0 hs1) | exact own_drawn ((own_lit0 hs1).alloc _)) ⟨g, 0, none⟩ k c (pcells ((ps.drop 0).take (k - 0))) (by rfl) (by rw [pcells_len, List.length_take, List.length_drop, hl.out]; omega) (by rw [← Nat.zero_mul 2]; exact Hview.out 0 k (by omega) (by omega) _ (B1.trans (Below.mono (by repeat (first | exact Below.refl _ _ | assumption | refine below_drewN ?_ _ | refine Below.drew ?_ | refine Below.alloc ?_ (by first | exact Nat.le_refl _ | omega | (simp; done) | (simp; omega)) _ | refine Below.setCell ?_ (by first | exact Nat.le_refl _ | omega | (simp; done) | (simp; omega)) _)) hs1))) pcells_one (by unfold maxLen; omega) (by omega) (by first | omega | (simp; omega)) ?_; intro v2 w2 hown2 hg2 hv2; have B2 : Below w.heap.size w w2 := (B1.trans (Below.mono (by repeat (first | exact Below.refl _ _ | assumption | refine below_drewN ?_ _ | refine Below.drew ?_ | refine Below.alloc ?_ (by first | exact Nat.le_refl _ | omega | (simp; done) | (simp; omega)) _ | refine Below.setCell ?_ (by first | exact Nat.le_refl _ | omega | (simp; done) | (simp; omega)) _)) hs1)).grown hg2 (by simp; omega) (fun x hx => by first | (have e : w1.heap.size = x := Option.some.inj hx; omega) | (have e : w1.heap.size + 1 = x := Option.some.inj hx; omega)); have hs2 := B2.size; have hv2' : v2 ≠ .slice none 0 0 := fun e => (by have := hv2.1 e; cases this.1); clear hv2))
            | ((refine step_append_own (o := ⟨some 56, _, _, _, _, _⟩) (by rfl) (.tmp 52) (.tmp 55) 26 (by rfl) w.heap.size 57 i0 _ 2 24 Try.underlying26 hi0 hz0 hz1 hz2 (by rfl) (by decide) (.slice (some ⟨w1.heap.size + 1, 0, none⟩) 0 0) 0 [] (by rfl) (own_drawn (own_lit1 (Nat.le_succ_of_le hs1) _)) ⟨g, 0, none⟩ k c (pcells ((ps.drop 0).take (k - 0))) (by rfl) (by rw [pcells_len, List.length_take, List.length_drop, hl.out]; omega) (by rw [← Nat.zero_mul 2]; exact Hview.out 0 k (by omega) (by omega) _ (B1.trans (Below.mono (by repeat (first | exact Below.refl _ _ | assumption | refine below_drewN ?_ _ | refine Below.drew ?_ | refine Below.alloc ?_ (by first | exact Nat.le_refl _ | omega | (simp; done) | (simp; omega)) _ | refine Below.setCell ?_ (by first | exact Nat.le_refl _ | omega | (simp; done) | (simp; omega)) _)) hs1))) pcells_one (by unfold maxLen; omega) (by omega) (by first | omega | (simp; omega)) ?_; intro v2 w2 hown2 hg2 hv2; have B2 : Below w.heap.size w w2 := (B1.trans (Below.mono (by repeat (first | exact Below.refl _ _ | assumption | refine below_drewN ?_ _ | refine Below.drew ?_ | refine Below.alloc ?_ (by first | exact Nat.le_refl _ | omega | (simp; done) | (simp; omega)) _ | refine Below.setCell ?_ (by first | exact Nat.le_refl _ | omega | (simp; done) | (simp; omega)) _)) hs1)).grown hg2 (by simp; omega) (fun x hx => by first | (have e : w1.heap.size = x := Option.some.inj hx; omega) | (have e : w1.heap.size + 1 = x := Option.some.inj hx; omega)); have hs2 := B2.size; have hv2' : v2 ≠ .slice none 0 0 := fun e => (by have := hv2.1 e; cases this.1); clear hv2))
            | ((refine step_append_own (o := ⟨some 61, _, _, _, _, _⟩) (by rfl) (.tmp 56) (.tmp 60) 26 (by rfl) w.heap.size 57 i0 _ 2 24 Try.underlying26 hi0 hz0 hz1 hz2 (by rfl) (by decide) v2 _ _ (by rfl) (by first | exact hown2 | exact hown2.alloc _) _ 1 1 [.string s, .int .i64 m] (by rfl) (by rfl) (by first | exact World.news_of_block (cs := #[.string s, .int .i64 m]) (heap_alloc_new w2 _) | exact World.news_of_block (cs := #[.string s, .int .i64 m]) ((hg2.block _ (by first | omega | (simp; done) | (simp; omega)) (by simp [Value.ownBlock])).trans (by first | exact blk_a _ _ _ | exact blk_b _ _ _))) (by simp [Value.oneCell']) (by unfold maxLen; omega) (by omega) (by first | omega | (simp; omega)) ?_; intro v3 w3 hown3 hg3 hv3; have B3 : Below w.heap.size w w3 := (by first | exact below_row B2 hg3 hown2 (Nat.le_refl _) | exact below_row (B2.alloc hs2 _) hg3 (hown2.alloc _) (Nat.le_refl _)); have hs3 := B3.size; have hv3' : v3 ≠ .slice none 0 0 := fun e => hv2' (hv3.1 e).1; clear hv3))
            | ((refine step_append_own (o := ⟨some 65, _, _, _, _, _⟩) (by rfl) (.tmp 61) (.tmp 64) 26 (by rfl) w.heap.size 57 i0 _ 2 24 Try.underlying26 hi0 hz0 hz1 hz2 (by rfl) (by decide) v3 _ _ (by rfl) hown3 ⟨g, k * 2, none⟩ (n - k) (c - k) (pcells ((ps.drop k).take (n - k))) (by rfl) (by rw [pcells_len, List.length_take, List.length_drop, hl.out]; omega) (Hview.out k n hk (Nat.le_refl _) _ B3) pcells_one (by unfold maxLen; omega) (by omega) (by omega) ?_; intro v4 w4 hown4 hg4 hv4; have B4 : Below w.heap.size w w4 := below_row B3 hg4 hown3 (Nat.le_refl _); have hv4' : v4 ≠ .slice none 0 0 := fun e => hv3' (hv4.1 e).1; clear hv4))
            | ((refine step_append_own (o := ⟨some 65, _, _, _, _, _⟩) (by rfl) (.tmp 61) (.tmp 64) 26 (by rfl) w.heap.size 57 i0 _ 2 24 Try.underlying26 hi0 hz0 hz1 hz2 (by rfl) (by decide) v3 _ _ (by rfl) hown3 ⟨g, 0, none⟩ 0 0 (pcells ((ps.drop k).take 0)) (by rfl) (by rfl) (fun j u hu => by simp [pcells] at hu) pcells_one (by unfold maxLen; omega) (by omega) (by omega) ?_; intro v4 w4 hown4 hg4 hv4; have B4 : Below w.heap.size w w4 := below_row B3 hg4 hown3 (Nat.le_refl _); have hv4' : v4 ≠ .slice none 0 0 := fun e => hv3' (hv4.1 e).1; clear hv4))
            | fail)
          all_goals
            obtain ⟨g4, c4, rfl, hc4, hg4⟩ := own_form hown4 hv4'
            go_wp2_with fail
            exact bodyPost_ret (v := .slice (some ⟨g4, 0, none⟩) _ c4) (by simp [results, Try.results81, go_sem]) rfl ⟨g4, _, c4, _, rfl, by omega, hc4, put_sizes hsz.out hs _ _ _, by unfold OwnP; rw [List.nil_append] at hown4; exact put_own hown4, B4⟩
        · go_wp2_with (at_builtin; refine wpList_append_own _ rfl (.tmp 24) (.tmp 25) 26 rfl w.heap.size 57 i0 _ 2 24 Try.underlying26 hi0 hz0 hz1 hz2 rfl (by decide) _ 0 [] rfl (own_lit0 (Nat.le_refl _)) ⟨g, 0, none⟩ n c (pcells ps) rfl (by rw [pcells_len, hl.out]) (hall.out _ (by repeat (first | exact Below.refl _ _ | assumption | refine below_drewN ?_ _ | refine Below.drew ?_ | refine Below.alloc ?_ (by first | exact Nat.le_refl _ | omega | (simp; done) | (simp; omega)) _ | refine Below.setCell ?_ (by first | exact Nat.le_refl _ | omega | (simp; done) | (simp; omega)) _))) pcells_one (by unfold maxLen; omega) (by omega) (by simp) ?_; intro v1 w1 hown1 hg1 hv1; have B1 : Below w.heap.size w w1 := below_row ((Below.refl w.heap.size w).alloc (Nat.le_refl _) _) hg1 (own_lit0 (Nat.le_refl _)) (Nat.le_refl _); clear hg1; obtain ⟨g1, c1, rfl, hc1', hg1'⟩ := own_form hown1 (fun e => by have := hv1.1 e; cases this.1); clear hv1; rw [List.nil_append, Nat.zero_add] at hown1; rw [Nat.zero_add] at hc1' ⊢; have hc1v : w1.cell? ⟨g, k * 2, none⟩ = some (.string s') := (B1.cell hgl).trans hc1; have hown1 : OwnP w1 w.heap.size (.slice (some ⟨g1, 0, none⟩) n c1) n ps := hown1; have hd1 : w1.cell? ⟨g1, k * 2 + 1, none⟩ = some (.int .i64 q) := (by have e := (pcells_at ps k (by rw [hl.out]; exact hlt)).2; rw [hp.out] at e; exact (hown1.row.cellAt (k * 2 + 1) (by omega)).trans e); have hf1 : w1.frozen? ⟨g1, k * 2 + 1, none⟩ = false := hown1.row.frozenAt _)
          go_ret
          have hst := hown1.row.stored (k * 2 + 1) (.int .i64 (q + m))
          refine ⟨g1, n, c1, ps.set k (s', q + m), rfl, by omega, hc1', fun p hp' => ?_, ?_, B1.setCell hg1' _⟩
          · rcases List.mem_or_eq_of_mem_set hp' with h1 | h1
            · exact hsz.out p h1
            · subst h1; exact hss
          · have e := pcells_set ps k s' (q + m) (by rw [hl.out]; exact hlt)
            have e2 : (pcells ps).set (k * 2) (.string s') = pcells ps := by
              have e3 := (pcells_at ps k (by rw [hl.out]; exact hlt)).1
              rw [hp.out] at e3
              exact set_same_at _ _ _ e3
            rw [e2] at e
            unfold OwnP
            rw [← e]
            exact hst.1
      · go_wp2_with fail
        go_round
        case rel => exact ⟨k + 1, by omega, by go_num⟩
        case measure => simp [intOf]; omega
    · go_wp2_with (at_builtin; refine wpList_append_own _ rfl (.tmp 24) (.tmp 25) 26 rfl w.heap.size 57 i0 _ 2 24 Try.underlying26 hi0 hz0 hz1 hz2 rfl (by decide) _ 0 [] rfl (own_lit0 (Nat.le_refl _)) ⟨g, 0, none⟩ n c (pcells ps) rfl (by rw [pcells_len, hl.out]) (hall.out _ (by repeat (first | exact Below.refl _ _ | assumption | refine below_drewN ?_ _ | refine Below.drew ?_ | refine Below.alloc ?_ (by first | exact Nat.le_refl _ | omega | (simp; done) | (simp; omega)) _ | refine Below.setCell ?_ (by first | exact Nat.le_refl _ | omega | (simp; done) | (simp; omega)) _))) pcells_one (by unfold maxLen; omega) (by omega) (by simp) ?_; intro v1 w1 hown1 hg1 hv1; have B1 : Below w.heap.size w w1 := below_row ((Below.refl w.heap.size w).alloc (Nat.le_refl _) _) hg1 (own_lit0 (Nat.le_refl _)) (Nat.le_refl _); clear hg1; obtain ⟨g1, c1, rfl, hc1', hg1'⟩ := own_form hown1 (fun e => by have := hv1.1 e; cases this.1); clear hv1; rw [List.nil_append, Nat.zero_add] at hown1; rw [Nat.zero_add] at hc1' ⊢)
      by_cases hkc2 : k = c
      · have hnc2 : n = k := by omega
        subst hkc2
        subst hnc2
        have hs1 := B1.size
        go_region_law (first
          | ((refine step_append_own (o := ⟨some 56, _, _, _, _, _⟩) (by rfl) (.tmp 52) (.tmp 55) 26 (by rfl) w.heap.size 57 i0 _ 2 24 Try.underlying26 hi0 hz0 hz1 hz2 (by rfl) (by decide) (.slice (some ⟨w1.heap.size, 0, none⟩) 0 0) 0 [] (by rfl) (by first | exact own_drawn (own_lit0 hs1) | exact own_drawn ((own_lit0 hs1).alloc _)) ⟨g, 0, none⟩ n n (pcells ((ps.drop 0).take (n - 0))) (by rfl) (by rw [pcells_len, List.length_take, List.length_drop, hl.out]; omega) (by rw [← Nat.zero_mul 2]; exact Hview.out 0 n (by omega) (by omega) _ (B1.trans (Below.mono (by repeat (first | exact Below.refl _ _ | assumption | refine below_drewN ?_ _ | refine Below.drew ?_ | refine Below.alloc ?_ (by first | exact Nat.le_refl _ | omega | (simp; done) | (simp; omega)) _ | refine Below.setCell ?_ (by first | exact Nat.le_refl _ | omega | (simp; done) | (simp; omega)) _)) hs1))) pcells_one (by unfold maxLen; omega) (by omega) (by first | omega | (simp; omega)) ?_; intro v2 w2 hown2 hg2 hv2; have B2 : Below w.heap.size w w2 := (B1.trans (Below.mono (by repeat (first | exact Below.refl _ _ | assumption | refine below_drewN ?_ _ | refine Below.drew ?_ | refine Below.alloc ?_ (by first | exact Nat.le_refl _ | omega | (simp; done) | (simp; omega)) _ | refine Below.setCell ?_ (by first | exact Nat.le_refl _ | omega | (simp; done) | (simp; omega)) _)) hs1)).grown hg2 (by simp; omega) (fun x hx => by first | (have e : w1.heap.size = x := Option.some.inj hx; omega) | (have e : w1.heap.size + 1 = x := Option.some.inj hx; omega)); have hs2 := B2.size; have hv2' : v2 ≠ .slice none 0 0 := fun e => (by have := hv2.1 e; cases this.1); clear hv2))
          | ((refine step_append_own (o := ⟨some 56, _, _, _, _, _⟩) (by rfl) (.tmp 52) (.tmp 55) 26 (by rfl) w.heap.size 57 i0 _ 2 24 Try.underlying26 hi0 hz0 hz1 hz2 (by rfl) (by decide) (.slice (some ⟨w1.heap.size + 1, 0, none⟩) 0 0) 0 [] (by rfl) (own_drawn (own_lit1 (Nat.le_succ_of_le hs1) _)) ⟨g, 0, none⟩ n n (pcells ((ps.drop 0).take (n - 0))) (by rfl) (by rw [pcells_len, List.length_take, List.length_drop, hl.out]; omega) (by rw [← Nat.zero_mul 2]; exact Hview.out 0 n (by omega) (by omega) _ (B1.trans (Below.mono (by repeat (first | exact Below.refl _ _ | assumption | refine below_drewN ?_ _ | refine Below.drew ?_ | refine Below.alloc ?_ (by first | exact Nat.le_refl _ | omega | (simp; done) | (simp; omega)) _ | refine Below.setCell ?_ (by first | exact Nat.le_refl _ | omega | (simp; done) | (simp; omega)) _)) hs1))) pcells_one (by unfold maxLen; omega) (by omega) (by first | omega | (simp; omega)) ?_; intro v2 w2 hown2 hg2 hv2; have B2 : Below w.heap.size w w2 := (B1.trans (Below.mono (by repeat (first | exact Below.refl _ _ | assumption | refine below_drewN ?_ _ | refine Below.drew ?_ | refine Below.alloc ?_ (by first | exact Nat.le_refl _ | omega | (simp; done) | (simp; omega)) _ | refine Below.setCell ?_ (by first | exact Nat.le_refl _ | omega | (simp; done) | (simp; omega)) _)) hs1)).grown hg2 (by simp; omega) (fun x hx => by first | (have e : w1.heap.size = x := Option.some.inj hx; omega) | (have e : w1.heap.size + 1 = x := Option.some.inj hx; omega)); have hs2 := B2.size; have hv2' : v2 ≠ .slice none 0 0 := fun e => (by have := hv2.1 e; cases this.1); clear hv2))
          | ((refine step_append_own (o := ⟨some 61, _, _, _, _, _⟩) (by rfl) (.tmp 56) (.tmp 60) 26 (by rfl) w.heap.size 57 i0 _ 2 24 Try.underlying26 hi0 hz0 hz1 hz2 (by rfl) (by decide) v2 _ _ (by rfl) (by first | exact hown2 | exact hown2.alloc _) _ 1 1 [.string s, .int .i64 m] (by rfl) (by rfl) (by first | exact World.news_of_block (cs := #[.string s, .int .i64 m]) (heap_alloc_new w2 _) | exact World.news_of_block (cs := #[.string s, .int .i64 m]) ((hg2.block _ (by first | omega | (simp; done) | (simp; omega)) (by simp [Value.ownBlock])).trans (by first | exact blk_a _ _ _ | exact blk_b _ _ _))) (by simp [Value.oneCell']) (by unfold maxLen; omega) (by omega) (by first | omega | (simp; omega)) ?_; intro v3 w3 hown3 hg3 hv3; have B3 : Below w.heap.size w w3 := (by first | exact below_row B2 hg3 hown2 (Nat.le_refl _) | exact below_row (B2.alloc hs2 _) hg3 (hown2.alloc _) (Nat.le_refl _)); have hs3 := B3.size; have hv3' : v3 ≠ .slice none 0 0 := fun e => hv2' (hv3.1 e).1; clear hv3))
          | ((refine step_append_own (o := ⟨some 65, _, _, _, _, _⟩) (by rfl) (.tmp 61) (.tmp 64) 26 (by rfl) w.heap.size 57 i0 _ 2 24 Try.underlying26 hi0 hz0 hz1 hz2 (by rfl) (by decide) v3 _ _ (by rfl) hown3 ⟨g, 0, none⟩ 0 0 (pcells ((ps.drop n).take 0)) (by rfl) (by rfl) (fun j u hu => by simp [pcells] at hu) pcells_one (by unfold maxLen; omega) (by omega) (by omega) ?_; intro v4 w4 hown4 hg4 hv4; have B4 : Below w.heap.size w w4 := below_row B3 hg4 hown3 (Nat.le_refl _); have hv4' : v4 ≠ .slice none 0 0 := fun e => hv3' (hv4.1 e).1; clear hv4))
          | fail)
        all_goals
          obtain ⟨g4, c4, rfl, hc4, hg4⟩ := own_form hown4 hv4'
          go_wp2_with fail
          exact bodyPost_ret (v := .slice (some ⟨g4, 0, none⟩) _ c4) (by simp [results, Try.results81, go_sem]) rfl ⟨g4, _, c4, _, rfl, by omega, hc4, put_sizes hsz.out hs _ _ _, by unfold OwnP; rw [List.nil_append] at hown4; exact put_own hown4, B4⟩
      · have hkc3 : k < c := by omega
        have hck : ¬ c = k := by omega
        have hs1 := B1.size
        go_region_law (first
          | ((refine step_append_own (o := ⟨some 56, _, _, _, _, _⟩) (by rfl) (.tmp 52) (.tmp 55) 26 (by rfl) w.heap.size 57 i0 _ 2 24 Try.underlying26 hi0 hz0 hz1 hz2 (by rfl) (by decide) (.slice (some ⟨w1.heap.size, 0, none⟩) 0 0) 0 [] (by rfl) (by first | exact own_drawn (own_lit0 hs1) | exact own_drawn ((own_lit0 hs1).alloc _)) ⟨g, 0, none⟩ k c (pcells ((ps.drop 0).take (k - 0))) (by rfl) (by rw [pcells_len, List.length_take, List.length_drop, hl.out]; omega) (by rw [← Nat.zero_mul 2]; exact Hview.out 0 k (by omega) (by omega) _ (B1.trans (Below.mono (by repeat (first | exact Below.refl _ _ | assumption | refine below_drewN ?_ _ | refine Below.drew ?_ | refine Below.alloc ?_ (by first | exact Nat.le_refl _ | omega | (simp; done) | (simp; omega)) _ | refine Below.setCell ?_ (by first | exact Nat.le_refl _ | omega | (simp; done) | (simp; omega)) _)) hs1))) pcells_one (by unfold maxLen; omega) (by omega) (by first | omega | (simp; omega)) ?_; intro v2 w2 hown2 hg2 hv2; have B2 : Below w.heap.size w w2 := (B1.trans (Below.mono (by repeat (first | exact Below.refl _ _ | assumption | refine below_drewN ?_ _ | refine Below.drew ?_ | refine Below.alloc ?_ (by first | exact Nat.le_refl _ | omega | (simp; done) | (simp; omega)) _ | refine Below.setCell ?_ (by first | exact Nat.le_refl _ | omega | (simp; done) | (simp; omega)) _)) hs1)).grown hg2 (by simp; omega) (fun x hx => by first | (have e : w1.heap.size = x := Option.some.inj hx; omega) | (have e : w1.heap.size + 1 = x := Option.some.inj hx; omega)); have hs2 := B2.size; have hv2' : v2 ≠ .slice none 0 0 := fun e => (by have := hv2.1 e; cases this.1); clear hv2))
          | ((refine step_append_own (o := ⟨some 56, _, _, _, _, _⟩) (by rfl) (.tmp 52) (.tmp 55) 26 (by rfl) w.heap.size 57 i0 _ 2 24 Try.underlying26 hi0 hz0 hz1 hz2 (by rfl) (by decide) (.slice (some ⟨w1.heap.size + 1, 0, none⟩) 0 0) 0 [] (by rfl) (own_drawn (own_lit1 (Nat.le_succ_of_le hs1) _)) ⟨g, 0, none⟩ k c (pcells ((ps.drop 0).take (k - 0))) (by rfl) (by rw [pcells_len, List.length_take, List.length_drop, hl.out]; omega) (by rw [← Nat.zero_mul 2]; exact Hview.out 0 k (by omega) (by omega) _ (B1.trans (Below.mono (by repeat (first | exact Below.refl _ _ | assumption | refine below_drewN ?_ _ | refine Below.drew ?_ | refine Below.alloc ?_ (by first | exact Nat.le_refl _ | omega | (simp; done) | (simp; omega)) _ | refine Below.setCell ?_ (by first | exact Nat.le_refl _ | omega | (simp; done) | (simp; omega)) _)) hs1))) pcells_one (by unfold maxLen; omega) (by omega) (by first | omega | (simp; omega)) ?_; intro v2 w2 hown2 hg2 hv2; have B2 : Below w.heap.size w w2 := (B1.trans (Below.mono (by repeat (first | exact Below.refl _ _ | assumption | refine below_drewN ?_ _ | refine Below.drew ?_ | refine Below.alloc ?_ (by first | exact Nat.le_refl _ | omega | (simp; done) | (simp; omega)) _ | refine Below.setCell ?_ (by first | exact Nat.le_refl _ | omega | (simp; done) | (simp; omega)) _)) hs1)).grown hg2 (by simp; omega) (fun x hx => by first | (have e : w1.heap.size = x := Option.some.inj hx; omega) | (have e : w1.heap.size + 1 = x := Option.some.inj hx; omega)); have hs2 := B2.size; have hv2' : v2 ≠ .slice none 0 0 := fun e => (by have := hv2.1 e; cases this.1); clear hv2))
          | ((refine step_append_own (o := ⟨some 61, _, _, _, _, _⟩) (by rfl) (.tmp 56) (.tmp 60) 26 (by rfl) w.heap.size 57 i0 _ 2 24 Try.underlying26 hi0 hz0 hz1 hz2 (by rfl) (by decide) v2 _ _ (by rfl) (by first | exact hown2 | exact hown2.alloc _) _ 1 1 [.string s, .int .i64 m] (by rfl) (by rfl) (by first | exact World.news_of_block (cs := #[.string s, .int .i64 m]) (heap_alloc_new w2 _) | exact World.news_of_block (cs := #[.string s, .int .i64 m]) ((hg2.block _ (by first | omega | (simp; done) | (simp; omega)) (by simp [Value.ownBlock])).trans (by first | exact blk_a _ _ _ | exact blk_b _ _ _))) (by simp [Value.oneCell']) (by unfold maxLen; omega) (by omega) (by first | omega | (simp; omega)) ?_; intro v3 w3 hown3 hg3 hv3; have B3 : Below w.heap.size w w3 := (by first | exact below_row B2 hg3 hown2 (Nat.le_refl _) | exact below_row (B2.alloc hs2 _) hg3 (hown2.alloc _) (Nat.le_refl _)); have hs3 := B3.size; have hv3' : v3 ≠ .slice none 0 0 := fun e => hv2' (hv3.1 e).1; clear hv3))
          | ((refine step_append_own (o := ⟨some 65, _, _, _, _, _⟩) (by rfl) (.tmp 61) (.tmp 64) 26 (by rfl) w.heap.size 57 i0 _ 2 24 Try.underlying26 hi0 hz0 hz1 hz2 (by rfl) (by decide) v3 _ _ (by rfl) hown3 ⟨g, k * 2, none⟩ (n - k) (c - k) (pcells ((ps.drop k).take (n - k))) (by rfl) (by rw [pcells_len, List.length_take, List.length_drop, hl.out]; omega) (Hview.out k n hk (Nat.le_refl _) _ B3) pcells_one (by unfold maxLen; omega) (by omega) (by omega) ?_; intro v4 w4 hown4 hg4 hv4; have B4 : Below w.heap.size w w4 := below_row B3 hg4 hown3 (Nat.le_refl _); have hv4' : v4 ≠ .slice none 0 0 := fun e => hv3' (hv4.1 e).1; clear hv4))
          | ((refine step_append_own (o := ⟨some 65, _, _, _, _, _⟩) (by rfl) (.tmp 61) (.tmp 64) 26 (by rfl) w.heap.size 57 i0 _ 2 24 Try.underlying26 hi0 hz0 hz1 hz2 (by rfl) (by decide) v3 _ _ (by rfl) hown3 ⟨g, 0, none⟩ 0 0 (pcells ((ps.drop k).take 0)) (by rfl) (by rfl) (fun j u hu => by simp [pcells] at hu) pcells_one (by unfold maxLen; omega) (by omega) (by omega) ?_; intro v4 w4 hown4 hg4 hv4; have B4 : Below w.heap.size w w4 := below_row B3 hg4 hown3 (Nat.le_refl _); have hv4' : v4 ≠ .slice none 0 0 := fun e => hv3' (hv4.1 e).1; clear hv4))
          | fail)
        all_goals
          obtain ⟨g4, c4, rfl, hc4, hg4⟩ := own_form hown4 hv4'
          go_wp2_with fail
          exact bodyPost_ret (v := .slice (some ⟨g4, 0, none⟩) _ c4) (by simp [results, Try.results81, go_sem]) rfl ⟨g4, _, c4, _, rfl, by omega, hc4, put_sizes hsz.out hs _ _ _, by unfold OwnP; rw [List.nil_append] at hown4; exact put_own hown4, B4⟩
end Go.Proofs.Ytiglkajafdecgaa
