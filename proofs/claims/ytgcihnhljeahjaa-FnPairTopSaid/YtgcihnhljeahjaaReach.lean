/-
  The walks of the reference's l13Reach and PairTop.
-/
import Derived.Test.YtgcihnhljeahjaaBtables
import Derived.Deep.RegionLaw
import Derived.Deep.DrawnRows
import Derived.Deep.AppendLies
namespace Go.Proofs.Ytgcihnhljeahjaa
set_option linter.unusedVariables false
open Go.RowKit

theorem bool_lit {w0 w : World} (h : w0.heap.size ≤ w.heap.size) : OwnB (w.alloc (.cells #[] 4)) w0.heap.size (.slice (some ⟨w.heap.size, 0, none⟩) 0 0) 0 [] := own_base (World.ownsRow_lit w #[] 0 (Nat.le_refl _) (by decide) rfl) h
theorem step_app {P : Program} {w : World} {ops : Array Oper} {o : Oper} {a : Act} {K : Act → World → Prop} {Q : Exit → Act → World → Prop} {E : Prop} (hgd : o.guard = none) (s x : Operand) (t : TypeId)
    (ho : o.op = .call { callee := .builtin .append, args := #[s, x], argTypes := #[t, t] })
    (base : Nat) (e : TypeId) (i : TypeInfo) (z : Value) (size bytes : Nat) (ht : P.underlying t = some (.slice e)) (hi : P.info? e = some i) (hz : i.zero = some z)
    (hsize : i.size = size) (hby : i.bytes = bytes) (hzs : z.cells.size = size) (hsz : 0 < size)
    (v : Value) (n : Nat) (xs : List Value) (hs : a.eval s = v) (hown : w.ownsRow base e size v n xs)
    (ad : Addr) (m c : Nat) (news : List Value) (hx : a.eval x = .slice (some ad) m c) (hl : news.length = m * size) (hnews : ∀ j u, news[j]? = some u → w.cell? (ad.add j) = some u) (h1 : ∀ u ∈ news, u.oneCell' = true)
    (h63 : n + m ≤ maxLen) (hbytes : (n + m) * bytes ≤ 140737488355328) (hbase : base ≤ w.heap.size)
    (h : ∀ v' w', w'.ownsRow base e size v' (n + m) (xs ++ news) → w.grownBy w' v.ownBlock → (v' = .slice none 0 0 ↔ v = .slice none 0 0 ∧ m = 0) → K (a.put o.dst v') w') :
    if Region.wanted o (yielded ops a.tmps) = true then Oper.wp P o a w K Q else E := by
  have hw : Region.wanted o (yielded ops a.tmps) = true := by simp [Region.wanted, hgd]
  rw [if_pos hw]
  exact wp_append_own w s x t ho base e i z size bytes ht hi hz hsize hby hzs hsz v n xs hs hown ad m c news hx hl hnews h1 h63 hbytes hbase h
theorem own_drew' {w : World} {base : Nat} {e : TypeId} {sz : Nat} {v : Value} {n : Nat} {xs : List Value} (h : w.ownsRow base e sz v n xs) : w.drew.ownsRow base e sz v n xs := own_keep h (Below.refl _ _).drew
theorem cell_at_new {w : World} {u : Value} {e : TypeId} {g : Nat} (h : w.heap.size = g) : ∀ j v, [u][j]? = some v → (w.alloc (.cells #[u] e)).cell? ((⟨g, 0, none⟩ : Addr).add j) = some v := by
  subst h
  exact cell_one_new _ _ _
def ReachedI (n : Nat) (rows : List (List Bool)) (w : World) (e : Ending) (w' : World) : Prop :=
  ∃ g c, e = .returned (.slice (some ⟨g, 0, none⟩) n c) ∧ n ≤ c ∧ w.heap.size ≤ g ∧ OwnBb w' w.heap.size (.slice (some ⟨g, 0, none⟩) n c) n rows ∧ Below w.heap.size w w'
theorem wpStill_skip {P : Program} {ops : Array Oper} {w : World} {Q : Act → Prop} {a : Act} {o : Oper} {rest : List Oper} (hw : Region.wanted o (yielded ops a.tmps) = false) (h : wpStill P ops w Q rest (a.put o.dst undef)) : wpStill P ops w Q (o :: rest) a :=
  wpStill_step fun K hK => by rw [if_neg (by rw [hw]; exact Bool.false_ne_true)]; exact hK _ h
theorem wpStill_want {P : Program} {ops : Array Oper} {w : World} {Q : Act → Prop} {a : Act} {o : Oper} {rest : List Oper} (hw : Region.wanted o (yielded ops a.tmps) = true) (h : ∀ K : Act → Prop, (∀ a, wpStill P ops w Q rest a → K a) → o.still P a w K) : wpStill P ops w Q (o :: rest) a :=
  wpStill_step fun K hK => by rw [if_pos hw]; exact h K hK
theorem wanted_no {o oj : Oper} {ops : Array Oper} {tmps : Array Value} {j d : Nat} {want b : Bool} (hg : o.guard = some (j, want)) (hj : ops[j]? = some oj) (hd : oj.dst = some d) (ht : tmps[d]? = some (.bool b)) (hb : b ≠ want) : Region.wanted o (yielded ops tmps) = false := by
  have hy : yielded ops tmps j = some b := by unfold yielded; simp [hj, hd, ht]
  simp [Region.wanted, hg, hy, hb]
theorem wanted_yes {o oj : Oper} {ops : Array Oper} {tmps : Array Value} {j d : Nat} {want b : Bool} (hg : o.guard = some (j, want)) (hj : ops[j]? = some oj) (hd : oj.dst = some d) (ht : tmps[d]? = some (.bool b)) (hb : b = want) : Region.wanted o (yielded ops tmps) = true := by
  have hy : yielded ops tmps j = some b := by unfold yielded; simp [hj, hd, ht]
  simp [Region.wanted, hg, hy, hb]
theorem wanted_none {o oj : Oper} {ops : Array Oper} {tmps : Array Value} {j d : Nat} {want : Bool} (hg : o.guard = some (j, want)) (hj : ops[j]? = some oj) (hd : oj.dst = some d) (ht : tmps[d]? = some undef) : Region.wanted o (yielded ops tmps) = false := by
  have hy : yielded ops tmps j = none := by unfold yielded; simp [hj, hd, ht]; rfl
  simp [Region.wanted, hg, hy]
set_option maxRecDepth 100000 in
set_option maxHeartbeats 2000000 in
theorem sReach_any (gc m cc : Nat) (ps : List Bp.Pile) (w : World) (h : TabV w w.heap.size (some ⟨gc, 0, none⟩) m (Bp.tabs m fun x y => Bp.pref ps x y)) (m1 : 1 ≤ m) (m5 : m ≤ 5) (hcc : m ≤ cc) :
    Calls Try.prog 33 #[.slice (some ⟨gc, 0, none⟩) m cc] w (ReachedI m (Bp.btabs m (Bp.reachF ps m)) w) := by
  obtain ⟨i0, hi0, hz0, hz1, hz2⟩ := info_parts bool_info
  obtain ⟨j0, hj0, hy0, hy1, hy2⟩ := info_parts brow_info
  obtain ⟨W, hW⟩ : ∃ W, w.heap.size = W := ⟨_, rfl⟩
  have htb := bb_lit (Nat.le_refl w.heap.size)
  have hb1 : Below w.heap.size w (w.alloc (.cells #[] 56)) := (Below.refl _ _).alloc (Nat.le_refl _) _
  go_enter Try.func33, Try.ntmps33
  go_wp2_with fail
  obtain ⟨w1, hw1⟩ : ∃ w1, w.alloc (.cells #[] 56) = w1 := ⟨_, rfl⟩
  rw [hw1] at htb hb1 ⊢
  rw [hW] at htb hb1 h
  have hv := h
  clear hw1
  go_loopw [3, 4] (fun v i wr => ∃ (x : Nat) (A3 : Option Addr) (c3 : Nat), x ≤ m ∧ v = .slice A3 x c3 ∧ x ≤ c3 ∧ i = .int .i64 x ∧ OwnBb wr W (.slice A3 x c3) x (Bp.btabTo m (Bp.notLost ps) x) ∧ Below W w wr) (fun _ i _ => m - (intOf i).toNat)
  case atStart => exact ⟨0, _, 0, Nat.zero_le _, rfl, Nat.le_refl _, rfl, htb, hb1⟩
  case round =>
    obtain ⟨x, A3, c3, hx, rfl, hxc, rfl, ⟨vs, hown⟩, hb⟩ := hrel
    clear htb hb1
    have hz := hb.size
    obtain ⟨wo, rfl⟩ : ∃ wo : World, wo = wr := ⟨_, rfl⟩
    obtain ⟨G, hG⟩ : ∃ G, wo.heap.size = G := ⟨_, rfl⟩
    by_cases hlt : x < m
    · have i1 : (0 : Int) ≤ (x : Int) := by omega
      have i2 : (x : Int) < (m : Int) := by omega
      have hrow0 := bool_lit (Nat.le_refl wo.heap.size)
      have hbr0 : Below wo.heap.size wo (wo.alloc (.cells #[] 4)) := (Below.refl _ _).alloc (Nat.le_refl _) _
      go_wp2_with fail
      obtain ⟨w2, hw2⟩ : ∃ w2, wo.alloc (.cells #[] 4) = w2 := ⟨_, rfl⟩
      rw [hw2] at hrow0 hbr0 ⊢
      rw [hG] at hrow0 hbr0 hz
      clear hw2
      go_loopw [5, 6] (fun rv i wi => ∃ (y : Nat) (A5 : Option Addr) (c5 : Nat), y ≤ m ∧ rv = .slice A5 y c5 ∧ y ≤ c5 ∧ i = .int .i64 y ∧ OwnB wi G (.slice A5 y c5) y (Bp.btab y (Bp.notLost ps x)) ∧ Below G wo wi) (fun _ i _ => m - (intOf i).toNat)
      case atStart => exact ⟨0, _, 0, Nat.zero_le _, rfl, Nat.le_refl _, rfl, hrow0, hbr0⟩
      case round =>
        obtain ⟨y, A5, c5, hy, rfl, hyc, rfl, owny, hby⟩ := hrel
        clear hrow0 hbr0
        have hzy := hby.size
        have hBy : Below W w wr := hb.trans (hby.mono (by omega))
        by_cases hyl : y < m
        · have i3 : (0 : Int) ≤ (y : Int) := by omega
          have i4 : (y : Int) < (m : Int) := by omega
          obtain ⟨g1, o1, c1, a1, ar⟩ := (hv.below hBy).row_of rfl hlt
          obtain ⟨g2, o2, c2, b1, br⟩ := (hv.below hBy).row_of rfl hyl
          have a2 := ar y hyl
          have b2 := br x hlt
          simp only [Nat.zero_add] at a1 b1
          have hnl : Bp.notLost ps x y = decide (Bp.pref ps y x ≤ Bp.pref ps x y) := rfl
          obtain ⟨z1, hz1'⟩ : ∃ z, Bp.pref ps x y = z := ⟨_, rfl⟩
          obtain ⟨z2, hz2'⟩ : ∃ z, Bp.pref ps y x = z := ⟨_, rfl⟩
          rw [hz1', hz2'] at hnl
          rw [hz1'] at a2
          rw [hz2'] at b2
          have Hnl := Lib.hid hnl
          clear ar br hz1' hz2' hnl
          go_wp2_with fail
          go_region_law (first
            | ((refine step_app (o := ⟨some 41, _, _, _, _, _⟩) (by rfl) (.tmp 24) (.tmp 40) 56 (by rfl) G 4 i0 _ 1 1 Try.underlying56 hi0 hz0 hz1 hz2 (by rfl) (by decide) (.slice A5 y c5) y ((Bp.btab y (Bp.notLost ps x)).map Value.bool) (by rfl) (by repeat (first | exact owny.row | refine own_drew' ?_ | refine World.ownsRow.alloc ?_ _)) ⟨wr.heap.size, 0, none⟩ 1 1 [.bool (decide (z2 ≤ z1))] (by rfl) (by rfl) (by first | exact cell_one_new _ _ _ | exact cell_at_new (by simp)) (by simp [Value.oneCell']) (by unfold maxLen; omega) (by omega) (by first | omega | (simp; omega)) ?_; intro v1 w6 hown6 hg6 hv6))
            | fail)
          all_goals
            obtain ⟨A6, c6, rfl, hkc1⟩ := own_slice hown6
            go_wp2_with fail
            go_roundw
            case rel => exact ⟨y + 1, A6, c6, by omega, by go_num, by omega, by go_num, by rw [Bp.btab_snoc, Hnl.out]; unfold OwnB; rw [List.map_append]; exact hown6, Below.grown (by repeat (first | exact Below.refl _ _ | assumption | refine below_drewN ?_ _ | refine Below.drew ?_ | refine Below.alloc ?_ (by first | exact Nat.le_refl _ | omega | (simp; done) | (simp; omega)) _ | refine Below.setCell ?_ (by first | exact Nat.le_refl _ | omega | (simp; done) | (simp; omega)) _)) hg6 (by first | omega | (simp; done) | (simp; omega)) (fun b e => (owny.row.lt b e).1)⟩
            case measure => simp [intOf]; omega
        · have hym : y = m := by omega
          have hbw : Below wo.heap.size wo wr := by rw [hG]; exact hby
          have hat : BbAt wr W (.slice A3 x c3) x (Bp.btabTo m (Bp.notLost ps) x) vs := ⟨hown.1, own_keep hown.2.1 hbw, hown.2.2.keep hbw⟩
          have hv0 : ∀ g, G ≤ g → (Value.slice A3 x c3).ownBlock ≠ some g := fun g hg e => by have := (hown.2.1.lt g e).2; omega
          have hvs : ∀ g, G ≤ g → ∀ i, i < (Bp.btabTo m (Bp.notLost ps) x).length → (vs.getD i undef).ownBlock ≠ some g := fun g hg i hi e => by
            obtain ⟨b, e1, _, e2⟩ := (hown.2.2.sub i (by simpa using hi)).block
            rw [e1] at e
            injection e with e
            omega
          have hrow := hat.2.1
          obtain ⟨g5, hA5, hg5⟩ : ∃ g, A5 = some ⟨g, 0, none⟩ ∧ G ≤ g := by
            rcases owny.row.2 with ⟨e, h0⟩ | ⟨g, cap, cur, e, hbg, _⟩
            · omega
            · injection e with e _ _
              exact ⟨g, e, hbg⟩
          subst hA5
          have ownW : OwnB wr W (.slice (some ⟨g5, 0, none⟩) m c5) m (Bp.btab m (Bp.notLost ps x)) := by
            rw [hym] at owny
            exact own_base owny (by omega)
          have hal : ∀ o : Obj, Below wr.heap.size wr (wr.alloc o) := fun o => (Below.refl _ _).alloc (Nat.le_refl _) o
          have hsnoc := fun o w1 v' hg hat' hown' => OwnBb.snoc (A := none) (c := 0) (w := wr.alloc o) (w1 := w1) (v' := v') ⟨hat.1, own_keep hat.2.1 (hal o), hat.2.2.keep (hal o)⟩ (Bp.btab_len _ _) (ownW.keep (hal o)) (hv0 g5 hg5) (hvs g5 hg5) hg hat' hown'
          have Hsnoc := Lib.hid hsnoc
          have hblk : ∀ b, (Value.slice A3 x c3).ownBlock = some b → W ≤ b := fun b e => (hrow.lt b e).1
          have Hblk := Lib.hid hblk
          have hmy : m = y := hym.symm
          clear hsnoc hat hblk hym hown owny hbw hv0 hvs ownW
          subst hmy
          go_wp2_with (at_builtin; refine wpList_append_own_at _ rfl (.tmp 42) (.tmp 44) 53 rfl W 56 j0 _ 1 24 Try.underlying53 hj0 hy0 hy1 hy2 rfl (by decide) (.slice A3 x c3) x _ rfl (hrow.alloc _) ⟨wr.heap.size, 0, none⟩ 1 1 [.slice (some ⟨g5, 0, none⟩) m c5] rfl rfl (cell_one_new _ _ _) (by simp [Value.oneCell']) (by unfold maxLen; omega) (by omega) (by simp; omega) ?_; intro v1 w6 hown6 hg6 _ hat6; obtain ⟨A4, c4, rfl, hkc1⟩ := own_slice hown6)
          go_roundw
          case rel => exact ⟨x + 1, A4, c4, by omega, by go_num, by omega, by go_num, by rw [Bp.btabTo_succ]; exact Hsnoc.out _ _ _ hg6 hat6 hown6, (hBy.alloc (by omega) _).grown hg6 (by simp; omega) (fun b e => Hblk.out b e)⟩
          case measure => simp [intOf]; omega
    · have hxm : x = m := by omega
      have hfin : OwnBb wo W (.slice A3 m c3) m (Bp.btabs m (Bp.notLost ps)) := by
        have : OwnBb wo W (.slice A3 x c3) x (Bp.btabTo m (Bp.notLost ps) x) := ⟨vs, hown⟩
        rw [hxm] at this
        exact this
      obtain ⟨gp, hA3, hg3⟩ : ∃ g, A3 = some ⟨g, 0, none⟩ ∧ W ≤ g := by
        rcases hown.2.1.2 with ⟨e, h0⟩ | ⟨g, cap, cur, e, hbg, _⟩
        · omega
        · injection e with e _ _
          exact ⟨g, e, hbg⟩
      subst hA3
      clear hown hv
      have hmx : m = x := hxm.symm
      clear hxm
      subst hmx
      go_wp2_with fail
      go_loopw [7] (fun i wr => ∃ o : Nat, o ≤ m ∧ i = .int .i64 o ∧ OwnBb wr W (.slice (some ⟨gp, 0, none⟩) m c3) m (Bp.btabs m (Bp.bviaO m (Bp.notLost ps) o)) ∧ Below W w wr) (fun i _ => m - (intOf i).toNat)
      case atStart => exact ⟨0, Nat.zero_le _, rfl, hfin, hb⟩
      case round =>
        obtain ⟨o, ho, rfl, hown, hb⟩ := hrel
        clear hfin
        obtain ⟨wo1, rfl⟩ : ∃ wo : World, wo = wr := ⟨_, rfl⟩
        by_cases hol : o < m
        · go_wp2_with fail
          go_loopw [8] (fun i wr => ∃ x : Nat, x ≤ m ∧ i = .int .i64 x ∧ OwnBb wr W (.slice (some ⟨gp, 0, none⟩) m c3) m (Bp.btabs m (Bp.bviaX m o (Bp.bviaO m (Bp.notLost ps) o) x)) ∧ Below W w wr) (fun i _ => m - (intOf i).toNat)
          case atStart => exact ⟨0, Nat.zero_le _, rfl, hown, hb⟩
          case round =>
            obtain ⟨x, hx, rfl, hown, hb⟩ := hrel
            obtain ⟨wo2, rfl⟩ : ∃ wo : World, wo = wr := ⟨_, rfl⟩
            by_cases hxl : x < m
            · go_wp2_with fail
              go_loopw [9] (fun i wr => ∃ y : Nat, y ≤ m ∧ i = .int .i64 y ∧ OwnBb wr W (.slice (some ⟨gp, 0, none⟩) m c3) m (Bp.btabs m (Bp.bviaY o x (Bp.bviaX m o (Bp.bviaO m (Bp.notLost ps) o) x) y)) ∧ Below W w wr) (fun i _ => m - (intOf i).toNat)
              case atStart => exact ⟨0, Nat.zero_le _, rfl, hown, hb⟩
              case round =>
                obtain ⟨y, hy, rfl, hown, hb⟩ := hrel
                by_cases hyl : y < m
                · have He := Lib.hid (show Bp.bviaY o x (Bp.bviaX m o (Bp.bviaO m (Bp.notLost ps) o) x) (y + 1) = Bp.bvia o x y (Bp.bviaY o x (Bp.bviaX m o (Bp.bviaO m (Bp.notLost ps) o) x) y) from rfl)
                  obtain ⟨f, hf⟩ : ∃ f, Bp.bviaY o x (Bp.bviaX m o (Bp.bviaO m (Bp.notLost ps) o) x) y = f := ⟨_, rfl⟩
                  rw [hf] at hown He
                  have Hvia := Lib.hid (Bp.bvia_tabs (k := o) f hxl hyl)
                  have i1 : (0 : Int) ≤ (x : Int) := by omega
                  have i2 : (x : Int) < (m : Int) := by omega
                  have i3 : (0 : Int) ≤ (y : Int) := by omega
                  have i4 : (y : Int) < (m : Int) := by omega
                  have i5 : (0 : Int) ≤ (o : Int) := by omega
                  have i6 : (o : Int) < (m : Int) := by omega
                  obtain ⟨gx, cx, hcx, ownx, hbx, hlx, hgl, hmx, hset⟩ := hown.row (m := m) hxl (by rw [Bp.btabs_at _ _ hxl, Bp.btab_len])
                  obtain ⟨go, co, hco, owno, _, _, _, hmo, _⟩ := hown.row (m := m) hol (by rw [Bp.btabs_at _ _ hol, Bp.btab_len])
                  obtain ⟨p1, p2⟩ := ownB_cell ownx y hyl
                  obtain ⟨p3, _⟩ := ownB_cell ownx o hol
                  obtain ⟨p4, _⟩ := ownB_cell owno y hyl
                  rw [Bp.btabs_at _ _ hxl, Bp.btab_at _ _ hyl] at p1
                  rw [Bp.btabs_at _ _ hxl, Bp.btab_at _ _ hol] at p3
                  rw [Bp.btabs_at _ _ hol, Bp.btab_at _ _ hyl] at p4
                  have hst := ownB_set ownx y (f x y || (f x o && f o y))
                  have hnew := hset _ _ (by rw [List.length_set, Bp.btabs_at _ _ hxl, Bp.btab_len]) hst.2 hst.1
                  rw [Hvia.out, ← He.out] at hnew
                  have hgn := below_only hst.2 hbx (by omega)
                  obtain ⟨v1, hv1⟩ : ∃ v, f x y = v := ⟨_, rfl⟩
                  obtain ⟨v2, hv2⟩ : ∃ v, f x o = v := ⟨_, rfl⟩
                  obtain ⟨v3, hv3⟩ : ∃ v, f o y = v := ⟨_, rfl⟩
                  rw [hv1] at p1 hnew hgn
                  rw [hv2] at p3 hnew hgn
                  rw [hv3] at p4 hnew hgn
                  have Hnew := Lib.hid hnew
                  have Hgn := Lib.hid (hb.trans hgn)
                  clear hnew hgn hst hset hown ownx owno hf hv1 hv2 hv3
                  rcases (show v1 = true ∨ v1 = false by cases v1 <;> simp) with e1 | e1
                  · have H1 := Lib.hid e1
                    clear e1
                    go_wp2_with fail
                    refine wp_region_still_tail 31 (by kernel_rfl) (by kernel_rfl) ?_
                    simp only [List.take_succ_cons, List.take_zero, List.drop_succ_cons, List.drop_zero]
                    iterate 13 still_step
                    iterate 8
                      ((with_reducible refine wpStill_skip ?_ ?_)
                       · exact wanted_no (d := 76) (b := v1) rfl rfl rfl (by kernel_rfl) (by rw [H1.out]; decide)
                       go_simp)
                    iterate 7
                      ((with_reducible refine wpStill_skip ?_ ?_)
                       · exact wanted_none (d := 84) rfl rfl rfl (by kernel_rfl)
                       go_simp)
                    iterate 1
                      ((with_reducible refine wpStill_skip ?_ ?_)
                       · exact wanted_no (d := 76) (b := v1) rfl rfl rfl (by kernel_rfl) (by rw [H1.out]; decide)
                       go_simp)
                    have e1 := H1.out
                    subst e1
                    iterate 2
                      ((with_reducible refine wpStill_step (fun K hK => ?_))
                       go_simp
                       (with_reducible refine hK _ ?_)
                       clear hK K)
                    (with_reducible refine wpStill_nil ?_)
                    change wpList _ _ _ _ _ wr.drew
                    go_wp2_with fail
                    go_roundw
                    case rel => exact ⟨y + 1, by omega, by go_num, Hnew.out.keep (below_drewN (Below.refl _ _) 1), below_drewN Hgn.out 1⟩
                    case measure => simp [intOf]; omega
                  · have H1 := Lib.hid e1
                    clear e1
                    rcases (show v2 = true ∨ v2 = false by cases v2 <;> simp) with e2 | e2
                    · have H2 := Lib.hid e2
                      clear e2
                      go_wp2_with fail
                      refine wp_region_still_tail 31 (by kernel_rfl) (by kernel_rfl) ?_
                      simp only [List.take_succ_cons, List.take_zero, List.drop_succ_cons, List.drop_zero]
                      iterate 13 still_step
                      iterate 8
                        ((with_reducible refine wpStill_want ?_ (fun K hK => ?_))
                         · exact wanted_yes (d := 76) (b := v1) rfl rfl rfl (by kernel_rfl) H1.out
                         go_simp
                         (with_reducible refine hK _ ?_)
                         clear hK K)
                      iterate 7
                        ((with_reducible refine wpStill_want ?_ (fun K hK => ?_))
                         · exact wanted_yes (d := 84) (b := v2) rfl rfl rfl (by kernel_rfl) H2.out
                         go_simp
                         (with_reducible refine hK _ ?_)
                         clear hK K)
                      have e2 := H2.out
                      subst e2
                      iterate 1
                        ((with_reducible refine wpStill_want ?_ (fun K hK => ?_))
                         · exact wanted_yes (d := 76) (b := v1) rfl rfl rfl (by kernel_rfl) H1.out
                         go_simp
                         (with_reducible refine hK _ ?_)
                         clear hK K)
                      have e1 := H1.out
                      subst e1
                      iterate 2
                        ((with_reducible refine wpStill_step (fun K hK => ?_))
                         go_simp
                         (with_reducible refine hK _ ?_)
                         clear hK K)
                      (with_reducible refine wpStill_nil ?_)
                      change wpList _ _ _ _ _ wr.drew
                      go_wp2_with fail
                      go_roundw
                      case rel => exact ⟨y + 1, by omega, by go_num, Hnew.out.keep (below_drewN (Below.refl _ _) 1), below_drewN Hgn.out 1⟩
                      case measure => simp [intOf]; omega
                    · have H2 := Lib.hid e2
                      clear e2
                      go_wp2_with fail
                      refine wp_region_still_tail 31 (by kernel_rfl) (by kernel_rfl) ?_
                      simp only [List.take_succ_cons, List.take_zero, List.drop_succ_cons, List.drop_zero]
                      iterate 13 still_step
                      iterate 8
                        ((with_reducible refine wpStill_want ?_ (fun K hK => ?_))
                         · exact wanted_yes (d := 76) (b := v1) rfl rfl rfl (by kernel_rfl) H1.out
                         go_simp
                         (with_reducible refine hK _ ?_)
                         clear hK K)
                      iterate 7
                        ((with_reducible refine wpStill_skip ?_ ?_)
                         · exact wanted_no (d := 84) (b := v2) rfl rfl rfl (by kernel_rfl) (by rw [H2.out]; decide)
                         go_simp)
                      have e2 := H2.out
                      subst e2
                      iterate 1
                        ((with_reducible refine wpStill_want ?_ (fun K hK => ?_))
                         · exact wanted_yes (d := 76) (b := v1) rfl rfl rfl (by kernel_rfl) H1.out
                         go_simp
                         (with_reducible refine hK _ ?_)
                         clear hK K)
                      have e1 := H1.out
                      subst e1
                      iterate 2
                        ((with_reducible refine wpStill_step (fun K hK => ?_))
                         go_simp
                         (with_reducible refine hK _ ?_)
                         clear hK K)
                      (with_reducible refine wpStill_nil ?_)
                      change wpList _ _ _ _ _ wr.drew
                      go_wp2_with fail
                      go_roundw
                      case rel => exact ⟨y + 1, by omega, by go_num, Hnew.out.keep (below_drewN (Below.refl _ _) 1), below_drewN Hgn.out 1⟩
                      case measure => simp [intOf]; omega
                · have hym : y = m := by omega
                  subst hym
                  go_wp2_with fail
                  go_roundw
                  case rel => exact ⟨x + 1, by omega, by go_num, hown, hb⟩
                  case measure => simp [intOf]; omega
            · have hxm : x = m := by omega
              subst hxm
              go_wp2_with fail
              go_roundw
              case rel => exact ⟨o + 1, by omega, by go_num, hown, hb⟩
              case measure => simp [intOf]; omega
        · have hom : o = m := by omega
          subst hom
          have HW := Lib.hid hW
          go_wp2_with fail
          go_ret
          exact ⟨gp, c3, rfl, hxc, by omega, by rw [HW.out]; exact hown, by rw [HW.out]; exact hb⟩
end Go.Proofs.Ytgcihnhljeahjaa
