/-
  The walk of the program's pilesOf: lists of piles put together by a map, each text once, in order.
-/
import Derived.Test.YtdcfpobjiofnmaaTally
import Derived.Test.YtdcfpobjiofnmaaPiles
import Derived.Test.YtdcfpobjiofnmaaPut
import Derived.Test.YtdcfpobjiofnmaaLawMem
import Derived.Test.YtdcfpobjiofnmaaSortedKeys
namespace Go.Proofs.Ytdcfpobjiofnmaa
set_option linter.unusedVariables false
open Go.RowKit Go.Maps Go.WideMaps Go.Sort

theorem pair_new (w : World) (x y : Value) (t : TypeId) : ∀ j u, [x, y][j]? = some u → (w.alloc (.cells #[x, y] t)).cell? ((⟨w.heap.size, 0, none⟩ : Addr).add j) = some u := by
  intro j u hj
  match j, hj with
  | 0, hj =>
    simp at hj
    subst hj
    simp [Addr.add]
  | 1, hj =>
    simp at hj
    subst hj
    simp [Addr.add]
/-- a row of lists of piles -/
def PLists (w : World) (B : Nat) (g o n : Nat) (pss : List (List Bp.Pile)) : Prop :=
  pss.length = n ∧ g < B ∧ ∀ k, k < n → ∃ (A : Option Addr) (m c : Nat), w.cell? ⟨g, o + k, none⟩ = some (.slice A m c) ∧ m ≤ c ∧ Piles w B A m (pss.getD k [])
theorem PLists.below {w w' : World} {B g o n : Nat} {pss : List (List Bp.Pile)} (h : PLists w B g o n pss) (hb : Below B w w') : PLists w' B g o n pss := ⟨h.1, h.2.1, fun k hk => by
  obtain ⟨A, m, c, h1, h2, h3⟩ := h.2.2 k hk
  exact ⟨A, m, c, (hb.cell (p := ⟨g, o + k, none⟩) h.2.1).trans h1, h2, h3.below hb⟩⟩
theorem zero_int (w : World) : (zeroValue 3).run Try.prog w = .ok (.int .i64 0) w := by kernel_rfl
theorem flat_take {α : Type} (pss : List (List α)) {k : Nat} (hk : k < pss.length) : (pss.take (k + 1)).flatten = (pss.take k).flatten ++ pss.getD k [] := by
  have e : pss.getD k [] = pss[k] := by simp [List.getD, hk]
  rw [List.take_succ_eq_append_getElem hk, List.flatten_append, e]
  simp
theorem take_more {ps : List Bp.Pile} {j : Nat} {s : ByteArray} {m : Int} (hj : j < ps.length) (hp : ps.getD j default = (s, m)) : ps.take (j + 1) = ps.take j ++ [(s, m)] := by
  have e : ps[j] = (s, m) := by rw [← hp]; simp [List.getD, hj]
  rw [List.take_succ_eq_append_getElem hj, e]
theorem nodup_le {α : Type} [DecidableEq α] : ∀ (l b : List α), l.Nodup → (∀ t ∈ l, t ∈ b) → l.length ≤ b.length
  | [], _, _, _ => Nat.zero_le _
  | a :: r, b, hn, h => by
    have hn' := List.nodup_cons.1 hn
    have ha := h a (List.mem_cons_self ..)
    have ih := nodup_le r (b.erase a) hn'.2 (fun t ht => (List.mem_erase_of_ne (fun e : t = a => hn'.1 (e ▸ ht))).2 (h t (List.mem_cons_of_mem _ ht)))
    rw [List.length_erase_of_mem ha] at ih
    have := List.length_pos_of_mem ha
    simp only [List.length_cons]
    omega
/-- what the piles of some lists are, put together -/
def merged (ps : List Bp.Pile) (ts : List ByteArray) : List Bp.Pile := ts.map fun t => (t, Bp.total ps t)
theorem merged_ok {ps : List Bp.Pile} {ts : List ByteArray} (h : Keys ps ts) : Bp.Merged ps (merged ps ts) := by
  have e : (merged ps ts).map (·.1) = ts := by
    unfold merged
    rw [List.map_map]
    exact List.map_id _
  refine ⟨by rw [e]; exact h.once, fun t => by rw [e]; exact h.names t, fun q hq => ?_⟩
  obtain ⟨t, _, rfl⟩ := List.mem_map.1 hq
  rfl
def MergedRes (ps : List Bp.Pile) (w : World) (e : Ending) (w' : World) : Prop :=
  ∃ (A : Option Addr) (n c : Nat) (qs : List Bp.Pile), e = .returned (.tuple #[.slice A n c, .bool (Bp.psval qs)]) ∧ n ≤ c ∧ n ≤ 200 ∧ Bp.Merged ps qs ∧ (∀ k, 0 < k → k < qs.length → Bp.ahead (qs.getD (k - 1) default).1 (qs.getD k default).1 = true) ∧
    Piles w' w'.heap.size A n (if Bp.psval qs then qs else []) ∧ Below w.heap.size w w'
set_option maxRecDepth 100000 in
set_option maxHeartbeats 4000000 in
theorem iPilesOf_any (g o n c : Nat) (pss : List (List Bp.Pile)) (w : World) (h : PLists w w.heap.size g o n pss) (hn : n ≤ 100) (hlen : pss.flatten.length ≤ 200) (hmany : ∀ p ∈ pss.flatten, 0 ≤ p.2 ∧ p.2 ≤ 99) (hsz : ∀ p ∈ pss.flatten, p.1.size ≤ 1048576) :
    Calls Try.prog 36 #[.slice (some ⟨g, o, none⟩) n c] w (MergedRes pss.flatten w) := by
  have hl := Lib.hid h.1
  have Hmany := Lib.hid hmany
  have Hsz := Lib.hid hsz
  have Hlen := Lib.hid hlen
  have hmm := @run_makeMap Try.prog
  have hbM : Below w.heap.size w (w.alloc (.map #[] 0)) := (Below.refl _ _).alloc (Nat.le_refl _) _
  have hownM : (w.alloc (.map #[] 0)).ownsMap Try.prog 9 (plainElem Try.prog 3) w.heap.size 0 (.map [] : DataW Unit) := World.ownsMap_made _ _ _ _
  clear hmany hsz hlen
  go_enter Try.func36, Try.ntmps36
  go_wp2_with fail
  obtain ⟨wm, hwm⟩ : ∃ wm, w.alloc (.map #[] 0) = wm := ⟨_, rfl⟩
  rw [hwm] at hbM hownM ⊢
  clear hwm
  obtain ⟨W, hW⟩ : ∃ W, w.heap.size = W := ⟨_, rfl⟩
  rw [hW] at hbM hownM h ⊢
  go_loopw [15] (fun i wr => ∃ (k nn : Nat) (D : DataW Unit), k ≤ n ∧ i = .int .i64 k ∧ wr.ownsMap Try.prog 9 (plainElem Try.prog 3) W nn D ∧ Hid (nn ≤ (pss.take k).flatten.length) ∧ Hid (Tally (pss.take k).flatten D) ∧ Below W w wr) (fun i _ => n - (intOf i).toNat)
  case atStart => exact ⟨0, 0, _, Nat.zero_le _, rfl, hownM, Nat.zero_le _, Tally.nil, hbM⟩
  case round =>
    obtain ⟨k, nn, D, hk, rfl, hown, hnn, hT, hb⟩ := hrel
    have hz := hb.size
    obtain ⟨wo, rfl⟩ : ∃ wo : World, wo = wr := ⟨_, rfl⟩
    by_cases hlt : k < n
    · obtain ⟨A1, m1, c1, hc1w, hmc1, hp1⟩ := h.2.2 k hlt
      have hc1 := (hb.cell (p := ⟨g, o + k, none⟩) h.2.1).trans hc1w
      obtain ⟨qs, hqs⟩ : ∃ qs, pss.getD k [] = qs := ⟨_, rfl⟩
      rw [hqs] at hp1
      have hsub : ∀ p ∈ qs, p ∈ pss.flatten := fun p hp => by
        have hk' : k < pss.length := by rw [hl.out]; exact hlt
        have e : pss.getD k [] = pss[k] := by simp [List.getD, hk']
        exact List.mem_flatten.2 ⟨qs, by rw [← hqs, e]; exact List.getElem_mem hk', hp⟩
      have hfl : (pss.take (k + 1)).flatten = (pss.take k).flatten ++ qs := by rw [flat_take pss (by rw [hl.out]; exact hlt), hqs]
      have hle : ((pss.take (k + 1)).flatten).length ≤ 200 := by
        have h1 : (pss.take (k + 1)).flatten.length ≤ pss.flatten.length := by
          have := congrArg List.flatten (List.take_append_drop (k + 1) pss)
          rw [List.flatten_append] at this
          have := congrArg List.length this
          rw [List.length_append] at this
          omega
        exact Nat.le_trans h1 Hlen.out
      rw [hfl, List.length_append] at hle
      obtain ⟨ps0, hps0⟩ : ∃ ps0, (pss.take k).flatten = ps0 := ⟨_, rfl⟩
      rw [hps0] at hle hnn hT hfl
      have hsub0 : ∀ p ∈ ps0, p ∈ pss.flatten := fun p hp => by
        rw [← hps0] at hp
        obtain ⟨l, hl1, hl2⟩ := List.mem_flatten.1 hp
        exact List.mem_flatten.2 ⟨l, List.mem_of_mem_take hl1, hl2⟩
      have Hsub := Lib.hid hsub
      have Hsub0 := Lib.hid hsub0
      have Hfl := Lib.hid hfl
      have Hle := Lib.hid hle
      have hlq := Lib.hid hp1.1.1
      have i1 : (0 : Int) ≤ (k : Int) := by omega
      have i2 : (k : Int) < (n : Int) := by omega
      clear hsub hsub0 hfl hle hqs hps0
      go_wp2_with fail
      go_loopw [21] (fun i wr => ∃ (j nn : Nat) (D : DataW Unit), j ≤ m1 ∧ i = .int .i64 j ∧ wr.ownsMap Try.prog 9 (plainElem Try.prog 3) W nn D ∧ Hid (nn ≤ ps0.length + j) ∧ Hid (Tally (ps0 ++ qs.take j) D) ∧ Below W w wr) (fun i _ => m1 - (intOf i).toNat)
      case atStart => exact ⟨0, nn, D, Nat.zero_le _, rfl, hown, hnn.out, by have := hT.out; unfold Hid; simpa using this, hb⟩
      case round =>
        obtain ⟨j, nn2, D2, hj, rfl, hown2, hnn2, hT2, hb2⟩ := hrel
        clear hown hnn hT
        have hz2 := hb2.size
        by_cases hjl : j < m1
        · obtain ⟨ga, oa, s, mm, rfl, hga, hca, hcb, hss, hp⟩ := (hp1.below hb2).at hjl
          have hjq : j < qs.length := by rw [hlq.out]; exact hjl
          have hmem : (s, mm) ∈ qs := by
            rw [← hp.out]
            have e : qs.getD j default = qs[j] := by simp [List.getD, hjq]
            rw [e]; exact List.getElem_mem hjq
          have hm99 := Hmany.out _ (Hsub.out _ hmem)
          have htb := Bp.total_bd s 99 (ps0 ++ qs.take j) (fun p hp => by
            rcases List.mem_append.1 hp with h1 | h1
            · exact Hmany.out _ (Hsub0.out _ h1)
            · exact Hmany.out _ (Hsub.out _ (List.mem_of_mem_take h1))) (by omega)
          have hll : (ps0 ++ qs.take j).length ≤ 200 := by
            have := Hle.out
            rw [List.length_append, List.length_take]
            omega
          have hstep := hT2.out.step key_lit s mm
          have hat' := hT2.out.at_ s
          rw [List.append_assoc, ← take_more hjq hp.out] at hstep
          obtain ⟨cc, hcc⟩ : ∃ c, Bp.total (ps0 ++ qs.take j) s = c := ⟨_, rfl⟩
          rw [hcc] at htb hstep hat'
          have hc0 := htb.1
          have hc1' : cc ≤ 19800 := by have := htb.2; omega
          have hm0 := hm99.1
          have hm1' := hm99.2
          have hkey := Lib.hid (keyOf_string_mk (s := s) Try.underlying9 (by unfold maxLen; omega))
          have Hstep := Lib.hid hstep
          have Hat := Lib.hid hat'
          have hnm : nn2 ≤ 400 := by have := hnn2.out; have := Hle.out; omega
          have Hnn := Lib.hid (show nn2 + 1 ≤ ps0.length + (j + 1) by have := hnn2.out; omega)
          have i3 : (0 : Int) ≤ (j : Int) := by omega
          have i4 : (j : Int) < (m1 : Int) := by omega
          have i5 : (j : Int) ≤ 200 := by have := Hle.out; have := hlq.out; omega
          have hWr : W < wr.heap.size := hown2.lt
          clear hmem hm99 htb hll hstep hat' hT2 hnn2 hcc
          go_wp2_with (first
            | (at_lookup; refine wpList_lookup_own_int _ rfl _ _ 83 rfl 9 3 .i64 str_law Try.underlying83 Try.underlying3 (zero_int _) W nn2 D2 rfl (hown2.alloc _) _ _ rfl hkey.out ?_; intro c hat hwc; obtain rfl : cc = c := by (have e := Hat.out.symm.trans hat; simpa using e))
            | (at_mapUpdate; refine wpList_mapUpdate_own _ rfl _ _ _ 83 rfl 9 3 str_law Try.underlying83 _ W nn2 _ rfl (hown2.alloc _) (by unfold maxLen; omega) _ _ _ rfl rfl hkey.out _ [] (plainElem_int Try.underlying3 (WalkArith.wf_i64 (by omega))) ?_; intro w1 hown1 hgrow1))
          have Hb3 := Lib.hid ((hb2.alloc (show W ≤ wr.heap.size by omega) _).grown hgrow1 (by simp; omega) (fun j hj => by cases hj; exact Nat.le_refl _))
          have Hown1 := Lib.hid hown1
          clear hown1 hgrow1
          go_roundw
          case rel => exact ⟨j + 1, nn2 + 1, _, by omega, by go_num, Hown1.out, Hnn, Hstep.out, Hb3.out⟩
          case measure => simp [intOf]; omega
        · have hje : j = m1 := by omega
          have hT3 := hT2.out
          rw [hje, List.take_of_length_le (by rw [hlq.out]; exact Nat.le_refl _), ← Hfl.out] at hT3
          have hnn3 := hnn2.out
          have HT3 := Lib.hid hT3
          have Hn3 : Hid (nn2 ≤ (pss.take (k + 1)).flatten.length) := by unfold Hid; rw [Hfl.out, List.length_append, hlq.out]; omega
          clear hT3 hnn3 hT2 hnn2
          go_wp2_with fail
          go_roundw
          case rel => exact ⟨k + 1, nn2, D2, by omega, by go_num, hown2, Hn3, HT3, hb2⟩
          case measure => simp [intOf]; omega
    · have hkn : k = n := by omega
      have hT' := hT.out
      have hnn' := hnn.out
      rw [hkn, List.take_of_length_le (by rw [hl.out]; exact Nat.le_refl _)] at hT' hnn'
      obtain ⟨ps, hps⟩ : ∃ ps, pss.flatten = ps := ⟨_, rfl⟩
      rw [hps] at hT' hnn' Hmany Hsz Hlen ⊢
      have hnn100 : nn ≤ 200 := Nat.le_trans hnn' Hlen.out
      have hsl := hown.size_le
      have HT := Lib.hid hT'
      have Hps := Lib.hid hps
      clear hT' hnn' hT hnn hkn h hps
      go_wp2_with fail
      refine (Try.keysCall _ _).mono ?_
      rintro e w1 ⟨rfl, rfl⟩
      go_wp2_with fail
      refine (Try.sortedCall W nn D _ wo hown (by unfold maxLen; omega) (by omega)).mono ?_
      rintro e w3 ⟨v, ss, rfl, hS, hrow, -, hb3⟩
      have hK := keys_sorted HT.out hown hS
      obtain ⟨ts, hts⟩ : ∃ ts, (ss.mergeSort (fun x y => decide (x ≤ y))).map txt = ts := ⟨_, rfl⟩
      have hrow2 : (ss.mergeSort (fun x y => decide (x ≤ y))).map encStr = ts.map Value.string := by
        rw [← hts, List.map_map]
        rfl
      have hlen : ss.length = ts.length := by rw [← hts, List.length_map, List.length_mergeSort]
      rw [hts] at hK
      rw [hrow2, hlen] at hrow
      obtain ⟨Ak, ck, rfl, hNc⟩ := own_slice hrow
      obtain ⟨N, hN⟩ : ∃ N, ts.length = N := ⟨_, rfl⟩
      rw [hN] at hrow hNc ⊢
      clear hrow2 hlen hts hS
      have hBw : Below W w w3 := (hb.alloc (by omega) _).trans (hb3.mono (by simp; omega))
      have own3 : w3.ownsMap Try.prog 9 (plainElem Try.prog 3) W nn D := (hown.alloc _).kept (row := none) ⟨hb3.os, hb3.tape, hb3.output, hb3.size, fun k hk _ => hb3.block k hk⟩ (by simp)
      have hkl := own_lt hrow
      have hz3 := hb3.size
      have hN100 : N ≤ 200 := by
        have h1 := hK.once
        have h2 : ts.length ≤ (ps.map (·.1)).length := nodup_le _ _ h1 (fun t ht => (hK.names t).1 ht)
        rw [List.length_map] at h2
        have := Hlen.out
        omega
      have htex : Hid (∀ t ∈ ts, t.size ≤ 1048576 ∧ 0 ≤ Bp.total ps t ∧ Bp.total ps t ≤ 19800) := fun t ht => by
        obtain ⟨p, hp, rfl⟩ := List.mem_map.1 ((hK.names t).1 ht)
        have h1 := Bp.total_bd p.1 99 ps Hmany.out (by omega)
        have h2 := Hlen.out
        exact ⟨Hsz.out p hp, h1.1, by have := h1.2; omega⟩
      have HK := Lib.hid hK
      have HN := Lib.hid hN
      have Hrow := Lib.hid hrow
      obtain ⟨i0, hi0, hy0, hy1, hy2⟩ := info_parts pile_row0
      clear hK hN hrow hown hb hb3
      have hW3 : W < w3.heap.size := own3.lt
      go_wp2_with fail
      go_loopw [9, 38] (fun v i wr => ∃ (j : Nat) (A3 : Option Addr) (c3 : Nat), v = .slice A3 j c3 ∧ i = .int .i64 j ∧ j ≤ N ∧ j ≤ c3 ∧ OwnP wr w3.heap.size (.slice A3 j c3) j ((merged ps ts).take j) ∧ wr.ownsMap Try.prog 9 (plainElem Try.prog 3) W nn D ∧ Below w3.heap.size w3 wr) (fun _ i _ => N - (intOf i).toNat)
      case atStart => exact ⟨0, none, 0, rfl, rfl, Nat.zero_le _, Nat.le_refl _, World.ownsRow_nil _ _ _ _, own3, Below.refl _ _⟩
      case round =>
        obtain ⟨j, A3, c3, rfl, rfl, hj, hjc, hR, hown4, hb4⟩ := hrel
        have hz4 := hb4.size
        by_cases hjl : j < N
        · have hjt : j < ts.length := by rw [HN.out]; exact hjl
          obtain ⟨t, ht⟩ : ∃ t, ts.getD j default = t := ⟨_, rfl⟩
          have hte : ts[j] = t := by rw [← ht]; simp [List.getD, hjt]
          have htm : t ∈ ts := by rw [← hte]; exact List.getElem_mem hjt
          obtain ⟨hts, hc0, hc1⟩ := htex.out t htm
          have hat := HT.out.at_ t
          obtain ⟨cc, hcc⟩ : ∃ c, Bp.total ps t = c := ⟨_, rfl⟩
          rw [hcc] at hc0 hc1 hat
          have hmj : (merged ps ts).take (j + 1) = (merged ps ts).take j ++ [(t, cc)] := by
            have hl2 : j < (merged ps ts).length := by unfold merged; rw [List.length_map]; exact hjt
            rw [List.take_succ_eq_append_getElem hl2]
            have : (merged ps ts)[j] = (t, cc) := by simp [merged, hte, hcc]
            rw [this]
          have Hmj := Lib.hid hmj
          have Hat := Lib.hid hat
          obtain ⟨gk, hAk⟩ : ∃ gk, Ak = some ⟨gk, 0, none⟩ := by
            rcases Hrow.out.2 with ⟨hv, h0⟩ | ⟨g, cap, cur, hv, _⟩
            · omega
            · injection hv with h1
              exact ⟨g, h1⟩
          subst hAk
          have hgk := hkl gk rfl
          have hct : wr.cell? ⟨gk, j, none⟩ = some (.string t) := by
            have h1 := Hrow.out.cells (g := gk) rfl j (.string t) (by rw [List.getElem?_map, List.getElem?_eq_getElem hjt, hte]; rfl)
            rw [add_zero_off] at h1
            exact (hb4.cell (p := ⟨gk, j, none⟩) hgk).trans h1
          have hkey := Lib.hid (keyOf_string_mk (s := t) Try.underlying9 (by unfold maxLen; omega))
          have i3 : (0 : Int) ≤ (j : Int) := by omega
          have i4 : (j : Int) < (N : Int) := by omega
          have i5 : (j : Int) ≤ 200 := by omega
          have hrow := hR.row
          have hne : some W ≠ (Value.slice A3 j c3).ownBlock := fun e => by have := (hrow.lt W e.symm).1; omega
          have hWr : W < wr.heap.size := by omega
          clear hmj hat hte ht htm hjt hR hcc
          go_wp2_with (first
            | (at_lookup; refine wpList_lookup_own_int _ rfl _ _ 83 rfl 9 3 .i64 str_law Try.underlying83 Try.underlying3 (zero_int _) W nn D rfl hown4 _ _ rfl hkey.out ?_; intro c hat hwc; obtain rfl : cc = c := by (have e := Hat.out.symm.trans hat; simpa using e))
            | (at_builtin; refine wpList_append_own_at _ rfl (.tmp 42) (.tmp 48) 23 rfl w3.heap.size 50 i0 _ 2 24 Try.underlying23 hi0 hy0 hy1 hy2 rfl (by decide) (.slice A3 j c3) j _ rfl (hrow.alloc _) ⟨wr.heap.size, 0, none⟩ 1 1 [.string t, .int .i64 cc] rfl rfl (pair_new _ _ _ _) (by simp [Value.oneCell']) (by unfold maxLen; omega) (by omega) (by simp; omega) ?_; intro v1 w6 hown6 hg6 _ _; obtain ⟨A4, c4, rfl, hkc1⟩ := own_slice hown6))
          go_roundw
          case rel =>
            refine ⟨j + 1, A4, c4, rfl, by go_num, by omega, hkc1, ?_, (hown4.alloc _).kept hg6 hne, (hb4.alloc (by omega) _).grown hg6 (by simp; omega) (fun g hg => (hrow.lt g hg).1)⟩
            rw [Hmj.out]
            unfold OwnP
            rw [pcells_append]
            exact hown6
          case measure => simp [intOf]; omega
        · have hje : j = N := by omega
          subst hje
          have hml : (merged ps ts).length = j := by unfold merged; rw [List.length_map]; exact HN.out
          rw [List.take_of_length_le (by omega)] at hR
          have hPl : Piles wr wr.heap.size A3 j (merged ps ts) := hR.piles.fine (fun p hp => by
            obtain ⟨t, ht, rfl⟩ := List.mem_map.1 hp
            exact (htex.out t ht).1)
          have hMo := Lib.hid (merged_ok HK.out)
          have hord : Hid (∀ k, 0 < k → k < (merged ps ts).length → Bp.ahead ((merged ps ts).getD (k - 1) default).1 ((merged ps ts).getD k default).1 = true) := fun k hk0 hk => by
            have h1 : k < ts.length := by rw [HN.out]; omega
            have h2 := HK.out.order (k - 1) (by omega)
            rw [show k - 1 + 1 = k by omega] at h2
            have e : ∀ i, i < ts.length → ((merged ps ts).getD i default).1 = ts.getD i default := fun i hi => by simp [merged, List.getD, hi]
            rw [e _ (by omega), e _ h1]
            exact h2
          obtain ⟨qs, hqs⟩ : ∃ qs, merged ps ts = qs := ⟨_, rfl⟩
          rw [hqs] at hPl hMo hord hml
          have Hps2 := Lib.hid Hps.out
          have hBr : Below W w wr := hBw.trans (hb4.mono (by omega))
          clear hR hqs
          cases hv : Bp.psval qs
          · go_wp2_with (go_at_call 34; refine (iPilesValid_any A3 j c3 qs _ hPl (by omega) hjc).mono ?_; rintro e w5 ⟨rfl, hb5⟩)
            go_ret2
            rw [Hps2.out]
            exact ⟨none, 0, 0, qs, by rw [hv]; first | rfl | (simp [go_sem]; done), Nat.le_refl _, by omega, hMo.out, hord.out, by rw [hv, if_neg (by simp)]; exact ⟨⟨rfl, fun p hp => by cases hp⟩, fun h => absurd h (by omega)⟩, by rw [hW]; exact hBr.trans (hb5.mono (by omega))⟩
          · go_wp2_with (go_at_call 34; refine (iPilesValid_any A3 j c3 qs _ hPl (by omega) hjc).mono ?_; rintro e w5 ⟨rfl, hb5⟩)
            go_ret2
            rw [Hps2.out]
            exact ⟨A3, j, c3, qs, by rw [hv]; first | rfl | (simp [go_sem]; done), hjc, by omega, hMo.out, hord.out, by rw [hv, if_pos rfl]; exact (hPl.below hb5).mono hb5.size, by rw [hW]; exact hBr.trans (hb5.mono (by omega))⟩
end Go.Proofs.Ytdcfpobjiofnmaa
