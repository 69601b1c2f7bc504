/-
  Plain laws of two candidates exchanged: piles stay piles; first preferences and winners are exchanged with them. No program in sight.
-/
import Derived.Test.YtdcfpobjiofnmaaSumPlain
import Derived.Test.YtdcfpobjiofnmaaPilesTurn
namespace Go.Proofs.Ytdcfpobjiofnmaa.Bp
set_option linter.unusedVariables false
open Go

theorem total_one : ∀ ps : List Pile, (ps.map (·.1)).Nodup → ∀ p ∈ ps, total ps p.1 = p.2
  | [], _, _, h => by cases h
  | q :: r, hn, p, hp => by
    have hn' := List.nodup_cons.1 hn
    rw [total]
    by_cases e : q.1 = p.1
    · have hz : total r p.1 = 0 := total_none _ _ fun s hs e2 => hn'.1 (List.mem_map.2 ⟨s, hs, e2.trans e.symm⟩)
      rw [if_pos e, hz]
      rcases List.mem_cons.1 hp with h1 | h1
      · subst h1; omega
      · exact absurd (List.mem_map.2 ⟨p, h1, e.symm⟩) hn'.1
    · rw [if_neg e]
      rcases List.mem_cons.1 hp with h1 | h1
      · subst h1; exact absurd rfl e
      · rw [total_one r hn'.2 p h1]; omega
theorem ahead_lt {a b : ByteArray} (h : ahead a b = true) : a.data.toList < b.data.toList := by
  unfold ahead at h
  rw [Proofs.bytesLess_eq, Lib.toList_data, Lib.toList_data, decide_eq_true_eq] at h
  exact h
theorem psval_lt {ps : List Pile} (hv : psval ps = true) (i : Nat) : ∀ j, i < j → j < ps.length → (ps.getD i default).1.data.toList < (ps.getD j default).1.data.toList
  | 0, h, _ => absurd h (by omega)
  | j + 1, h, hj => by
    have h1 := ahead_lt ((((psval_iff ps).1 hv).2 (j + 1) hj).2 (by omega))
    rw [Nat.add_sub_cancel] at h1
    by_cases e : i = j
    · subst e; exact h1
    · exact List.lt_trans (psval_lt hv i j (by omega) (by omega)) h1
theorem psval_nodup {ps : List Pile} (hv : psval ps = true) : (ps.map (·.1)).Nodup := by
  rw [List.nodup_iff_pairwise_ne, List.pairwise_iff_getElem]
  intro i j hi hj hij e
  rw [List.length_map] at hi hj
  have h := psval_lt hv i j hij hj
  rw [show ps.getD i default = ps[i] by simp [List.getD, hi], show ps.getD j default = ps[j] by simp [List.getD, hj]] at h
  rw [List.getElem_map, List.getElem_map] at e
  rw [e] at h
  exact List.lt_irrefl _ h
theorem parse_inj {s t : ByteArray} (h : parse s = parse t) : s = t := by
  apply WideShapes.bytes_inj
  unfold parse at h
  exact (List.map_inj_right (fun a b e => by
    apply UInt8.toNat_inj.1
    have e' : (a.toNat : Int) - 97 = (b.toNat : Int) - 97 := e
    omega)).1 h
theorem map_sw_inj {x y : Int} {a b : List Int} (h : a.map (sw x y) = b.map (sw x y)) : a = b := (List.map_inj_right (fun _ _ e => sw_inj e)).1 h
section
variable {ps qs : List Pile} {x y : Int}
theorem tp_bval (hx : 0 ≤ x ∧ x < 5) (hy : 0 ≤ y ∧ y < 5) {p : Pile} (hp : pval p = true) : bval ((bal p.1).map (sw x y)) 5 = true := by
  have h1 := ((pval_iff _).1 hp).1
  rw [bal_yes _ h1]
  exact sw_bval hx hy h1
theorem tp_bal (hx : 0 ≤ x ∧ x < 5) (hy : 0 ≤ y ∧ y < 5) {p : Pile} (hp : pval p = true) : bal (tp x y p).1 = (bal p.1).map (sw x y) := bal_btext (tp_bval hx hy hp)
theorem tp_pval (hx : 0 ≤ x ∧ x < 5) (hy : 0 ≤ y ∧ y < 5) {p : Pile} (hp : pval p = true) : pval (tp x y p) = true := by
  have h1 := (pval_iff _).1 hp
  exact (pval_iff _).2 ⟨pok_btext (tp_bval hx hy hp), h1.2⟩
theorem tp_nodup (hv : psval ps = true) (hx : 0 ≤ x ∧ x < 5) (hy : 0 ≤ y ∧ y < 5) : ((ps.map (tp x y)).map (·.1)).Nodup := by
  rw [List.map_map]
  have h := psval_nodup hv
  rw [List.nodup_iff_pairwise_ne, List.pairwise_map] at h ⊢
  refine h.imp_of_mem fun {p q} hp hq hne e => hne ?_
  have e' : (tp x y p).1 = (tp x y q).1 := e
  have hpp := psval_mem hv p hp
  have hqq := psval_mem hv q hq
  have e2 := congrArg bal e'
  rw [tp_bal hx hy hpp, tp_bal hx hy hqq] at e2
  have e3 := map_sw_inj e2
  rw [bal_yes _ ((pval_iff _).1 hpp).1, bal_yes _ ((pval_iff _).1 hqq).1] at e3
  exact parse_inj e3
theorem turn_psval (hv : psval ps = true) (hx : 0 ≤ x ∧ x < 5) (hy : 0 ≤ y ∧ y < 5) (h : Merged (ps.map (tp x y)) qs)
    (hord : ∀ k, 0 < k → k < qs.length → ahead (qs.getD (k - 1) default).1 (qs.getD k default).1 = true) : psval qs = true := by
  have hlen : qs.length ≤ ps.length := by
    have := nodup_le _ _ h.once (fun t ht => (h.names t).1 ht)
    simpa using this
  have h12 := ((psval_iff ps).1 hv).1
  refine psval_true qs (by omega) fun k hk => ⟨?_, fun hk0 => hord k hk0 hk⟩
  have e : qs.getD k default = qs[k] := by simp [List.getD, hk]
  rw [e]
  have hm : qs[k] ∈ qs := List.getElem_mem hk
  obtain ⟨p, hp, e2⟩ := List.mem_map.1 ((h.names qs[k].1).1 (List.mem_map.2 ⟨_, hm, rfl⟩))
  have ht := total_one _ (tp_nodup hv hx hy) p hp
  have hq := h.many _ hm
  rw [← e2, ht] at hq
  have : qs[k] = p := Prod.ext e2.symm hq
  rw [this]
  obtain ⟨r, hr, rfl⟩ := List.mem_map.1 hp
  exact tp_pval hx hy (psval_mem hv r hr)
theorem turn_fits {n : Int} (hf : fits ps n = true) (hx : 0 ≤ x ∧ x < n) (hy : 0 ≤ y ∧ y < n) (h : Merged (ps.map (tp x y)) qs) (hq : psval qs = true) : fits qs n = true := by
  have hn := fits_n hf
  refine merged_fits h hq (((fits_iff _ _).1 hf).1) fun p hp => ?_
  obtain ⟨r, hr, rfl⟩ := List.mem_map.1 hp
  rw [tp_bal (by omega) (by omega) (psval_mem (fits_val hf) r hr)]
  exact sw_bval hx hy (fits_mem hf r hr)
/-- a sum over the turned ballots -/
theorem turn_wsum (hv : psval ps = true) (hx : 0 ≤ x ∧ x < 5) (hy : 0 ≤ y ∧ y < 5) (h : Merged (ps.map (tp x y)) qs) (F : List Int → Int) :
    wsum (fun t => F (bal t)) qs = wsum (fun t => F ((bal t).map (sw x y))) ps := by
  rw [h.sum]
  have e : ps.map (tp x y) = ps.map fun p => (btext ((bal p.1).map (sw x y)), p.2) := rfl
  rw [e, wsum_map (fun t => F (bal t)) (fun t => btext ((bal t).map (sw x y)))]
  refine wsum_congr ps fun p hp => ?_
  have := tp_bal hx hy (psval_mem hv p hp)
  exact congrArg F this
end
end Go.Proofs.Ytdcfpobjiofnmaa.Bp
