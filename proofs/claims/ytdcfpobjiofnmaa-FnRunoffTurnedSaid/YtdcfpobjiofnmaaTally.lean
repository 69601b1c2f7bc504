/-
  A map of texts that counts ballots: what it reads as; its keys, sorted.
-/
import Derived.Test.YtdcfpobjiofnmaaTallyPlain
import Derived.Test.YtdcfpobjiofnmaaSmall
import Derived.Maps.Own
import Derived.Maps.OwnOps
import Derived.Maps.Views
import Derived.Maps.OwnSet
import Derived.Sort.KeysCollected
import Derived.Sort.Walk0
namespace Go.Proofs.Ytdcfpobjiofnmaa
set_option linter.unusedVariables false
open Go.RowKit Go.Maps Go.WideMaps Go.Sort

def keyL (t : ByteArray) : Lit := .string t.data.toList
theorem keyL_inj {s t : ByteArray} (h : keyL s = keyL t) : s = t := by
  unfold keyL at h
  injection h with h
  exact WideShapes.bytes_inj h
/-- the map reads as the number of ballots of each text -/
structure Tally (ps : List Bp.Pile) (D : DataW Unit) : Prop where
  isMap : IsMap D
  at_ : ∀ t, D.atKey (keyL t) (.lit (.int .i64 0)) = .lit (.int .i64 (Bp.total ps t))
  has_ : ∀ t, Maps.has D (keyL t) = true ↔ t ∈ ps.map (·.1)
theorem Tally.nil : Tally [] (.map []) := ⟨isMap_empty, fun t => rfl, fun t => by simp [has_eq]⟩
theorem Tally.step {ps : List Bp.Pile} {D : DataW Unit} (h : Tally ps D) (hk : ∀ t, WideAt.IsKeyLit (keyL t)) (s : ByteArray) (m : Int) : Tally (ps ++ [(s, m)]) (D.put (keyL s) (.lit (.int .i64 (Bp.total ps s + m)))) := by
  refine ⟨h.isMap.put _ _, fun t => ?_, fun t => ?_⟩
  · rw [Bp.total_snoc]
    by_cases e : s = t
    · subst e
      rw [atKey_put_same h.isMap (hk _), if_pos rfl]
    · rw [atKey_put_other (fun e2 => e (keyL_inj e2).symm), h.at_ t, if_neg e, Int.add_zero]
  · by_cases e : s = t
    · subst e
      rw [has_put_same h.isMap (hk _)]
      simp
    · rw [has_put_other (fun e2 => e (keyL_inj e2).symm), h.has_ t]
      simp [Ne.symm e]
theorem str_law : Keyed Try.prog 9 := string_keyed Try.underlying9
/-- the keys, as texts -/
def txt (l : List UInt8) : ByteArray := ⟨l.toArray⟩
theorem txt_data (l : List UInt8) : (txt l).data.toList = l := by simp [txt]
theorem txt_of (t : ByteArray) : txt t.data.toList = t := by
  apply WideShapes.bytes_inj
  simp [txt]
theorem key_lit (t : ByteArray) : WideAt.IsKeyLit (keyL t) := trivial
/-- the keys of such a map, sorted: each text once, in order -/
structure Keys (ps : List Bp.Pile) (ts : List ByteArray) : Prop where
  once : ts.Nodup
  names : ∀ t, t ∈ ts ↔ t ∈ ps.map (·.1)
  order : ∀ i, i + 1 < ts.length → Bp.ahead (ts.getD i default) (ts.getD (i + 1) default) = true
theorem keys_sorted {ps : List Bp.Pile} {D : DataW Unit} {w : World} {R : Value → Option (DataW Unit × List MemPlace)} {b n : Nat} (h : Tally ps D) (hown : w.ownsMap Try.prog 9 R b n D) {ss : List (List UInt8)} (hs : ss.Perm (strKeys D)) :
    Keys ps ((ss.mergeSort (fun x y => decide (x ≤ y))).map txt) := by
  obtain ⟨es, rfl, hpw⟩ := hown.tidy str_law
  obtain ⟨es', e', hk⟩ := hown.keysOf
  injection e' with e'
  subst e'
  have hstr : ∀ p ∈ es, ∃ x, p.1 = .string x := fun p hp => by
    obtain ⟨key, hkey⟩ := hk p hp
    obtain ⟨x, _, hx, _⟩ := Maps.keyOf_str Try.underlying9 hkey
    exact ⟨x, hx⟩
  have hmem : ∀ x, x ∈ strKeys (.map es : DataW Unit) ↔ Maps.has (.map es : DataW Unit) (.string x) = true := fun x => by
    rw [has_eq, List.any_eq_true]
    show x ∈ es.map (fun p => strOf p.1) ↔ _
    constructor
    · intro hx
      obtain ⟨p, hp, e⟩ := List.mem_map.1 hx
      obtain ⟨y, hy⟩ := hstr p hp
      rw [hy] at e
      have e2 : y = x := e
      subst e2
      refine ⟨p, hp, ?_⟩
      rw [hy]
      simp [Lit.sameKey]
    · rintro ⟨p, hp, e⟩
      have := WideAt.sameKey_eq e
      exact List.mem_map.2 ⟨p, hp, by rw [this]; rfl⟩
  have hnd : (strKeys (.map es : DataW Unit)).Nodup := by
    show (es.map fun p => strOf p.1).Nodup
    refine List.pairwise_map.2 (hpw.imp_of_mem fun {p q} hp' hq' hne e => hne ?_)
    obtain ⟨a, ha⟩ := hstr p hp'
    obtain ⟨b, hb⟩ := hstr q hq'
    rw [ha, hb] at e ⊢
    exact congrArg _ e
  have hnd2 : (ss.mergeSort (fun x y => decide (x ≤ y))).Nodup := ((List.mergeSort_perm ss _).trans hs).nodup_iff.2 hnd
  have tr : ∀ a b c : List UInt8, (fun x y : List UInt8 => decide (x ≤ y)) a b = true → (fun x y : List UInt8 => decide (x ≤ y)) b c = true → (fun x y : List UInt8 => decide (x ≤ y)) a c = true := fun a b c h1 h2 => by simp only [decide_eq_true_eq] at *; exact List.le_trans h1 h2
  have to : ∀ a b : List UInt8, ((fun x y : List UInt8 => decide (x ≤ y)) a b || (fun x y : List UInt8 => decide (x ≤ y)) b a) = true := fun a b => by simp only [Bool.or_eq_true, decide_eq_true_eq]; exact List.le_total a b
  have hsort := List.pairwise_mergeSort tr to ss
  have hperm := (List.mergeSort_perm ss (fun x y => decide (x ≤ y))).trans hs
  obtain ⟨S, hS⟩ : ∃ S, ss.mergeSort (fun x y => decide (x ≤ y)) = S := ⟨_, rfl⟩
  rw [hS] at hperm hsort hnd2 ⊢
  clear hS
  refine ⟨?_, fun t => ?_, fun i hi => ?_⟩
  · refine List.pairwise_map.2 (hnd2.imp fun {a b} hne e => hne ?_)
    have := congrArg (fun t : ByteArray => t.data.toList) e
    simpa [txt_data] using this
  · rw [← h.has_ t]
    constructor
    · intro ht
      obtain ⟨x, hx, e⟩ := List.mem_map.1 ht
      subst e
      have := (hmem x).1 (hperm.mem_iff.1 hx)
      unfold keyL
      rw [txt_data]
      exact this
    · intro ht
      exact List.mem_map.2 ⟨t.data.toList, hperm.mem_iff.2 ((hmem _).2 ht), txt_of t⟩
  · rw [List.length_map] at hi
    have e1 : (S.map txt).getD i default = txt (S[i]'(by omega)) := by simp [List.getD, show i < S.length by omega]
    have e2 : (S.map txt).getD (i + 1) default = txt (S[i + 1]'hi) := by simp [List.getD, hi]
    rw [e1, e2]
    have h1 := List.pairwise_iff_getElem.1 hsort i (i + 1) (by omega) hi (by omega)
    have h2 := List.pairwise_iff_getElem.1 hnd2 i (i + 1) (by omega) hi (by omega)
    simp only [decide_eq_true_eq] at h1
    unfold Bp.ahead
    rw [Proofs.bytesLess_eq, Lib.toList_data, Lib.toList_data, txt_data, txt_data, decide_eq_true_eq]
    rcases Classical.em (S[i] < S[i + 1]) with h3 | h3
    · exact h3
    · exact absurd (List.le_antisymm h1 (List.not_lt.1 h3)) h2
end Go.Proofs.Ytdcfpobjiofnmaa
