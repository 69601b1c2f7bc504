/-
  Plain facts on piles put together: sums over ballots do not turn. No program in sight.
-/
import Derived.Test.YtdcfpobjiofnmaaPairPlain
namespace Go.Proofs.Ytdcfpobjiofnmaa.Bp
set_option linter.unusedVariables false
open Go

/-- how many ballots have this text -/
def total : List Pile → ByteArray → Int
  | [], _ => 0
  | p :: r, t => (if p.1 = t then p.2 else 0) + total r t
theorem total_snoc (p : Pile) (t : ByteArray) : ∀ ps : List Pile, total (ps ++ [p]) t = total ps t + if p.1 = t then p.2 else 0
  | [] => by simp [total]
  | q :: r => by
    rw [List.cons_append, total, total, total_snoc p t r]
    omega
theorem total_none (t : ByteArray) : ∀ ps : List Pile, (∀ p ∈ ps, p.1 ≠ t) → total ps t = 0
  | [], _ => rfl
  | p :: r, h => by
    rw [total, if_neg (h p (List.mem_cons_self ..)), total_none t r (fun q hq => h q (List.mem_cons_of_mem _ hq))]
    rfl
theorem total_bd (t : ByteArray) (q : Int) : ∀ ps : List Pile, (∀ p ∈ ps, 0 ≤ p.2 ∧ p.2 ≤ q) → 0 ≤ q → 0 ≤ total ps t ∧ total ps t ≤ q * ps.length
  | [], _, _ => by simp [total]
  | p :: r, h, hq => by
    have ih := total_bd t q r (fun x hx => h x (List.mem_cons_of_mem _ hx)) hq
    have h0 := h p (List.mem_cons_self ..)
    rw [total, List.length_cons, Int.natCast_succ, Int.mul_add, Int.mul_one]
    split <;> omega
/-- a sum over all ballots -/
def wsum (f : ByteArray → Int) : List Pile → Int
  | [] => 0
  | p :: r => p.2 * f p.1 + wsum f r
theorem wsum_append (f : ByteArray → Int) (b : List Pile) : ∀ a : List Pile, wsum f (a ++ b) = wsum f a + wsum f b
  | [] => by simp [wsum]
  | p :: r => by
    rw [List.cons_append, wsum, wsum, wsum_append f b r]
    omega
theorem wsum_map (f : ByteArray → Int) (g : ByteArray → ByteArray) : ∀ a : List Pile, wsum f (a.map fun p => (g p.1, p.2)) = wsum (fun t => f (g t)) a
  | [] => rfl
  | p :: r => by
    rw [List.map_cons, wsum, wsum, wsum_map f g r]
theorem wsum_congr {f g : ByteArray → Int} : ∀ a : List Pile, (∀ p ∈ a, f p.1 = g p.1) → wsum f a = wsum g a
  | [], _ => rfl
  | p :: r, h => by
    rw [wsum, wsum, h p (List.mem_cons_self ..), wsum_congr r (fun q hq => h q (List.mem_cons_of_mem _ hq))]
def ksum (g : ByteArray → Int) : List ByteArray → Int
  | [] => 0
  | t :: r => g t + ksum g r
theorem ksum_add (f g : ByteArray → Int) : ∀ ks, ksum (fun t => f t + g t) ks = ksum f ks + ksum g ks
  | [] => rfl
  | t :: r => by rw [ksum, ksum, ksum, ksum_add f g r]; omega
theorem ksum_none (f : ByteArray → Int) : ∀ ks : List ByteArray, (∀ t ∈ ks, f t = 0) → ksum f ks = 0
  | [], _ => rfl
  | t :: r, h => by rw [ksum, h t (List.mem_cons_self ..), ksum_none f r (fun q hq => h q (List.mem_cons_of_mem _ hq))]; rfl
theorem ksum_one (f : ByteArray → Int) (a : ByteArray) : ∀ ks : List ByteArray, ks.Nodup → a ∈ ks → (∀ t ∈ ks, t ≠ a → f t = 0) → ksum f ks = f a
  | [], _, h, _ => by cases h
  | t :: r, hn, h, h0 => by
    rw [ksum]
    have hn' := List.nodup_cons.1 hn
    by_cases e : t = a
    · subst e
      rw [ksum_none f r (fun q hq => h0 q (List.mem_cons_of_mem _ hq) (fun e => hn'.1 (e ▸ hq)))]
      omega
    · rcases List.mem_cons.1 h with h1 | h1
      · exact absurd h1.symm e
      · rw [h0 t (List.mem_cons_self ..) e, ksum_one f a r hn'.2 h1 (fun q hq => h0 q (List.mem_cons_of_mem _ hq))]
        omega
theorem ksum_total (f : ByteArray → Int) (ks : List ByteArray) (hn : ks.Nodup) : ∀ ps : List Pile, (∀ p ∈ ps, p.1 ∈ ks) → ksum (fun t => total ps t * f t) ks = wsum f ps
  | [], _ => ksum_none _ _ fun t _ => by rw [total]; omega
  | p :: r, h => by
    have ih := ksum_total f ks hn r (fun q hq => h q (List.mem_cons_of_mem _ hq))
    have e : (fun t => total (p :: r) t * f t) = fun t => (if p.1 = t then p.2 else 0) * f t + total r t * f t := by
      funext t
      rw [total, Int.add_mul]
    rw [e, ksum_add, ih, wsum, ksum_one _ p.1 ks hn (h p (List.mem_cons_self ..)) (fun t _ hne => by rw [if_neg (Ne.symm hne)]; omega), if_pos rfl]
/-- qs are the ballots of ps, each text once -/
structure Merged (ps qs : List Pile) : Prop where
  once : (qs.map (·.1)).Nodup
  names : ∀ t, t ∈ qs.map (·.1) ↔ t ∈ ps.map (·.1)
  many : ∀ q ∈ qs, q.2 = total ps q.1
theorem Merged.sum {ps qs : List Pile} (h : Merged ps qs) (f : ByteArray → Int) : wsum f qs = wsum f ps := by
  rw [← ksum_total f (qs.map (·.1)) h.once ps (fun p hp => (h.names p.1).2 (List.mem_map.2 ⟨p, hp, rfl⟩))]
  have : ∀ l : List Pile, (∀ q ∈ l, q.2 = total ps q.1) → wsum f l = ksum (fun t => total ps t * f t) (l.map (·.1)) := by
    intro l
    induction l with
    | nil => intro _; rfl
    | cons q r ih =>
      intro hq
      rw [wsum, List.map_cons, ksum, ih (fun x hx => hq x (List.mem_cons_of_mem _ hx)), hq q (List.mem_cons_self ..)]
  exact this qs h.many
/-- a recursion over places is a sum over all ballots -/
theorem wsum_take (f : ByteArray → Int) (ps : List Pile) {k : Nat} (hk : k < ps.length) : wsum f (ps.take (k + 1)) = wsum f (ps.take k) + (ps.getD k default).2 * f (ps.getD k default).1 := by
  have e : ps.getD k default = ps[k] := by simp [List.getD, hk]
  rw [List.take_succ_eq_append_getElem hk, wsum_append, e]
  simp [wsum]
theorem wsum_of {F : Nat → Int} (f : ByteArray → Int) (ps : List Pile) (h0 : F 0 = 0) (hs : ∀ k, k < ps.length → F (k + 1) = F k + (ps.getD k default).2 * f (ps.getD k default).1) : F ps.length = wsum f ps := by
  have : ∀ k, k ≤ ps.length → F k = wsum f (ps.take k) := by
    intro k
    induction k with
    | zero => intro _; rw [h0]; rfl
    | succ k ih => intro hk; rw [hs k (by omega), ih (by omega), wsum_take f ps (by omega)]
  have := this ps.length (Nat.le_refl _)
  rwa [List.take_length] at this
theorem pref_wsum (ps : List Pile) (x y : Int) : pref ps x y = wsum (fun t => if prefers (bal t) x y then 1 else 0) ps :=
  wsum_of _ ps rfl fun k _ => by
    rw [prefTo]
    cases prefers (bal (ps.getD k default).1) x y
    · rw [if_neg (by simp), if_neg (by simp)]; omega
    · rw [if_pos rfl, if_pos rfl]; omega
end Go.Proofs.Ytdcfpobjiofnmaa.Bp
