/-
  Rows of rows: slices that the call has made, kept in cells of another one.
-/
import Derived.Test.YtpfekeflkmafcaaInts
namespace Go.Proofs.Ytpfekeflkmafcaa
open Go.RowKit

/-- A kind of row that a call owns. -/
structure RowK (α : Type) where
  own : World → Nat → Value → α → Prop
  chg : ∀ {S : Nat → Prop} {w w' : World} {lo : Nat} {v : Value} {x : α}, own w lo v x → Chg S w w' → (∀ b, lo ≤ b → v.ownBlock = some b → ¬ S b) → own w' lo v x
  lt : ∀ {w : World} {lo : Nat} {v : Value} {x : α}, own w lo v x → ∀ b, v.ownBlock = some b → lo ≤ b ∧ b < w.heap.size
  wide : ∀ {w : World} {lo lo' : Nat} {v : Value} {x : α}, own w lo v x → lo' ≤ lo → own w lo' v x

/-- The rows vs, each the call's own, no two in one block, all ahead of hi. -/
def Inn {α : Type} (R : RowK α) (w : World) (lo hi : Nat) (vs : List Value) (xs : List α) : Prop :=
  vs.length = xs.length ∧ (∀ (k : Nat) (hk : k < xs.length) (u : Value), vs[k]? = some u → R.own w lo u xs[k] ∧ ∀ b, u.ownBlock = some b → b < hi) ∧
  ∀ (j k : Nat) (u u' : Value), j ≠ k → vs[j]? = some u → vs[k]? = some u' → ∀ b, u.ownBlock = some b → u'.ownBlock ≠ some b

theorem Inn.chg {α : Type} {R : RowK α} {S : Nat → Prop} {w w' : World} {lo hi : Nat} {vs : List Value} {xs : List α} (h : Inn R w lo hi vs xs) (hc : Chg S w w') (hs : ∀ b, lo ≤ b → b < hi → ¬ S b) : Inn R w' lo hi vs xs :=
  ⟨h.1, fun k hk u hu => ⟨R.chg (h.2.1 k hk u hu).1 hc fun b hb he => hs b hb ((h.2.1 k hk u hu).2 b he), (h.2.1 k hk u hu).2⟩, h.2.2⟩
/-- A change that meets no row. -/
theorem Inn.chg2 {α : Type} {R : RowK α} {S : Nat → Prop} {w w' : World} {lo hi : Nat} {vs : List Value} {xs : List α} (h : Inn R w lo hi vs xs) (hc : Chg S w w') (hs : ∀ (k : Nat) (u : Value) (b : Nat), vs[k]? = some u → u.ownBlock = some b → ¬ S b) : Inn R w' lo hi vs xs :=
  ⟨h.1, fun k hk u hu => ⟨R.chg (h.2.1 k hk u hu).1 hc fun b _ he => hs k u b hu he, (h.2.1 k hk u hu).2⟩, h.2.2⟩
theorem Inn.mono {α : Type} {R : RowK α} {w : World} {lo hi hi' : Nat} {vs : List Value} {xs : List α} (h : Inn R w lo hi vs xs) (hh : hi ≤ hi') : Inn R w lo hi' vs xs :=
  ⟨h.1, fun k hk u hu => ⟨(h.2.1 k hk u hu).1, fun b hb => by have := (h.2.1 k hk u hu).2 b hb; omega⟩, h.2.2⟩
theorem Inn.wide {α : Type} {R : RowK α} {w : World} {lo lo' hi : Nat} {vs : List Value} {xs : List α} (h : Inn R w lo hi vs xs) (hh : lo' ≤ lo) : Inn R w lo' hi vs xs :=
  ⟨h.1, fun k hk u hu => ⟨R.wide (h.2.1 k hk u hu).1 hh, (h.2.1 k hk u hu).2⟩, h.2.2⟩
theorem Inn.get {α : Type} {R : RowK α} {w : World} {lo hi : Nat} {vs : List Value} {xs : List α} (h : Inn R w lo hi vs xs) (k : Nat) (hk : k < xs.length) : ∃ u, vs[k]? = some u ∧ R.own w lo u xs[k] ∧ ∀ b, u.ownBlock = some b → b < hi := by
  have hk' : k < vs.length := by rw [h.1]; exact hk
  exact ⟨vs[k], by simp [hk'], h.2.1 k hk _ (by simp [hk'])⟩
/-- One row turned, its block alone. -/
theorem Inn.one {α : Type} {R : RowK α} {w w' : World} {lo hi : Nat} {vs : List Value} {xs : List α} (h : Inn R w lo hi vs xs) {f : Nat} {u : Value} {x : α} (hu : vs[f]? = some u) (hc : Chg (fun b => u.ownBlock = some b) w w') (ho : R.own w' lo u x) : Inn R w' lo hi vs (xs.set f x) := by
  refine ⟨by rw [List.length_set]; exact h.1, fun k hk u' hu' => ?_, h.2.2⟩
  rw [List.length_set] at hk
  have hf : f < xs.length := by rw [← h.1]; exact (List.getElem?_eq_some_iff.1 hu).1
  by_cases e : f = k
  · subst e
    rw [hu] at hu'; cases hu'
    rw [List.getElem_set_self]
    exact ⟨ho, (h.2.1 f hk u hu).2⟩
  · rw [List.getElem_set_ne e]
    have := h.2.1 k hk u' hu'
    exact ⟨R.chg this.1 hc fun b _ he hs => h.2.2 f k u u' e hu hu' b hs he, this.2⟩
/-- One row laid anew. -/
theorem Inn.put {α : Type} {R : RowK α} {w : World} {lo hi hi' : Nat} {vs : List Value} {xs : List α} (h : Inn R w lo hi vs xs) (f : Nat) {u : Value} {x : α} (ho : R.own w lo u x) (hb : ∀ b, u.ownBlock = some b → hi ≤ b ∧ b < hi') (hh : hi ≤ hi') : Inn R w lo hi' (vs.set f u) (xs.set f x) := by
  refine ⟨by rw [List.length_set, List.length_set]; exact h.1, fun k hk u' hu' => ?_, fun j k u1 u2 hjk h1 h2 b hb1 hb2 => ?_⟩
  · rw [List.length_set] at hk
    by_cases e : f = k
    · subst e
      rw [List.getElem?_set_self (by rw [h.1]; exact hk)] at hu'
      cases hu'
      rw [List.getElem_set_self]
      exact ⟨ho, fun b he => (hb b he).2⟩
    · rw [List.getElem?_set_ne e] at hu'
      rw [List.getElem_set_ne e]
      have := h.2.1 k hk u' hu'
      exact ⟨this.1, fun b he => by have := this.2 b he; omega⟩
  · have old : ∀ i u3, f ≠ i → (vs.set f u)[i]? = some u3 → vs[i]? = some u3 ∧ ∀ b, u3.ownBlock = some b → b < hi := fun i u3 hne hi3 => by
      rw [List.getElem?_set_ne hne] at hi3
      have hil : i < xs.length := by rw [← h.1]; exact (List.getElem?_eq_some_iff.1 hi3).1
      exact ⟨hi3, (h.2.1 i hil u3 hi3).2⟩
    have new : ∀ u3, (vs.set f u)[f]? = some u3 → u3 = u := fun u3 h3 => by
      have hfl := (List.getElem?_eq_some_iff.1 h3).1
      rw [List.length_set] at hfl
      rw [List.getElem?_set_self hfl] at h3
      exact (Option.some.inj h3).symm
    by_cases e1 : f = j
    · subst e1
      obtain rfl := new u1 h1
      have := (old k u2 hjk h2).2 b hb2
      have := (hb b hb1).1
      omega
    · by_cases e2 : f = k
      · subst e2
        obtain rfl := new u2 h2
        have := (old j u1 e1 h1).2 b hb1
        have := (hb b hb2).1
        omega
      · exact h.2.2 j k u1 u2 hjk (old j u1 e1 h1).1 (old k u2 e2 h2).1 b hb1 hb2
/-- One row more. -/
theorem Inn.snoc {α : Type} {R : RowK α} {w : World} {lo hi hi' : Nat} {vs : List Value} {xs : List α} (h : Inn R w lo hi vs xs) {u : Value} {x : α} (ho : R.own w lo u x) (hb : ∀ b, u.ownBlock = some b → hi ≤ b ∧ b < hi') (hh : hi ≤ hi') : Inn R w lo hi' (vs ++ [u]) (xs ++ [x]) := by
  have hl := h.1
  have old : ∀ i u3, i < vs.length → (vs ++ [u])[i]? = some u3 → vs[i]? = some u3 ∧ ∀ b, u3.ownBlock = some b → b < hi := fun i u3 hi' h3 => by
    rw [List.getElem?_append_left hi'] at h3
    exact ⟨h3, (h.2.1 i (by omega) u3 h3).2⟩
  have new : ∀ i u3, ¬ i < vs.length → (vs ++ [u])[i]? = some u3 → i = vs.length ∧ u3 = u := fun i u3 hi' h3 => by
    have := (List.getElem?_eq_some_iff.1 h3).1
    simp at this
    have e : i = vs.length := by omega
    subst e
    simp at h3
    exact ⟨rfl, h3.symm⟩
  refine ⟨by simp [hl], fun k hk u' hu' => ?_, fun j k u1 u2 hjk h1 h2 b hb1 hb2 => ?_⟩
  · by_cases hkl : k < vs.length
    · obtain ⟨h3, h4⟩ := old k u' hkl hu'
      have hkx : k < xs.length := by omega
      rw [List.getElem_append_left hkx]
      exact ⟨(h.2.1 k hkx u' h3).1, fun b he => by have := h4 b he; omega⟩
    · obtain ⟨rfl, rfl⟩ := new k u' hkl hu'
      rw [List.getElem_append_right (by omega)]
      simp only [hl, Nat.sub_self, List.getElem_cons_zero]
      exact ⟨ho, fun b he => (hb b he).2⟩
  · by_cases e1 : j < vs.length
    · by_cases e2 : k < vs.length
      · exact h.2.2 j k u1 u2 hjk (old j u1 e1 h1).1 (old k u2 e2 h2).1 b hb1 hb2
      · obtain ⟨-, rfl⟩ := new k u2 e2 h2
        have := (old j u1 e1 h1).2 b hb1
        have := (hb b hb2).1
        omega
    · obtain ⟨ej, rfl⟩ := new j u1 e1 h1
      by_cases e2 : k < vs.length
      · have := (old k u2 e2 h2).2 b hb2
        have := (hb b hb1).1
        omega
      · obtain ⟨ek, -⟩ := new k u2 e2 h2
        omega
theorem Inn.nil {α : Type} (R : RowK α) (w : World) (lo hi : Nat) : Inn R w lo hi [] [] := ⟨rfl, fun k hk => by simp at hk, fun j k u u' _ h => by simp at h⟩

/-- Two rows of different kinds lie in different blocks. -/
theorem own_apart {w : World} {b1 b2 : Nat} {e1 e2 : TypeId} {s1 s2 : Nat} {v1 v2 : Value} {n1 n2 : Nat} {c1 c2 : List Value} (h1 : w.ownsRow b1 e1 s1 v1 n1 c1) (h2 : w.ownsRow b2 e2 s2 v2 n2 c2) (hne : e1 ≠ e2) : ∀ b, v1.ownBlock = some b → v2.ownBlock ≠ some b := by
  rcases h1.2 with ⟨rfl, _⟩ | ⟨g, cap, cur, rfl, hb, hg, _⟩
  · intro b hb; simp [Value.ownBlock] at hb
  · intro b hb hb2
    have e : g = b := Option.some.inj hb
    subst e
    rcases h2.2 with ⟨rfl, _⟩ | ⟨g', cap', cur', rfl, hb', hg', _⟩
    · simp [Value.ownBlock] at hb2
    · have e : g' = g := Option.some.inj hb2
      subst e
      rw [hg] at hg'
      simp at hg'
      exact hne hg'.2

/-- Rows of ints. -/
def IntRow : RowK (List Int) where
  own := OI
  chg := fun h hc hs => OI.chg h hc hs
  lt := fun h => OI.lt h
  wide := fun h hl => ⟨own_wide h.1 hl, h.2⟩

end Go.Proofs.Ytpfekeflkmafcaa
