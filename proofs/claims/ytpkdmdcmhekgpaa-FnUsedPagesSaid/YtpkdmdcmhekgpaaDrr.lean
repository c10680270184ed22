/-
  A region of a draw, in whatever order: reads, picks, literals, and stores into boxes whose contents are known ahead.
-/
import Derived.Test.YtpkdmdcmhekgpaaRdh
import Derived.Test.YtpkdmdcmhekgpaaUst
import Derived.Test.YtpkdmdcmhekgpaaTab
namespace Go.Proofs.Ytpkdmdcmhekgpaa
open Go.RowKit
variable {H : Nat}

/-- How many operations are done. -/
def dn (D : Nat → Bool) : Nat := (List.range 64).countP D
theorem dn_le (D : Nat → Bool) : dn D ≤ 64 := by
  have := List.countP_le_length (p := D) (l := List.range 64)
  simpa [dn] using this
theorem countP_or (D : Nat → Bool) (i : Nat) (hD : D i = false) : ∀ (l : List Nat), l.Nodup → l.countP (fun j => D j || j == i) = l.countP D + (if i ∈ l then 1 else 0)
  | [], _ => rfl
  | a :: l, hl => by
    obtain ⟨h1, h2⟩ := List.nodup_cons.1 hl
    rw [List.countP_cons, List.countP_cons, countP_or D i hD l h2]
    by_cases e : a = i
    · subst e
      simp [hD, h1]
    · have e' : ¬ i = a := fun h => e h.symm
      simp [e, e']
      omega
theorem dn_step (D : Nat → Bool) {i : Nat} (hD : D i = false) (hi : i < 64) : dn (fun j => D j || j == i) = dn D + 1 := by
  unfold dn
  rw [countP_or D i hD _ List.nodup_range]
  simp [hi]

/-- What an operation does to memory. -/
inductive Eff where
  | keep
  | pick
  | put (B : Nat) (o : Obj)

def effS (rb : Nat) : Eff → Nat → Prop
  | .keep, _ => False
  | .pick, b => b = rb
  | .put B _, b => b = B
/-- The blocks that the region turns. -/
def effT (rb : Nat) (E : List Eff) (b : Nat) : Prop := b = rb ∨ ∃ B o, Eff.put B o ∈ E ∧ b = B
/-- The boxes behind the operations in D. -/
def effB (E : List Eff) (wo : World) (D : Nat → Bool) (w' : World) : Prop :=
  ∀ (i B : Nat) (o : Obj), E[i]? = some (.put B o) → w'.heap[B]? = if D i = true then some o else wo.heap[B]?

theorem effS_T {rb : Nat} {E : List Eff} {i : Nat} {e : Eff} (h : E[i]? = some e) {b : Nat} (hb : effS rb e b) : effT rb E b := by
  cases e with
  | keep => exact hb.elim
  | pick => exact .inl hb
  | put B o => exact .inr ⟨B, o, List.mem_of_getElem? h, hb⟩
/-- The boxes lie behind the reader, and no two stores go into one. -/
structure EffOk (H rb L : Nat) (E : List Eff) : Prop where
  lt : ∀ (i B : Nat) (o : Obj), E[i]? = some (Eff.put B o) → H ≤ B ∧ B ≠ rb ∧ B < L
  ne : ∀ (i j B : Nat) (o o' : Obj), i ≠ j → E[i]? = some (Eff.put B o) → E[j]? = some (Eff.put B o') → False

theorem effB_step {rb : Nat} {E : List Eff} {wo w' w'' : World} {D : Nat → Bool} {i : Nat} {e : Eff} (hE : E[i]? = some e) (hok : EffOk H rb wo.heap.size E) (hz : wo.heap.size ≤ w'.heap.size) (hc : Chg (effS rb e) w' w'')
    (hp : ∀ B o, e = Eff.put B o → w''.heap[B]? = some o) (h : effB E wo D w') : effB E wo (fun j => D j || j == i) w'' := by
  intro j B o hj
  by_cases e1 : j = i
  · subst e1
    rw [hE] at hj
    cases hj
    simp [hp B o rfl]
  · have hB := hok.lt j B o hj
    have hb : ¬ effS rb e B := by
      intro hb
      cases e with
      | keep => exact hb
      | pick => have hb' : B = rb := hb; omega
      | put B' o' =>
        have hb' : B = B' := hb
        subst hb'
        exact hok.ne j i B o o' e1 hj hE
    rw [hc.block B (by omega) hb, h j B o hj]
    have e2 : (j == i) = false := by simpa using e1
    simp only [e2, Bool.or_false]

section
variable {P : Program} {l : List Oper} {a : Act} {Q : Exit → Act → World → Prop} (rb m : Nat) (E : List Eff) (φs : List (SP (effT rb E)))

/-- The region, in whatever order: each operation by its word and by what it does to memory. -/
theorem wp_region_dr {id : Nat} {w : World} (hm : P.follows .mixedOrders = true) (hB : freeB l = true) (hl : l.length ≤ 64) (hEl : E.length = l.length) (hr : RdLe H w rb m) (hok : EffOk H rb w.heap.size E)
    (hop : ∀ (i : Nat) (o : Oper) (e : Eff), l[i]? = some o → E[i]? = some e → ∀ V n w', n ≤ 64 → Chg (effT rb E) w w' → RdLe H w' rb (m + n) → (∀ B ob, e = Eff.put B ob → w'.heap[B]? = w.heap[B]?) → (∀ e ∈ o.after, Region.binds .any e = true → Phi φs e.on (V e.on) w') →
      Frees P o (frameOf l a V i).eval w' (fun v w'' => Phi φs i v w'' ∧ Chg (effS rb e) w' w'' ∧ RdLe H w'' rb (m + n + 1) ∧ ∀ B ob, e = Eff.put B ob → w''.heap[B]? = some ob))
    (hend : ∀ V w', Chg (effT rb E) w w' → RdLe H w' rb (m + 64) → (∀ (i B : Nat) (ob : Obj), E[i]? = some (Eff.put B ob) → w'.heap[B]? = some ob) → (∀ i, i < l.length → Phi φs i (V i) w') → Q .normal (frameOf l a V l.length) w') : (Code.region id l.toArray true).wp P Q a w := by
  refine wp_region_set (fun D w' => Chg (effT rb E) w w' ∧ RdLe H w' rb (m + dn D) ∧ effB E w D w') (fun i w' w'' => Chg (effT rb E) w' w'') (fun i v w' => Phi φs i v w') (fun _ => none) hm hB ?_ ⟨(Chg.refl _ _).drew, (hr.kept (bdrew _)).up (by omega), fun i B o hi => rfl⟩ ?_ ?_
  · intro i j v w1 w2 _ _ hc h
    unfold Phi at *
    split
    · rename_i s hs; rw [hs] at h; exact s.st v _ _ hc h
    · trivial
  · intro i o hi V D w' hD _ ⟨h1, h2, h3⟩ hd
    have hil := (List.getElem?_eq_some_iff.1 hi).1
    have hE : E[i]? = some (E[i]'(by omega)) := by simp [hEl, hil]
    generalize E[i]'(by omega) = e at hE
    have := hop i o e hi hE V (dn D) w' (dn_le D) h1 h2 (fun B ob he => by rw [h3 i B ob (by rw [hE, he])]; simp [hD]) (fun e he hb => hd e he hb (.inl rfl))
    have fin : ∀ v w'', (Phi φs i v w'' ∧ Chg (effS rb e) w' w'' ∧ RdLe H w'' rb (m + dn D + 1) ∧ ∀ B ob, e = Eff.put B ob → w''.heap[B]? = some ob) →
        Phi φs i v w'' ∧ Chg (effT rb E) w' w'' ∧ Chg (effT rb E) w w'' ∧ RdLe H w'' rb (m + dn fun j => D j || j == i) ∧ effB E w (fun j => D j || j == i) w'' := by
      rintro v w'' ⟨g1, g2, g3, g4⟩
      have g2' : Chg (effT rb E) w' w'' := g2.mono fun k _ hk => effS_T hE hk
      refine ⟨g1, g2', h1.trans g2', ?_, effB_step hE hok h1.size g2 g4 h3⟩
      rw [dn_step D hD (by omega)]
      exact g3
    unfold Frees at this ⊢
    split at this
    · exact fin _ _ this
    · exact fin _ _ this
    · exact this.mono fun e w'' he => by
        obtain ⟨v, rfl, g⟩ := he
        exact ⟨v, rfl, fin _ _ g⟩
    · exact this
  · intro V D w' hD ⟨h1, h2, h3⟩ hφ
    refine hend V w' h1 (h2.up (by have := dn_le D; omega)) (fun i B ob hi => ?_) (fun i hi => hφ i hi rfl)
    have hil : i < E.length := (List.getElem?_eq_some_iff.1 hi).1
    rw [h3 i B ob hi, if_pos (hD i (by omega))]
end
end Go.Proofs.Ytpkdmdcmhekgpaa
