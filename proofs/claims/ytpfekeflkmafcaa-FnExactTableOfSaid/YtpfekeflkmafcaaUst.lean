/-
  As wp_region_use; the state of the region knows WHICH of the operations are done.
-/
import Derived.Test.YtpfekeflkmafcaaUse
namespace Go.Proofs.Ytpfekeflkmafcaa
open Go.RowKit

theorem bool_or {a b : Bool} {i j : Nat} (h : a = true ↔ (b = true ∨ j = i)) : a = (b || j == i) := by
  by_cases e : j = i
  · subst e
    rw [h.2 (.inr rfl)]; simp
  · have e2 : (j == i) = false := by simpa using e
    rw [e2, Bool.or_false]
    cases b with
    | true => exact h.2 (.inl rfl)
    | false =>
      cases a with
      | false => rfl
      | true => exact absurd (h.1 rfl) (by simp [e])

section
variable {P : Program} {l : List Oper} {a : Act} {Q : Exit → Act → World → Prop} (J : (Nat → Bool) → World → Prop) (S : Nat → World → World → Prop) (φ : Nat → Value → World → Prop) (c : Nat → Option Nat)

theorem wpAny_set (hB : freeB l = true) (hS : ∀ i j v w w', i ≠ j → gone l c i j = false → S j w w' → φ i v w → φ i v w')
    (hop : ∀ i o, l[i]? = some o → ∀ V D w', D i = false → (∀ x, D x = true → ∀ m ∈ ancOf l l.length x, D m = true) → J D w' → (∀ e ∈ o.after, Region.binds .any e = true → (c e.on = none ∨ c e.on = some i) → φ e.on (V e.on) w') → Frees P o (frameOf l a V i).eval w' (fun v w'' => φ i v w'' ∧ S i w' w'' ∧ J (fun j => D j || j == i) w''))
    (hend : ∀ V D w', (∀ i, i < l.length → D i = true) → J D w' → (∀ i, i < l.length → c i = none → φ i (V i) w') → Q .normal (frameOf l a V l.length) w') :
    ∀ (fuel : Nat) (listed : Array Bool) (V : Nat → Value) (b : Act) (w : World), listed.size = l.length → J (fun j => listed.getD j false) w →
      Held l a V (fun i => listed.getD i false = true) b →
      (∀ i, listed.getD i false = true → (∀ j, c i = some j → listed.getD j false = false) → φ i (V i) w) →
      (∀ i o, l[i]? = some o → listed.getD i false = true → ∀ e ∈ o.after, Region.binds .any e = true → listed.getD e.on false = true) →
      (unlisted l.length listed).length = fuel →
      wpAny P .any l.toArray Q fuel listed b w := by
  intro fuel
  have all : ∀ (listed : Array Bool), listed.size = l.length → Region.ready .any l.toArray listed = [] → ∀ i, i < l.length → listed.getD i false = true := by
    intro listed hsz hr i
    induction i using Nat.strongRecOn with
    | ind i ih =>
      intro hi
      cases hl : listed.getD i false with
      | true => rfl
      | false =>
        exfalso
        have ho : l[i]? = some l[i] := by simp
        have : i ∈ Region.ready .any l.toArray listed := by
          unfold Region.ready
          refine List.mem_filter.2 ⟨by simpa using hi, ?_⟩
          have h1 : listed.getD i true = false := by
            have hb : i < listed.size := by omega
            simp [Array.getD, hb] at hl ⊢
            exact hl
          have h2 : l.toArray[i]? = some l[i] := by simp [hi]
          simp only [h1, h2, Bool.not_false, Option.map_some, Option.getD_some, Bool.true_and, Array.all_eq_true']
          intro e he
          cases hb : Region.binds .any e with
          | false => rfl
          | true =>
            have := (freeB_spec hB ho).2.1 e he hb
            simp [ih e.on this (by omega)]
        rw [hr] at this
        exact absurd this (by simp)
  have fin : ∀ (listed : Array Bool) (V : Nat → Value) (b : Act) (w : World), J (fun j => listed.getD j false) w → Held l a V (fun i => listed.getD i false = true) b →
      (∀ i, listed.getD i false = true → (∀ j, c i = some j → listed.getD j false = false) → φ i (V i) w) → (∀ i, i < l.length → listed.getD i false = true) → Q .normal b w := by
    intro listed V b w hJ hH hφ hall
    have e : b = frameOf l a V l.length := hH.eq (held_frameOf hB a V l.length (Nat.le_refl _)) (fun i hi => ⟨fun _ => hi, fun _ => hall i hi⟩)
    rw [e]
    exact hend V _ w hall hJ (fun i hi hc => hφ i (hall i hi) (fun j hj => by rw [hc] at hj; cases hj))
  induction fuel with
  | zero =>
    intro listed V b w hsz hJ hH hφ hcl hz
    have hall := unlisted_nil hz
    refine ⟨?_, fin listed V b w hJ hH hφ hall⟩
    cases hr : Region.ready .any l.toArray listed with
    | nil => rfl
    | cons i r =>
      exfalso
      have hi : i ∈ Region.ready .any l.toArray listed := by rw [hr]; simp
      unfold Region.ready at hi
      obtain ⟨h1, h2⟩ := List.mem_filter.1 hi
      have h3 : i < l.length := by simpa using h1
      have h4 := hall i h3
      have hb : i < listed.size := by omega
      simp [Array.getD, hb] at h2 h4
      rw [h4] at h2
      simp at h2
  | succ fuel ih =>
    intro listed V b w hsz hJ hH hφ hcl hz
    refine ⟨fun hr => fin listed V b w hJ hH hφ (all listed hsz hr), fun i hi => ?_⟩
    unfold Region.ready at hi
    obtain ⟨h1, h2⟩ := List.mem_filter.1 hi
    have h3 : i < l.length := by simpa using h1
    have ho : l[i]? = some l[i] := by simp
    have hoA : l.toArray[i]? = some l[i] := by simp [h3]
    have hb : i < listed.size := by omega
    simp only [hoA, Option.map_some, Option.getD_some, Bool.and_eq_true, Bool.not_eq_true', Array.all_eq_true', Bool.or_eq_true] at h2
    have hli : listed.getD i false = false := by
      have := h2.1
      simp [Array.getD, hb] at this ⊢
      exact this
    have hdeps : ∀ e ∈ (l[i]).after, Region.binds .any e = true → listed.getD e.on false = true := fun e he hbd => by
      have := h2.2 e he
      rcases this with h | h
      · rw [hbd] at h; exact absurd h (by decide)
      · exact h
    have memd : ∀ x o, l[x]? = some o → ∀ e ∈ depsOf l x, ∃ d ∈ o.after, Region.binds .any d = true ∧ d.on = e := by
      intro x o hx e he
      simp only [depsOf, hx, List.mem_map, List.mem_filter] at he
      obtain ⟨d, ⟨hd1, hd2⟩, rfl⟩ := he
      exact ⟨d, by simpa using hd1, hd2, rfl⟩
    have hclL : ∀ x, listed.getD x false = true → ∀ e ∈ depsOf l x, listed.getD e false = true := fun x hx e he => by
      have hxl : x < l.length := by
        rcases Nat.lt_or_ge x listed.size with h | h
        · omega
        · simp [Array.getD_eq_getD_getElem?, Array.getElem?_eq_none h] at hx
      have hxo : l[x]? = some l[x] := by simp
      obtain ⟨d, hd1, hd2, rfl⟩ := memd x _ hxo e he
      exact hcl x _ hxo hx d hd1 hd2
    have hancL : ∀ x, listed.getD x false = true → ∀ m ∈ ancOf l l.length x, listed.getD m false = true := fun x hx =>
      anc_listed (L := fun x => listed.getD x false = true) hclL l.length x (hclL x hx)
    have hanc : ∀ m ∈ ancOf l l.length i, listed.getD m false = true :=
      anc_listed (L := fun x => listed.getD x false = true) hclL l.length i (fun e he => by
        obtain ⟨d, hd1, hd2, rfl⟩ := memd i _ ho e he
        exact hdeps d hd1 hd2)
    obtain ⟨sp1, sp2, sp3, sp4⟩ := freeB_spec hB ho
    unfold wpOp
    rw [hoA]
    simp only []
    have hw : Region.wanted l[i] (yielded l.toArray b.tmps) = true := by simp [Region.wanted, sp1]
    rw [if_pos hw]
    left
    have hfr := hop i l[i] ho V _ w hli hancL hJ (fun e he hbd hce => hφ e.on (hdeps e he hbd) (fun j hj => by
      rcases hce with h | h
      · rw [h] at hj; cases hj
      · rw [h] at hj; cases hj; exact hli))
    have hHi := held_frameOf hB a V i (by omega)
    have hcg : ∀ x ∈ (l[i]).op.operands, b.eval x = (frameOf l a V i).eval x := by
      intro x hx
      cases x with
      | tmp t =>
        have key : b.tmps[t]? = (frameOf l a V i).tmps[t]? := by
          refine hH.agree hHi t (fun j p hj hp => ?_)
          rcases (sp4 j p t hj hp).2 hx with ⟨g1, e, ge, gb, rfl⟩ | ⟨g1, e, ge, gb, gi⟩
          · exact ⟨fun _ => g1, fun _ => hdeps e ge gb⟩
          · refine ⟨fun hl => ?_, fun hl => absurd hl (by show ¬ j < i; omega)⟩
            have := hcl j p hj hl e ge gb
            rw [gi, hli] at this
            exact absurd this (by decide)
        simp only [Act.eval]
        simp only [Array.getD_eq_getD_getElem?, key]
      | _ => rfl
    refine (hfr.congr sp3 hcg).wp fun v w' hR => ?_
    obtain ⟨r1, r2, r3⟩ := hR
    have hset : ∀ j, (listed.setIfInBounds i true).getD j false = true ↔ (listed.getD j false = true ∨ j = i) := by
      intro j
      by_cases e : j = i
      · subst e; simp [Array.getD_eq_getD_getElem?, hb]
      · have e' : i ≠ j := fun h => e h.symm
        simp [Array.getD_eq_getD_getElem?, Array.getElem?_setIfInBounds_ne e', e]
    have hfun : (fun j => (listed.setIfInBounds i true).getD j false) = fun j => listed.getD j false || j == i := by
      funext j
      exact bool_or (hset j)
    refine ih (listed.setIfInBounds i true) (fun j => if j = i then v else V j) (b.put (l[i]).dst v) w' (by simpa using hsz) (by rw [hfun]; exact r3) ?_ ?_ ?_ ?_
    · have := hH.put (V' := fun j => if j = i then v else V j) hB ho (L' := fun j => (listed.setIfInBounds i true).getD j false = true) (by rw [hli]; decide) (fun j hj => by simp [hj]) hset
      simpa using this
    · intro j hj hcj
      rcases (hset j).1 hj with h | rfl
      · have hne : j ≠ i := by rintro rfl; rw [hli] at h; exact absurd h (by decide)
        simp only [hne, if_false]
        have hnl : ∀ m, c j = some m → ¬ (listed.getD m false = true ∨ m = i) := fun m hm hx => by
          have := hcj m hm
          rw [(hset m).2 hx] at this
          cases this
        refine hS j i _ _ _ hne ?_ r2 (hφ j h (fun m hm => ?_))
        · have hy : (ancOf l l.length j).contains i = false := by
            cases hx : (ancOf l l.length j).contains i with
            | false => rfl
            | true =>
              have := hancL j h i (by simpa using hx)
              rw [hli] at this
              cases this
          unfold gone
          rw [hy, Bool.or_false]
          cases hc : c j with
          | none => rfl
          | some m =>
            simp only [Bool.or_eq_false_iff, beq_eq_false_iff_ne]
            refine ⟨fun e => hnl m hc (.inr e), ?_⟩
            cases hx : (ancOf l l.length i).contains m with
            | false => rfl
            | true => exact absurd (.inl (hanc m (by simpa using hx))) (hnl m hc)
        · cases hx : listed.getD m false with
          | false => rfl
          | true => exact absurd (.inl hx) (hnl m hm)
      · simpa using r1
    · intro j p hj hl e he hbd
      rcases (hset j).1 hl with h | rfl
      · exact (hset _).2 (.inl (hcl j p hj h e he hbd))
      · rw [ho] at hj; cases hj
        exact (hset _).2 (.inl (hdeps e he hbd))
    · have := unlisted_set h3 hb hli
      omega

/-- The region, in whatever order. -/
theorem wp_region_set {id : Nat} {w : World} (hm : P.follows .mixedOrders = true) (hB : freeB l = true) (hS : ∀ i j v w w', i ≠ j → gone l c i j = false → S j w w' → φ i v w → φ i v w') (h0 : J (fun _ => false) { w with drawn := w.drawn + 1 })
    (hop : ∀ i o, l[i]? = some o → ∀ V D w', D i = false → (∀ x, D x = true → ∀ m ∈ ancOf l l.length x, D m = true) → J D w' → (∀ e ∈ o.after, Region.binds .any e = true → (c e.on = none ∨ c e.on = some i) → φ e.on (V e.on) w') → Frees P o (frameOf l a V i).eval w' (fun v w'' => φ i v w'' ∧ S i w' w'' ∧ J (fun j => D j || j == i) w''))
    (hend : ∀ V D w', (∀ i, i < l.length → D i = true) → J D w' → (∀ i, i < l.length → c i = none → φ i (V i) w') → Q .normal (frameOf l a V l.length) w') : (Code.region id l.toArray true).wp P Q a w := by
  refine wp_region_any hm ?_
  have hsz : l.toArray.size = l.length := by simp
  have hfalse : ∀ i, (Array.replicate l.length false).getD i false = true → False := fun i h => by
    simp [Array.getD_eq_getD_getElem?, Array.getElem?_replicate] at h
    split at h <;> simp at h
  rw [hsz]
  have hfun : (fun j => (Array.replicate l.length false).getD j false) = fun _ => false := by
    funext j
    cases h : (Array.replicate l.length false).getD j false with
    | false => rfl
    | true => exact (hfalse j h).elim
  refine wpAny_set J S φ c hB hS hop hend l.length (Array.replicate l.length false) (fun _ => undef) a _ (by simp) (by rw [hfun]; exact h0) ⟨rfl, rfl, fun i o d _ h => (hfalse i h).elim, fun d _ => rfl⟩ (fun i h _ => (hfalse i h).elim) (fun i o _ h => (hfalse i h).elim) ?_
  have : unlisted l.length (Array.replicate l.length false) = List.range l.length := by
    unfold unlisted
    rw [List.filter_eq_self]
    intro i hi
    have : (Array.replicate l.length false).getD i false = false := by
      cases h : (Array.replicate l.length false).getD i false with
      | false => rfl
      | true => exact (hfalse i h).elim
    rw [this]; rfl
  rw [this, List.length_range]
end


end Go.Proofs.Ytpfekeflkmafcaa
