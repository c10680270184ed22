/-
  A region that draws its order, whose operations need not read alone: each operation hands back a value of which a word holds that no other operation of the region breaks. Then every order serves.
-/
import Derived.Test.YtpfekeflkmafcaaLib
import Derived.Orders
namespace Go.Proofs.Ytpfekeflkmafcaa
open Go.RowKit

/-- What an operation yields under ρ in the world w. -/
@[irreducible] def Frees (P : Program) (o : Oper) (ρ : Operand → Value) (w : World) (R : Value → World → Prop) : Prop :=
  match (execOp ρ o).run P w with
  | .ok (.value v) w' => R v w'
  | .ok .skip w' => R undef w'
  | .ok (.enter f args) w' => Calls P f args w' fun e w'' => ∃ v, e = .returned v ∧ R v w''
  | _ => False

theorem Frees.wp {P : Program} {o : Oper} {a : Act} {w : World} {R : Value → World → Prop} {K : Act → World → Prop} {Q : Exit → Act → World → Prop}
    (h : Frees P o a.eval w R) (hK : ∀ v w', R v w' → K (a.put o.dst v) w') : o.wp P a w K Q := by
  unfold Frees at h
  unfold Oper.wp
  generalize (execOp a.eval o).run P w = r at *
  cases r with
  | ok n w' =>
    cases n <;> simp only [Oper.upon] at h ⊢ <;>
      first
        | exact hK _ _ h
        | exact Calls.mono h (fun e w'' he => by obtain ⟨v, rfl, hr⟩ := he; exact hK _ _ hr)
        | exact h.elim
  | halt x w' => exact h.elim

theorem Frees.congr {P : Program} {o : Oper} {ρ ρ' : Operand → Value} {w : World} {R : Value → World → Prop} (hs : ∀ cs b, o.op ≠ .select cs b) (he : ∀ x ∈ o.op.operands, ρ x = ρ' x)
    (h : Frees P o ρ' w R) : Frees P o ρ w R := by
  unfold Frees at *
  rwa [execOp_congr o hs he]

/-- The frame behind the first i operations. -/
def frameOf (ops : List Oper) (a : Act) (V : Nat → Value) : Nat → Act
  | 0 => a
  | i + 1 => match ops[i]? with
    | some o => (frameOf ops a V i).put o.dst (V i)
    | none => frameOf ops a V i

/-- Edges lead back; no guards; a slot that an operation looks at is written ahead of it, by an edge, or behind it, by an edge; no two write one slot. -/
def freeB (ops : List Oper) : Bool :=
  ops.zipIdx.all fun (o, i) =>
    o.guard.isNone && o.after.all (fun e => !Region.binds .any e || decide (e.on < i)) && (match o.op with | .select .. => false | _ => true) &&
    ops.zipIdx.all fun (p, j) =>
      (match p.dst with
       | none => true
       | some d => (i == j || o.dst != some d) &&
          (!(o.op.operands.toList.any fun x => match x with | .tmp t => t == d | _ => false) ||
           (decide (j < i) && o.after.any (fun e => Region.binds .any e && e.on == j)) || (decide (i < j) && p.after.any (fun e => Region.binds .any e && e.on == i))))

theorem freeB_spec {ops : List Oper} (h : freeB ops = true) {i : Nat} {o : Oper} (hi : ops[i]? = some o) :
    o.guard = none ∧ (∀ e ∈ o.after, Region.binds .any e = true → e.on < i) ∧ (∀ cs b, o.op ≠ .select cs b) ∧
    ∀ j p d, ops[j]? = some p → p.dst = some d → (i ≠ j → o.dst ≠ some d) ∧
      (Operand.tmp d ∈ o.op.operands → (j < i ∧ ∃ e ∈ o.after, Region.binds .any e = true ∧ e.on = j) ∨ (i < j ∧ ∃ e ∈ p.after, Region.binds .any e = true ∧ e.on = i)) := by
  have hmem : ∀ {j : Nat} {p : Oper}, ops[j]? = some p → (p, j) ∈ ops.zipIdx := fun hj => List.mem_zipIdx_iff_getElem?.2 hj
  unfold freeB at h
  rw [List.all_eq_true] at h
  have h1 := h _ (hmem hi)
  simp only [Bool.and_eq_true, Option.isNone_iff_eq_none, List.all_eq_true, Array.all_eq_true'] at h1
  obtain ⟨⟨⟨g1, g2⟩, g3⟩, g4⟩ := h1
  refine ⟨g1, fun e he hb => ?_, fun cs b hc => ?_, fun j p d hj hd => ?_⟩
  · have := g2 e he
    simp only [Bool.or_eq_true, Bool.not_eq_true', decide_eq_true_eq] at this
    rcases this with h | h
    · rw [hb] at h; exact absurd h (by decide)
    · exact h
  · rw [hc] at g3; simp at g3
  · have := g4 _ (hmem hj)
    simp only [hd] at this
    simp only [Bool.and_eq_true, Bool.or_eq_true, beq_iff_eq, bne_iff_ne, ne_eq, Bool.not_eq_true', decide_eq_true_eq] at this
    refine ⟨fun hne => this.1.resolve_left hne, fun hx => ?_⟩
    rcases this.2 with (h | ⟨h, h'⟩) | ⟨h, h'⟩
    · exfalso
      have : (o.op.operands.toList.any fun x => match x with | .tmp t => t == d | _ => false) = true := List.any_eq_true.2 ⟨.tmp d, by simpa using hx, by simp⟩
      rw [h] at this; exact absurd this (by decide)
    · left
      obtain ⟨e, he, h2⟩ := Array.any_eq_true'.1 h'
      simp only [Bool.and_eq_true, beq_iff_eq] at h2
      exact ⟨h, e, he, h2.1, h2.2⟩
    · right
      obtain ⟨e, he, h2⟩ := Array.any_eq_true'.1 h'
      simp only [Bool.and_eq_true, beq_iff_eq] at h2
      exact ⟨h, e, he, h2.1, h2.2⟩

/-- The frame at hand: what is listed is written, nothing else is. -/
structure Held (ops : List Oper) (a : Act) (V : Nat → Value) (L : Nat → Prop) (b : Act) : Prop where
  size : b.tmps.size = a.tmps.size
  defers : b.defers = a.defers
  wrote : ∀ i o d, ops[i]? = some o → L i → o.dst = some d → b.tmps[d]? = (a.tmps.setIfInBounds d (V i))[d]?
  kept : ∀ d, (∀ i o, ops[i]? = some o → L i → o.dst ≠ some d) → b.tmps[d]? = a.tmps[d]?

theorem Held.agree {ops : List Oper} {a : Act} {V : Nat → Value} {L L' : Nat → Prop} {b b' : Act} (h : Held ops a V L b) (h' : Held ops a V L' b') (d : Nat)
    (hd : ∀ i o, ops[i]? = some o → o.dst = some d → (L i ↔ L' i)) : b.tmps[d]? = b'.tmps[d]? := by
  by_cases hw : ∃ i o, ops[i]? = some o ∧ L i ∧ o.dst = some d
  · obtain ⟨i, o, hi, hl, ho⟩ := hw
    rw [h.wrote i o d hi hl ho, h'.wrote i o d hi ((hd i o hi ho).1 hl) ho]
  · rw [h.kept d (fun i o hi hl ho => hw ⟨i, o, hi, hl, ho⟩), h'.kept d (fun i o hi hl ho => hw ⟨i, o, hi, (hd i o hi ho).2 hl, ho⟩)]

/-- One operation more. -/
theorem Held.put {ops : List Oper} {a : Act} {V V' : Nat → Value} {L L' : Nat → Prop} {b : Act} (hB : freeB ops = true) (h : Held ops a V L b) {i : Nat} {o : Oper} (hi : ops[i]? = some o) (hli : ¬ L i)
    (hV : ∀ j, j ≠ i → V' j = V j) (hL : ∀ j, L' j ↔ (L j ∨ j = i)) : Held ops a V' L' (b.put o.dst (V' i)) := by
  have hs := (freeB_spec hB hi).2.2.2
  cases hd : o.dst with
  | none =>
    refine ⟨h.size, h.defers, fun j p d hj hl hp => ?_, fun d hk => h.kept d (fun j p hj hl => hk j p hj ((hL j).2 (.inl hl)))⟩
    rcases (hL j).1 hl with hl | rfl
    · rw [hV j (by rintro rfl; exact hli hl)]; exact h.wrote j p d hj hl hp
    · rw [hi] at hj; cases hj; rw [hd] at hp; cases hp
  | some t =>
    refine ⟨by simp [Act.put, h.size], h.defers, fun j p d hj hl hp => ?_, fun d hk => ?_⟩
    · by_cases e : j = i
      · subst e
        rw [hi] at hj; cases hj; rw [hd] at hp; cases hp
        simp [Act.put, Array.getElem?_setIfInBounds, h.size]
      · have hne : t ≠ d := fun he => (hs j p d hj hp).1 (fun e' => e e'.symm) (by rw [hd, he])
        have hl' : L j := ((hL j).1 hl).resolve_right e
        simp only [Act.put, Array.getElem?_setIfInBounds_ne hne]
        rw [hV j e]; exact h.wrote j p d hj hl' hp
    · have hne : t ≠ d := fun he => hk i o hi ((hL i).2 (.inr rfl)) (by rw [hd, he])
      simp only [Act.put, Array.getElem?_setIfInBounds_ne hne]
      exact h.kept d (fun j p hj hl => hk j p hj ((hL j).2 (.inl hl)))

theorem held_frameOf {ops : List Oper} (hB : freeB ops = true) (a : Act) (V : Nat → Value) : ∀ i, i ≤ ops.length → Held ops a V (fun j => j < i) (frameOf ops a V i)
  | 0, _ => ⟨rfl, rfl, fun _ _ _ _ h => absurd h (Nat.not_lt_zero _), fun _ _ => rfl⟩
  | i + 1, hi => by
    have ih := held_frameOf hB a V i (by omega)
    have ho : ops[i]? = some ops[i] := by simp
    simp only [frameOf, ho]
    exact ih.put hB ho (Nat.lt_irrefl i) (fun _ _ => rfl) (fun j => by show j < i + 1 ↔ j < i ∨ j = i; omega)

theorem Held.eq {ops : List Oper} {a : Act} {V : Nat → Value} {L L' : Nat → Prop} {b b' : Act} (h : Held ops a V L b) (h' : Held ops a V L' b') (hL : ∀ i, i < ops.length → (L i ↔ L' i)) : b = b' := by
  have ht : b.tmps = b'.tmps := by
    apply Array.ext (by rw [h.size, h'.size])
    intro i h1 h2
    have := h.agree h' i (fun j o hj _ => hL j (List.getElem?_eq_some_iff.1 hj).1)
    rw [Array.getElem?_eq_getElem h1, Array.getElem?_eq_getElem h2] at this
    exact Option.some.inj this
  have hd : b.defers = b'.defers := h.defers.trans h'.defers.symm
  cases b; cases b'; simp_all

/-- What is not listed yet. -/
def unlisted (n : Nat) (listed : Array Bool) : List Nat := (List.range n).filter fun i => !listed.getD i false
theorem unlisted_nil {n : Nat} {listed : Array Bool} (h : (unlisted n listed).length = 0) : ∀ i, i < n → listed.getD i false = true := by
  intro i hi
  cases hl : listed.getD i false with
  | true => rfl
  | false =>
    have : i ∈ unlisted n listed := List.mem_filter.2 ⟨by simpa using hi, by rw [hl]; rfl⟩
    rw [List.length_eq_zero_iff.1 h] at this
    exact absurd this (by simp)
theorem unlisted_set {n : Nat} {listed : Array Bool} {i : Nat} (hi : i < n) (hb : i < listed.size) (hl : listed.getD i false = false) : (unlisted n (listed.setIfInBounds i true)).length + 1 = (unlisted n listed).length := by
  have e : unlisted n (listed.setIfInBounds i true) = (unlisted n listed).erase i := by
    have hnd : (unlisted n listed).Nodup := List.nodup_range.filter _
    rw [hnd.erase_eq_filter]
    unfold unlisted
    rw [List.filter_filter]
    refine List.filter_congr fun j _ => ?_
    by_cases e : j = i
    · subst e; simp [Array.getD_eq_getD_getElem?, hb]
    · have e' : i ≠ j := fun h => e h.symm
      simp [Array.getD_eq_getD_getElem?, Array.getElem?_setIfInBounds_ne e', e]
  have hm : i ∈ unlisted n listed := List.mem_filter.2 ⟨by simpa using hi, by rw [hl]; rfl⟩
  rw [e, List.length_erase_of_mem hm]
  have := List.length_pos_of_mem hm
  omega

section
variable {P : Program} {l : List Oper} {a : Act} {Q : Exit → Act → World → Prop} (J : Nat → World → Prop) (S : World → World → Prop) (φ : Nat → Value → World → Prop)

theorem wpAny_free (hB : freeB l = true) (hS : ∀ i v w w', S w w' → φ i v w → φ i v w')
    (hop : ∀ i o, l[i]? = some o → ∀ V k w', k < l.length → J k w' → (∀ e ∈ o.after, Region.binds .any e = true → φ e.on (V e.on) w') → Frees P o (frameOf l a V i).eval w' (fun v w'' => φ i v w'' ∧ S w' w'' ∧ J (k + 1) w''))
    (hend : ∀ V k w', k ≤ l.length → J k w' → (∀ i, i < l.length → φ i (V i) w') → Q .normal (frameOf l a V l.length) w') :
    ∀ (fuel k : Nat) (listed : Array Bool) (V : Nat → Value) (b : Act) (w : World), fuel + k = l.length → listed.size = l.length → J k w →
      Held l a V (fun i => listed.getD i false = true) b →
      (∀ i, listed.getD i false = true → φ i (V i) w) →
      (∀ i o, l[i]? = some o → listed.getD i false = true → ∀ e ∈ o.after, Region.binds .any e = true → listed.getD e.on false = true) →
      (unlisted l.length listed).length = fuel →
      wpAny P .any l.toArray Q fuel listed b w := by
  intro fuel
  have all : ∀ (listed : Array Bool), listed.size = l.length → Region.ready .any l.toArray listed = [] → ∀ i, i < l.length → listed.getD i false = true := by
    intro listed hsz hr i
    induction i using Nat.strongRecOn with
    | ind i ih =>
      intro hi
      cases hl : listed.getD i false with
      | true => rfl
      | false =>
        exfalso
        have ho : l[i]? = some l[i] := by simp
        have : i ∈ Region.ready .any l.toArray listed := by
          unfold Region.ready
          refine List.mem_filter.2 ⟨by simpa using hi, ?_⟩
          have h1 : listed.getD i true = false := by
            have hb : i < listed.size := by omega
            simp [Array.getD, hb] at hl ⊢
            exact hl
          have h2 : l.toArray[i]? = some l[i] := by simp [hi]
          simp only [h1, h2, Bool.not_false, Option.map_some, Option.getD_some, Bool.true_and, Array.all_eq_true']
          intro e he
          cases hb : Region.binds .any e with
          | false => rfl
          | true =>
            have := (freeB_spec hB ho).2.1 e he hb
            simp [ih e.on this (by omega)]
        rw [hr] at this
        exact absurd this (by simp)
  have fin : ∀ (k : Nat) (listed : Array Bool) (V : Nat → Value) (b : Act) (w : World), k ≤ l.length → J k w → Held l a V (fun i => listed.getD i false = true) b →
      (∀ i, listed.getD i false = true → φ i (V i) w) → (∀ i, i < l.length → listed.getD i false = true) → Q .normal b w := by
    intro k listed V b w hk hJ hH hφ hall
    have e : b = frameOf l a V l.length := hH.eq (held_frameOf hB a V l.length (Nat.le_refl _)) (fun i hi => ⟨fun _ => hi, fun _ => hall i hi⟩)
    rw [e]
    exact hend V k w hk hJ (fun i hi => hφ i (hall i hi))
  induction fuel with
  | zero =>
    intro k listed V b w hk hsz hJ hH hφ hcl hz
    have hall := unlisted_nil hz
    refine ⟨?_, fin k listed V b w (by omega) hJ hH hφ hall⟩
    cases hr : Region.ready .any l.toArray listed with
    | nil => rfl
    | cons i r =>
      exfalso
      have hi : i ∈ Region.ready .any l.toArray listed := by rw [hr]; simp
      unfold Region.ready at hi
      obtain ⟨h1, h2⟩ := List.mem_filter.1 hi
      have h3 : i < l.length := by simpa using h1
      have h4 := hall i h3
      have hb : i < listed.size := by omega
      simp [Array.getD, hb] at h2 h4
      rw [h4] at h2
      simp at h2
  | succ fuel ih =>
    intro k listed V b w hk hsz hJ hH hφ hcl hz
    refine ⟨fun hr => fin k listed V b w (by omega) hJ hH hφ (all listed hsz hr), fun i hi => ?_⟩
    unfold Region.ready at hi
    obtain ⟨h1, h2⟩ := List.mem_filter.1 hi
    have h3 : i < l.length := by simpa using h1
    have ho : l[i]? = some l[i] := by simp
    have hoA : l.toArray[i]? = some l[i] := by simp [h3]
    have hb : i < listed.size := by omega
    simp only [hoA, Option.map_some, Option.getD_some, Bool.and_eq_true, Bool.not_eq_true', Array.all_eq_true', Bool.or_eq_true] at h2
    have hli : listed.getD i false = false := by
      have := h2.1
      simp [Array.getD, hb] at this ⊢
      exact this
    have hdeps : ∀ e ∈ (l[i]).after, Region.binds .any e = true → listed.getD e.on false = true := fun e he hbd => by
      have := h2.2 e he
      rcases this with h | h
      · rw [hbd] at h; exact absurd h (by decide)
      · exact h
    obtain ⟨sp1, sp2, sp3, sp4⟩ := freeB_spec hB ho
    unfold wpOp
    rw [hoA]
    simp only []
    have hw : Region.wanted l[i] (yielded l.toArray b.tmps) = true := by simp [Region.wanted, sp1]
    rw [if_pos hw]
    left
    have hfr := hop i l[i] ho V k w (by omega) hJ (fun e he hbd => hφ e.on (hdeps e he hbd))
    have hHi := held_frameOf hB a V i (by omega)
    have hcg : ∀ x ∈ (l[i]).op.operands, b.eval x = (frameOf l a V i).eval x := by
      intro x hx
      cases x with
      | tmp t =>
        have key : b.tmps[t]? = (frameOf l a V i).tmps[t]? := by
          refine hH.agree hHi t (fun j p hj hp => ?_)
          rcases (sp4 j p t hj hp).2 hx with ⟨g1, e, ge, gb, rfl⟩ | ⟨g1, e, ge, gb, gi⟩
          · exact ⟨fun _ => g1, fun _ => hdeps e ge gb⟩
          · refine ⟨fun hl => ?_, fun hl => absurd hl (by show ¬ j < i; omega)⟩
            have := hcl j p hj hl e ge gb
            rw [gi, hli] at this
            exact absurd this (by decide)
        simp only [Act.eval]
        simp only [Array.getD_eq_getD_getElem?, key]
      | _ => rfl
    refine (hfr.congr sp3 hcg).wp fun v w' hR => ?_
    obtain ⟨r1, r2, r3⟩ := hR
    have hset : ∀ j, (listed.setIfInBounds i true).getD j false = true ↔ (listed.getD j false = true ∨ j = i) := by
      intro j
      by_cases e : j = i
      · subst e; simp [Array.getD_eq_getD_getElem?, hb]
      · have e' : i ≠ j := fun h => e h.symm
        simp [Array.getD_eq_getD_getElem?, Array.getElem?_setIfInBounds_ne e', e]
    refine ih (k + 1) (listed.setIfInBounds i true) (fun j => if j = i then v else V j) (b.put (l[i]).dst v) w' (by omega) (by simpa using hsz) r3 ?_ ?_ ?_ ?_
    · have := hH.put (V' := fun j => if j = i then v else V j) hB ho (L' := fun j => (listed.setIfInBounds i true).getD j false = true) (by rw [hli]; decide) (fun j hj => by simp [hj]) hset
      simpa using this
    · intro j hj
      rcases (hset j).1 hj with h | rfl
      · have hne : j ≠ i := by rintro rfl; rw [hli] at h; exact absurd h (by decide)
        simp only [hne, if_false]
        exact hS j _ _ _ r2 (hφ j h)
      · simpa using r1
    · intro j p hj hl e he hbd
      rcases (hset j).1 hl with h | rfl
      · exact (hset _).2 (.inl (hcl j p hj h e he hbd))
      · rw [ho] at hj; cases hj
        exact (hset _).2 (.inl (hdeps e he hbd))
    · have := unlisted_set h3 hb hli
      omega

/-- The region, in whatever order. -/
theorem wp_region_free {id : Nat} {w : World} (hm : P.follows .mixedOrders = true) (hB : freeB l = true) (hS : ∀ i v w w', S w w' → φ i v w → φ i v w') (h0 : J 0 { w with drawn := w.drawn + 1 })
    (hop : ∀ i o, l[i]? = some o → ∀ V k w', k < l.length → J k w' → (∀ e ∈ o.after, Region.binds .any e = true → φ e.on (V e.on) w') → Frees P o (frameOf l a V i).eval w' (fun v w'' => φ i v w'' ∧ S w' w'' ∧ J (k + 1) w''))
    (hend : ∀ V k w', k ≤ l.length → J k w' → (∀ i, i < l.length → φ i (V i) w') → Q .normal (frameOf l a V l.length) w') : (Code.region id l.toArray true).wp P Q a w := by
  refine wp_region_any hm ?_
  have hsz : l.toArray.size = l.length := by simp
  have hfalse : ∀ i, (Array.replicate l.length false).getD i false = true → False := fun i h => by
    simp [Array.getD_eq_getD_getElem?, Array.getElem?_replicate] at h
    split at h <;> simp at h
  rw [hsz]
  refine wpAny_free J S φ hB hS hop hend l.length 0 (Array.replicate l.length false) (fun _ => undef) a _ (by omega) (by simp) h0 ⟨rfl, rfl, fun i o d _ h => (hfalse i h).elim, fun d _ => rfl⟩ (fun i h => (hfalse i h).elim) (fun i o _ h => (hfalse i h).elim) ?_
  have : unlisted l.length (Array.replicate l.length false) = List.range l.length := by
    unfold unlisted
    rw [List.filter_eq_self]
    intro i hi
    have : (Array.replicate l.length false).getD i false = false := by
      cases h : (Array.replicate l.length false).getD i false with
      | false => rfl
      | true => exact (hfalse i h).elim
    rw [this]; rfl
  rw [this, List.length_range]

end
/-- A word on a value that stays true while blocks in T alone turn. -/
structure SP (T : Nat → Prop) where
  p : Value → World → Prop
  st : ∀ v w w', Chg T w w' → p v w → p v w'

namespace SP
variable {T : Nat → Prop}
def true : SP T := ⟨fun _ _ => True, fun _ _ _ _ _ => trivial⟩
def eq (v0 : Value) : SP T := ⟨fun v _ => v = v0, fun _ _ _ _ h => h⟩
def int (lo hi : Int) : SP T := ⟨fun v _ => ∃ x : Int, v = .int .i64 x ∧ lo ≤ x ∧ x ≤ hi, fun _ _ _ _ h => h⟩
/-- A literal of m ints between lo and hi. -/
def lit (m : Nat) (lo hi : Int) : SP T := ⟨fun v w => ∃ g, v = .slice (some ⟨g, 0, none⟩) m m ∧ ¬ T g ∧ ∀ j, j < m → ∃ x : Int, w.cell? ⟨g, j, none⟩ = some (.int .i64 x) ∧ lo ≤ x ∧ x ≤ hi,
  fun _ w _ hc ⟨g, h1, h2, h3⟩ => ⟨g, h1, h2, fun j hj => by
    obtain ⟨x, hx, hb⟩ := h3 j hj
    exact ⟨x, (hc.cell (p := ⟨g, j, none⟩) (World.block_lt_of_cell? w _ hx) h2).trans hx, hb⟩⟩⟩
/-- A pointer to an int between lo and hi. -/
def ptr (lo hi : Int) : SP T := ⟨fun v w => ∃ g j, v = .pointer (some ⟨g, j, none⟩) ∧ ¬ T g ∧ ∃ x : Int, w.cell? ⟨g, j, none⟩ = some (.int .i64 x) ∧ lo ≤ x ∧ x ≤ hi,
  fun _ w _ hc ⟨g, j, h1, h2, x, hx, hb⟩ => ⟨g, j, h1, h2, x, (hc.cell (p := ⟨g, j, none⟩) (World.block_lt_of_cell? w _ hx) h2).trans hx, hb⟩⟩
theorem int_elim {lo hi : Int} {v : Value} {w : World} (h : (SP.int (T := T) lo hi).p v w) : ∃ x : Int, v = .int .i64 x ∧ lo ≤ x ∧ x ≤ hi := h
theorem lit_elim {m : Nat} {lo hi : Int} {v : Value} {w : World} (h : (SP.lit (T := T) m lo hi).p v w) :
    ∃ g, v = .slice (some ⟨g, 0, none⟩) m m ∧ ¬ T g ∧ ∀ j, j < m → ∃ x : Int, w.cell? ⟨g, j, none⟩ = some (.int .i64 x) ∧ lo ≤ x ∧ x ≤ hi := h
theorem ptr_elim {lo hi : Int} {v : Value} {w : World} (h : (SP.ptr (T := T) lo hi).p v w) :
    ∃ g j, v = .pointer (some ⟨g, j, none⟩) ∧ ¬ T g ∧ ∃ x : Int, w.cell? ⟨g, j, none⟩ = some (.int .i64 x) ∧ lo ≤ x ∧ x ≤ hi := h
theorem eq_elim {v0 v : Value} {w : World} (h : (SP.eq (T := T) v0).p v w) : v = v0 := h
end SP

def Phi {T : Nat → Prop} (φs : List (SP T)) (i : Nat) (v : Value) (w : World) : Prop := match φs[i]? with | some s => s.p v w | none => True

section
variable {P : Program} {l : List Oper} {a : Act} {Q : Exit → Act → World → Prop} {T : Nat → Prop} (φs : List (SP T)) (J : Nat → World → Prop)

/-- The region, in whatever order: each operation by its word. -/
theorem wp_region_sp {id : Nat} {w : World} (hm : P.follows .mixedOrders = true) (hB : freeB l = true) (h0 : J 0 w.drew)
    (hop : ∀ i o, l[i]? = some o → ∀ V k w', k < l.length → Chg T w w' → J k w' → (∀ e ∈ o.after, Region.binds .any e = true → Phi φs e.on (V e.on) w') → Frees P o (frameOf l a V i).eval w' (fun v w'' => Phi φs i v w'' ∧ Chg T w' w'' ∧ J (k + 1) w''))
    (hend : ∀ V k w', k ≤ l.length → Chg T w w' → J k w' → (∀ i, i < l.length → Phi φs i (V i) w') → Q .normal (frameOf l a V l.length) w') : (Code.region id l.toArray true).wp P Q a w := by
  refine wp_region_free (fun k w' => Chg T w w' ∧ J k w') (Chg T) (Phi φs) hm hB ?_ ⟨(Chg.refl _ _).drew, h0⟩ ?_ ?_
  · intro i v w1 w2 hc h
    unfold Phi at *
    split
    · rename_i s hs; rw [hs] at h; exact s.st v _ _ hc h
    · trivial
  · intro i o hi V k w' hk ⟨h1, h2⟩ hd
    have := hop i o hi V k w' hk h1 h2 hd
    unfold Frees at this ⊢
    split at this
    · exact ⟨this.1, this.2.1, h1.trans this.2.1, this.2.2⟩
    · exact ⟨this.1, this.2.1, h1.trans this.2.1, this.2.2⟩
    · exact this.mono fun e w'' he => by
        obtain ⟨v, rfl, g1, g2, g3⟩ := he
        exact ⟨v, rfl, g1, g2, h1.trans g2, g3⟩
    · exact this
  · intro V k w' hk ⟨h1, h2⟩ hφ
    exact hend V k w' hk h1 h2 hφ
end
end Go.Proofs.Ytpfekeflkmafcaa
