/-
  The plain law of names: order, buckets, valid lists; no program in sight.
-/
import Derived.Test.YthhganlnljoinaaMod
namespace Go.Proofs.Ythhganlnljoinaa
open Go.RowKit

theorem bl_irrefl : ∀ x : List UInt8, Op.bytesLess x x = false
  | [] => by simp [Op.bytesLess]
  | a :: x => by simp [Op.bytesLess, bl_irrefl x]
theorem bl_trans : ∀ x y z : List UInt8, Op.bytesLess x y = true → Op.bytesLess y z = true → Op.bytesLess x z = true
  | _, [], _, h, _ => by simp [Op.bytesLess] at h
  | _, _ :: _, [], _, h => by simp [Op.bytesLess] at h
  | [], _ :: _, _ :: _, _, _ => by simp [Op.bytesLess]
  | a :: x, b :: y, c :: z, h, k => by
    simp only [Op.bytesLess, Bool.or_eq_true, decide_eq_true_eq, Bool.and_eq_true, beq_iff_eq, UInt8.lt_iff_toNat_lt] at h k ⊢
    rcases h with h | ⟨rfl, h⟩
    · rcases k with k | ⟨rfl, k⟩
      · left; omega
      · left; omega
    · rcases k with k | ⟨rfl, k⟩
      · left; omega
      · right; exact ⟨rfl, bl_trans x y z h k⟩
theorem bl_total : ∀ x y : List UInt8, Op.bytesLess x y = false → Op.bytesLess y x = false → x = y
  | [], [], _, _ => rfl
  | [], _ :: _, h, _ => by simp [Op.bytesLess] at h
  | _ :: _, [], _, h => by simp [Op.bytesLess] at h
  | a :: x, b :: y, h, k => by
    simp only [Op.bytesLess, Bool.or_eq_false_iff, decide_eq_false_iff_not, Bool.and_eq_false_iff, beq_eq_false_iff_ne, UInt8.lt_iff_toNat_lt] at h k
    have e : a = b := UInt8.toNat_inj.1 (by omega)
    subst e
    rw [bl_total x y (h.2.resolve_left (fun h => h rfl)) (k.2.resolve_left (fun h => h rfl))]

/-- The number of a text's bucket. -/
def bkt (s : ByteArray) : Int := bucket s.data.toList
def sLt (a b : ByteArray) : Bool := Op.bytesLess a.toList b.toList
/-- It stands before another one. -/
def bef (a b : ByteArray) : Bool := if bkt a = bkt b then sLt a b else decide (bkt a < bkt b)

theorem sLt_irrefl (a : ByteArray) : sLt a a = false := bl_irrefl _
theorem ba_ext {a b : ByteArray} (h : a.toList = b.toList) : a = b := by
  rw [ByteArray.toList_eq, ByteArray.toList_eq] at h
  apply ByteArray.ext
  exact Array.toList_inj.1 h
theorem ba_iff (a b : ByteArray) : (a.toList == b.toList) = decide (a = b) := by
  rw [Bool.eq_iff_iff]; simp only [beq_iff_eq, decide_eq_true_eq]
  exact ⟨ba_ext, fun h => by rw [h]⟩
theorem bef_irrefl (a : ByteArray) : bef a a = false := by simp [bef, sLt_irrefl]
theorem bef_trans {a b c : ByteArray} (h : bef a b = true) (k : bef b c = true) : bef a c = true := by
  unfold bef at *
  split at h <;> split at k
  · rename_i h1 h2
    rw [if_pos (h1.trans h2)]
    exact bl_trans _ _ _ h k
  · rename_i h1 h2
    rw [if_neg (by rw [h1]; exact h2)]
    simp only [decide_eq_true_eq] at k ⊢
    omega
  · rename_i h1 h2
    rw [if_neg (by rw [← h2]; exact h1)]
    simp only [decide_eq_true_eq] at h ⊢
    omega
  · simp only [decide_eq_true_eq] at h k
    rw [if_neg (by omega)]
    simp only [decide_eq_true_eq]
    omega
theorem bef_total {a b : ByteArray} (h : bef a b = false) (k : bef b a = false) : a = b := by
  unfold bef at *
  by_cases e : bkt a = bkt b
  · rw [if_pos e] at h
    rw [if_pos e.symm] at k
    exact ba_ext (bl_total _ _ h k)
  · rw [if_neg e] at h
    rw [if_neg (fun x => e x.symm)] at k
    simp only [decide_eq_false_iff_not] at h k
    omega
theorem bef_asymm {a b : ByteArray} (h : bef a b = true) : bef b a = false := by
  cases k : bef b a with
  | false => rfl
  | true => have := bef_trans h k; rw [bef_irrefl] at this; exact this.symm
theorem bef_le {a b : ByteArray} (h : bef a b = true) : bkt a ≤ bkt b := by
  unfold bef at h
  split at h
  · omega
  · simp only [decide_eq_true_eq] at h; omega

def nmOk (e : ByteArray × Int) : Bool := txt e.1.data.toList && inB e.2 0 7
def cnt (l : List (ByteArray × Int)) (b : Int) : Nat := l.countP fun e => bkt e.1 == b
/-- Valid names. -/
def nmVal (l : List (ByteArray × Int)) : Bool := l.all nmOk && decide (l.Pairwise fun a b => bef a.1 b.1 = true) && l.all fun e => decide (cnt l (bkt e.1) ≤ 3)

theorem cnt_pos {l : List (ByteArray × Int)} {b : Int} (h : 0 < cnt l b) : ∃ e ∈ l, bkt e.1 = b := by
  obtain ⟨e, he, h⟩ := List.countP_pos_iff.1 h
  exact ⟨e, he, by simpa using h⟩
theorem nmVal_iff {l : List (ByteArray × Int)} : nmVal l = true ↔ (∀ e ∈ l, nmOk e = true) ∧ l.Pairwise (fun a b => bef a.1 b.1 = true) ∧ ∀ b, cnt l b ≤ 3 := by
  simp only [nmVal, Bool.and_eq_true, List.all_eq_true, decide_eq_true_eq]
  constructor
  · rintro ⟨⟨h1, h2⟩, h3⟩
    refine ⟨h1, h2, fun b => ?_⟩
    rcases Nat.eq_zero_or_pos (cnt l b) with h | h
    · omega
    · obtain ⟨e, he, rfl⟩ := cnt_pos h
      exact h3 e he
  · rintro ⟨h1, h2, h3⟩
    exact ⟨⟨h1, h2⟩, fun e _ => h3 _⟩
theorem nmVal_sub {l l' : List (ByteArray × Int)} (h : nmVal l = true) (hs : l'.Sublist l) : nmVal l' = true := by
  have h := nmVal_iff.1 h
  refine nmVal_iff.2 ⟨fun e he => h.1 e (hs.subset he), h.2.1.sublist hs, fun b => ?_⟩
  have := hs.countP_le (p := fun e : ByteArray × Int => bkt e.1 == b)
  have := h.2.2 b
  unfold cnt at *
  omega
theorem nmVal_nil : nmVal [] = true := by decide
theorem cnt_snoc (l : List (ByteArray × Int)) (e : ByteArray × Int) (b : Int) : cnt (l ++ [e]) b = cnt l b + if bkt e.1 = b then 1 else 0 := by
  simp [cnt, List.countP_append, List.countP_cons]
theorem pw_snoc {l : List (ByteArray × Int)} {e : ByteArray × Int} (hl : l.Pairwise fun a b => bef a.1 b.1 = true) (he : ∀ x, l.getLast? = some x → bef x.1 e.1 = true) : (l ++ [e]).Pairwise fun a b => bef a.1 b.1 = true := by
  rw [List.pairwise_append]
  refine ⟨hl, by simp, fun a ha b hb => ?_⟩
  simp only [List.mem_singleton] at hb
  subst hb
  rcases List.eq_nil_or_concat l with rfl | ⟨l', x, rfl⟩
  · simp at ha
  · have hx := he x (by simp)
    rw [List.concat_eq_append] at ha hl
    rcases List.mem_append.1 ha with h | h
    · exact bef_trans ((List.pairwise_append.1 hl).2.2 a h x (by simp)) hx
    · simp only [List.mem_singleton] at h
      subst h; exact hx
/-- One name more. -/
theorem nmVal_snoc {l : List (ByteArray × Int)} {e : ByteArray × Int} : nmVal (l ++ [e]) = true ↔ nmVal l = true ∧ nmOk e = true ∧ (∀ x, l.getLast? = some x → bef x.1 e.1 = true) ∧ cnt l (bkt e.1) ≤ 2 := by
  constructor
  · intro h
    have h' := nmVal_iff.1 h
    refine ⟨nmVal_sub h (List.sublist_append_left _ _), h'.1 e (by simp), fun x hx => ?_, ?_⟩
    · have := (List.pairwise_append.1 h'.2.1).2.2 x (List.mem_of_getLast? hx) e (by simp)
      exact this
    · have := h'.2.2 (bkt e.1)
      rw [cnt_snoc, if_pos rfl] at this
      omega
  · rintro ⟨h1, h2, h3, h4⟩
    have h1 := nmVal_iff.1 h1
    refine nmVal_iff.2 ⟨fun x hx => ?_, pw_snoc h1.2.1 h3, fun b => ?_⟩
    · rcases List.mem_append.1 hx with hx | hx
      · exact h1.1 x hx
      · simp only [List.mem_singleton] at hx; subst hx; exact h2
    · rw [cnt_snoc]
      have := h1.2.2 b
      split
      · rename_i e; subst e; omega
      · omega

theorem nm_take_succ {l : List (ByteArray × Int)} {k : Nat} (hk : k < l.length) : l.take (k + 1) = l.take k ++ [l[k]] := by rw [List.take_succ_eq_append_getElem hk]
theorem take_last {l : List (ByteArray × Int)} {k : Nat} (hk : k < l.length) (x : ByteArray × Int) (h : (l.take k).getLast? = some x) : 0 < k ∧ x = l[k - 1]'(by omega) := by
  rcases Nat.eq_zero_or_pos k with rfl | h0
  · simp at h
  · refine ⟨h0, ?_⟩
    have e : l.take k = l.take (k - 1) ++ [l[k - 1]'(by omega)] := by
      have := nm_take_succ (l := l) (k := k - 1) (by omega)
      rwa [show k - 1 + 1 = k by omega] at this
    rw [e, List.getLast?_concat] at h
    exact (Option.some.inj h).symm
/-- The names up to k, one more: every test. -/
theorem nmVal_step {l : List (ByteArray × Int)} {k : Nat} (hk : k < l.length) : nmVal (l.take (k + 1)) = true ↔ nmVal (l.take k) = true ∧ nmOk l[k] = true ∧ (∀ h : 0 < k, bef (l[k - 1]'(by omega)).1 l[k].1 = true) ∧ cnt (l.take k) (bkt l[k].1) ≤ 2 := by
  rw [nm_take_succ hk, nmVal_snoc]
  have e : (∀ x, (l.take k).getLast? = some x → bef x.1 l[k].1 = true) ↔ (∀ h : 0 < k, bef (l[k - 1]'(by omega)).1 l[k].1 = true) := by
    constructor
    · intro h h0
      refine h _ ?_
      have e : l.take k = l.take (k - 1) ++ [l[k - 1]'(by omega)] := by
        have := nm_take_succ (l := l) (k := k - 1) (by omega)
        rwa [show k - 1 + 1 = k by omega] at this
      rw [e, List.getLast?_concat]
    · intro h x hx
      obtain ⟨h0, rfl⟩ := take_last hk x hx
      exact h h0
  rw [e]
theorem nmVal_bad {l : List (ByteArray × Int)} {k : Nat} (h : nmVal (l.take (k + 1)) = false) : nmVal l = false := by
  cases hv : nmVal l with
  | false => rfl
  | true => rw [nmVal_sub hv (List.take_sublist _ _)] at h; exact h.symm ▸ rfl

/-- Sorted buckets: the third last tells. -/
theorem cnt_three {l : List (ByteArray × Int)} {k : Nat} (hk : k < l.length) (hv : nmVal (l.take k) = true) (hb : ∀ h : 0 < k, bef (l[k - 1]'(by omega)).1 l[k].1 = true) :
    cnt (l.take k) (bkt l[k].1) ≤ 2 ↔ ¬ (3 ≤ k ∧ bkt (l.getD (k - 3) (ByteArray.empty, 0)).1 = bkt l[k].1) := by
  have hp : (l.take (k + 1)).Pairwise fun a b => bef a.1 b.1 = true := by
    rw [nm_take_succ hk]
    refine pw_snoc (nmVal_iff.1 hv).2.1 fun x hx => ?_
    obtain ⟨h0, rfl⟩ := take_last hk x hx
    exact hb h0
  have hmono : ∀ i j (hi : i < l.length) (hj : j < l.length), i ≤ j → j ≤ k → bkt l[i].1 ≤ bkt l[j].1 := by
    intro i j hi hj hij hjk
    rcases Nat.lt_or_eq_of_le hij with h | rfl
    · have := List.pairwise_iff_getElem.1 hp i j (by simp; omega) (by simp; omega) h
      simp only [List.getElem_take] at this
      exact bef_le this
    · omega
  by_cases h3 : 3 ≤ k
  · have hlt : k - 3 < l.length := by omega
    have hd : l.getD (k - 3) (ByteArray.empty, 0) = l[k - 3] := by simp [hlt]
    rw [hd]
    have e : l.take k = l.take (k - 3) ++ [l[k - 3], l[k - 2]'(by omega), l[k - 1]'(by omega)] := by
      have e1 := nm_take_succ (l := l) (k := k - 1) (by omega)
      have e2 := nm_take_succ (l := l) (k := k - 2) (by omega)
      have e3 := nm_take_succ (l := l) (k := k - 3) (by omega)
      rw [show k - 1 + 1 = k by omega] at e1
      rw [show k - 2 + 1 = k - 1 by omega] at e2
      rw [show k - 3 + 1 = k - 2 by omega] at e3
      rw [e1, e2, e3, List.append_assoc, List.append_assoc]; rfl
    have m1 := hmono (k - 3) (k - 2) (by omega) (by omega) (by omega) (by omega)
    have m2 := hmono (k - 2) (k - 1) (by omega) (by omega) (by omega) (by omega)
    have m3 := hmono (k - 1) k (by omega) hk (by omega) (Nat.le_refl _)
    constructor
    · intro h ⟨_, he⟩
      rw [e] at h
      have hc : cnt (l.take (k - 3) ++ [l[k - 3], l[k - 2]'(by omega), l[k - 1]'(by omega)]) (bkt l[k].1) = cnt (l.take (k - 3)) (bkt l[k].1) + 3 := by
        have x1 : bkt l[k - 3].1 = bkt l[k].1 := he
        have x2 : bkt (l[k - 2]'(by omega)).1 = bkt l[k].1 := by omega
        have x3 : bkt (l[k - 1]'(by omega)).1 = bkt l[k].1 := by omega
        simp [cnt, List.countP_append, x1, x2, x3]
      omega
    · intro h
      have hne : bkt l[k - 3].1 ≠ bkt l[k].1 := fun he => h ⟨h3, he⟩
      rw [e]
      have h0 : cnt (l.take (k - 3)) (bkt l[k].1) = 0 := by
        unfold cnt
        rw [List.countP_eq_zero]
        intro x hx
        obtain ⟨i, hi, rfl⟩ := List.getElem_of_mem hx
        simp only [List.length_take] at hi
        simp only [List.getElem_take, beq_iff_eq]
        have := hmono i (k - 3) (by omega) (by omega) (by omega) (by omega)
        omega
      have hc : cnt (l.take (k - 3) ++ [l[k - 3], l[k - 2]'(by omega), l[k - 1]'(by omega)]) (bkt l[k].1) ≤ cnt (l.take (k - 3)) (bkt l[k].1) + 2 := by
        unfold cnt
        rw [List.countP_append]
        have hb : (bkt l[k - 3].1 == bkt l[k].1) = false := by simpa using hne
        simp only [List.countP_cons, hb, List.countP_nil]
        have t1 : ∀ b : Bool, (if b = true then 1 else 0) ≤ 1 := fun b => by cases b <;> simp
        have := t1 (bkt (l[k - 2]'(by omega)).1 == bkt l[k].1)
        have := t1 (bkt (l[k - 1]'(by omega)).1 == bkt l[k].1)
        simp only [Bool.false_eq_true, if_false]
        omega
      omega
  · have hle : cnt (l.take k) (bkt l[k].1) ≤ k := by
      have := List.countP_le_length (p := fun e : ByteArray × Int => bkt e.1 == bkt l[k].1) (l := l.take k)
      unfold cnt
      simp only [List.length_take] at this
      omega
    constructor
    · intro _ h; omega
    · intro _; omega

theorem bkt_ok {s : ByteArray} (h : txt s.data.toList = true) : 0 ≤ bkt s ∧ bkt s ≤ 2 := by
  unfold bkt bucket
  rw [if_pos h]
  omega
theorem bkt_no {s : ByteArray} (h : txt s.data.toList = false) : bkt s = -1 := by
  unfold bkt bucket
  rw [if_neg (by rw [h]; simp)]
theorem bkt_lo (s : ByteArray) : -1 ≤ bkt s ∧ bkt s ≤ 2 := by
  unfold bkt bucket; split <;> omega
theorem cnt_le (l : List (ByteArray × Int)) (b : Int) : cnt l b ≤ l.length := List.countP_le_length

/-- The file of a name. -/
def nmFind (l : List (ByteArray × Int)) (t : ByteArray) : Int := if nmVal l = true then match l.find? (fun e => e.1.toList == t.toList) with | some e => e.2 | none => -1 else -1
/-- Without a name. -/
def nmWo (l : List (ByteArray × Int)) (t : ByteArray) : List (ByteArray × Int) := l.filter fun e => !(e.1.toList == t.toList)
def nmDrop (l : List (ByteArray × Int)) (t : ByteArray) : List (ByteArray × Int) × Bool := if nmVal l = true then (nmWo l t, decide ((nmWo l t).length < l.length)) else ([], false)
/-- One more. -/
def nmIns (l : List (ByteArray × Int)) (i : Nat) (n : ByteArray × Int) : List (ByteArray × Int) := l.take i ++ [n] ++ l.drop i
/-- The place where the program puts it; that of the reference. -/
def nmPl (l : List (ByteArray × Int)) (n : ByteArray) : Nat := l.findIdx fun e => bef n e.1
def nmPs (l : List (ByteArray × Int)) (n : ByteArray) : Nat := l.findIdx fun e => !bef e.1 n
def nmPut (l : List (ByteArray × Int)) (n : ByteArray × Int) : List (ByteArray × Int) × Bool :=
  if nmVal l = true then (if nmVal (nmIns l (nmPs l n.1) n) = true then (nmIns l (nmPs l n.1) n, true) else (l, false)) else ([], false)

theorem nm_dup {l : List (ByteArray × Int)} (h : nmVal l = true) {i j : Nat} (hi : i < l.length) (hj : j < l.length) (he : l[i].1 = l[j].1) : i = j := by
  have hp := (nmVal_iff.1 h).2.1
  rcases Nat.lt_trichotomy i j with h1 | h1 | h1
  · have := List.pairwise_iff_getElem.1 hp i j hi hj h1
    rw [he, bef_irrefl] at this; exact absurd this (by decide)
  · exact h1
  · have := List.pairwise_iff_getElem.1 hp j i hj hi h1
    rw [he, bef_irrefl] at this; exact absurd this (by decide)
theorem nmIns_perm (l : List (ByteArray × Int)) (i : Nat) (n : ByteArray × Int) : (nmIns l i n).Perm (n :: l) := by
  unfold nmIns
  have h := List.perm_middle (a := n) (l₁ := l.take i) (l₂ := l.drop i)
  rw [List.take_append_drop] at h
  simpa using h
theorem nmIns_len (l : List (ByteArray × Int)) (i : Nat) (n : ByteArray × Int) : (nmIns l i n).length = l.length + 1 := (nmIns_perm l i n).length_eq
theorem nmIns_mem {l : List (ByteArray × Int)} {i : Nat} {n e : ByteArray × Int} : e ∈ nmIns l i n ↔ e = n ∨ e ∈ l := by
  rw [(nmIns_perm l i n).mem_iff]; simp
/-- A name of the same text: no place serves. -/
theorem nmIns_dup {l : List (ByteArray × Int)} {n e : ByteArray × Int} (i : Nat) (he : e ∈ l) (hn : e.1 = n.1) : nmVal (nmIns l i n) = false := by
  cases hv : nmVal (nmIns l i n) with
  | false => rfl
  | true =>
    have hp := (nmVal_iff.1 hv).2.1
    have hd : (n :: l).Pairwise fun a b => a.1 ≠ b.1 := by
      refine List.Perm.pairwise (nmIns_perm l i n) (hp.imp fun {a b} h hab => ?_) (fun {a b} h hab => h hab.symm)
      rw [hab, bef_irrefl] at h; exact absurd h (by decide)
    exact absurd hn.symm ((List.pairwise_cons.1 hd).1 e he)
theorem findIdx_ext {α : Type} {p q : α → Bool} {l : List α} (h : ∀ x ∈ l, p x = q x) : l.findIdx p = l.findIdx q := by
  induction l with
  | nil => rfl
  | cons a l ih =>
    rw [List.findIdx_cons, List.findIdx_cons, h a (by simp), ih fun x hx => h x (by simp [hx])]
/-- The program's place and the reference's. -/
theorem nmPut_eq (l : List (ByteArray × Int)) (n : ByteArray × Int) : (if nmVal (nmIns l (nmPl l n.1) n) = true then (nmIns l (nmPl l n.1) n, true) else (l, false)) = (if nmVal (nmIns l (nmPs l n.1) n) = true then (nmIns l (nmPs l n.1) n, true) else (l, false)) := by
  by_cases h : ∃ e ∈ l, e.1 = n.1
  · obtain ⟨e, he, hn⟩ := h
    rw [nmIns_dup _ he hn, nmIns_dup _ he hn]
    simp
  · have e : nmPl l n.1 = nmPs l n.1 := by
      refine findIdx_ext fun x hx => ?_
      cases h1 : bef x.1 n.1 with
      | true => rw [bef_asymm h1]; rfl
      | false =>
        cases h2 : bef n.1 x.1 with
        | true => rfl
        | false => exact absurd ⟨x, hx, bef_total h1 h2⟩ h
    rw [e]

/-- The laws: a name twice; without some; found; dropped; put. -/
theorem nmVal_twice (e : ByteArray × Int) (l : List (ByteArray × Int)) : nmVal (e :: e :: l) = false := by
  have := nmIns_dup (l := e :: l) (n := e) (e := e) 0 (by simp) rfl
  simpa [nmIns] using this
theorem nmWo_val {l : List (ByteArray × Int)} (h : nmVal l = true) (t : ByteArray) : nmVal (nmWo l t) = true := nmVal_sub h List.filter_sublist
theorem nmWo_find (l : List (ByteArray × Int)) (t : ByteArray) : nmFind (nmWo l t) t = -1 := by
  unfold nmFind
  split
  · have : (nmWo l t).find? (fun e => e.1.toList == t.toList) = none := by
      rw [List.find?_eq_none]
      intro x hx
      have := (List.mem_filter.1 hx).2
      simpa using this
    rw [this]
  · rfl
theorem nmWo_len {l : List (ByteArray × Int)} (h : nmVal l = true) (t : ByteArray) (hl : (nmWo l t).length < l.length) : (nmWo l t).length + 1 = l.length := by
  have hp := (nmVal_iff.1 h).2.1
  clear h
  induction l with
  | nil => simp at hl
  | cons e l ih =>
    have hp' := List.pairwise_cons.1 hp
    by_cases he : (e.1.toList == t.toList) = true
    · have hall : nmWo l t = l := by
        unfold nmWo
        rw [List.filter_eq_self]
        intro x hx
        have hb := hp'.1 x hx
        rw [ba_iff] at he ⊢
        simp only [decide_eq_true_eq, Bool.not_eq_true', decide_eq_false_iff_not] at he ⊢
        intro hxt
        rw [he, hxt, bef_irrefl] at hb
        exact absurd hb (by decide)
      have : nmWo (e :: l) t = nmWo l t := by simp [nmWo, he]
      rw [this, hall]
      rfl
    · have he' : (e.1.toList == t.toList) = false := by simpa using he
      have : nmWo (e :: l) t = e :: nmWo l t := by simp [nmWo, he']
      rw [this] at hl ⊢
      simp only [List.length_cons] at hl ⊢
      have := ih (by omega) hp'.2
      omega
theorem nmWo_ins {l : List (ByteArray × Int)} {n : ByteArray × Int} {i : Nat} (h : nmVal (nmIns l i n) = true) : nmWo (nmIns l i n) n.1 = l := by
  have hd : ∀ e ∈ l, (!(e.1.toList == n.1.toList)) = true := by
    intro e he
    rw [ba_iff]
    simp only [Bool.not_eq_true', decide_eq_false_iff_not]
    intro hn
    rw [nmIns_dup i he hn] at h
    exact absurd h (by decide)
  have hs : (!(n.1.toList == n.1.toList)) = false := by simp
  unfold nmWo nmIns
  rw [List.filter_append, List.filter_append]
  have e1 : (l.take i).filter (fun e => !(e.1.toList == n.1.toList)) = l.take i := by
    rw [List.filter_eq_self]; intro e he; exact hd e (List.mem_of_mem_take he)
  have e2 : (l.drop i).filter (fun e => !(e.1.toList == n.1.toList)) = l.drop i := by
    rw [List.filter_eq_self]; intro e he; exact hd e (List.mem_of_mem_drop he)
  rw [e1, e2]
  simp
theorem nmFind_ins {l : List (ByteArray × Int)} {n : ByteArray × Int} {i : Nat} (h : nmVal (nmIns l i n) = true) : nmFind (nmIns l i n) n.1 = n.2 := by
  unfold nmFind
  rw [if_pos h]
  have hd : ∀ e ∈ l, (e.1.toList == n.1.toList) = false := by
    intro e he
    rw [ba_iff]
    simp only [decide_eq_false_iff_not]
    intro hn
    rw [nmIns_dup i he hn] at h
    exact absurd h (by decide)
  have e1 : (nmIns l i n).find? (fun e => e.1.toList == n.1.toList) = some n := by
    unfold nmIns
    rw [List.append_assoc, List.find?_append]
    have : (l.take i).find? (fun e => e.1.toList == n.1.toList) = none := by
      rw [List.find?_eq_none]; intro e he; rw [hd e (List.mem_of_mem_take he)]; simp
    rw [this]
    simp
  rw [e1]

end Go.Proofs.Ythhganlnljoinaa
