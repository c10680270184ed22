/-
  Texts of this claim, laid together: Tbh, Tbm, Tbo, Tbu, Tbw.
-/
import Derived.Test.YtjmofmdcegefgaaQ04
import Derived.Test.YtjmofmdcegefgaaQ06
namespace Go.Proofs.Ytjmofmdcegefgaa
open Go.RowKit





theorem three_new {w w2 : World} (o1 o2 o3 : Obj) (h : Below (((w.alloc o1).alloc o2).alloc o3).heap.size (((w.alloc o1).alloc o2).alloc o3) w2) :
    w2.heap[w.heap.size + 1]? = some o2 ∧ w2.heap[w.heap.size + 1 + 1]? = some o3 := by
  have e1 : (((w.alloc o1).alloc o2).alloc o3).heap[w.heap.size + 1]? = some o2 := by
    rw [Below.heap_alloc _ _ _ (by simp)]
    have := heap_alloc_new (w.alloc o1) o2
    simpa using this
  have e2 : (((w.alloc o1).alloc o2).alloc o3).heap[w.heap.size + 1 + 1]? = some o3 := by
    have := heap_alloc_new ((w.alloc o1).alloc o2) o3
    simpa using this
  exact ⟨(h.block _ (by simp <;> omega)).trans e1, (h.block _ (by simp <;> omega)).trans e2⟩



end Go.Proofs.Ytjmofmdcegefgaa

namespace Go.Proofs.Ytjmofmdcegefgaa
open Go.RowKit

theorem OT.inner {w : World} {lo hi : Nat} {v : Value} {xss : List (List Int)} (h : OT w lo hi v xss) (f : Nat) (hf : f < xss.length) :
    ∃ (a cap : Nat) (u : Value), v = .slice (some ⟨a, 0, none⟩) xss.length cap ∧ xss.length ≤ cap ∧ w.cell? ⟨a, f, none⟩ = some u ∧ OI w lo u xss[f] ∧ (∀ b, u.ownBlock = some b → lo ≤ b ∧ b < hi) ∧
      ∀ w' x', Chg (fun b => u.ownBlock = some b) w w' → OI w' lo u x' → OT w' lo hi v (xss.set f x') := by
  obtain ⟨vs, h1, h2, h3⟩ := h
  obtain ⟨u, hu, ho, hb⟩ := h3.get f hf
  have ho' : OI w lo u xss[f] := ho
  obtain ⟨a, cap, rfl, ha1, ha2, ha3⟩  := own_shape1 h1 (show 0 < xss.length by omega)
  refine ⟨a, cap, u, rfl, ha3, by rw [h1.cellAt f (by omega)]; exact hu, ho', fun b hb' => ⟨(ho'.lt b hb').1, hb b hb'⟩, fun w' x' hc ho2 => ?_⟩
  have hap := own_apart ho'.1 h1 (by decide)
  refine ⟨vs, ?_, h2, h3.one hu hc ho2⟩
  rw [List.length_set]
  exact own_chg h1 hc fun b _ hb1 hb2 => hap b hb2 hb1

/-- Every number its own, from k on. -/
def mrk : Int → List (List Int) → List (List Int)
  | _, [] => []
  | k, x :: xs => upN k x.length :: mrk (k + x.length) xs
def toff (xss : List (List Int)) (j : Nat) : Nat := ((xss.take j).map List.length).sum
theorem mrk_len (k : Int) (xss : List (List Int)) : (mrk k xss).length = xss.length := by
  induction xss generalizing k with
  | nil => rfl
  | cons x xs ih => simp [mrk, ih]
theorem toff_zero (xss : List (List Int)) : toff xss 0 = 0 := rfl
theorem toff_succ (xss : List (List Int)) (j : Nat) (hj : j < xss.length) : toff xss (j + 1) = toff xss j + xss[j].length := by
  unfold toff; rw [List.take_succ_eq_append_getElem hj, List.map_append, List.sum_append]; rfl
theorem mrk_at (k : Int) (xss : List (List Int)) (j : Nat) (hj : j < xss.length) : (mrk k xss)[j]'(by rw [mrk_len]; exact hj) = upN (k + toff xss j) xss[j].length := by
  induction xss generalizing k j with
  | nil => simp at hj
  | cons x xs ih =>
    cases j with
    | zero => simp [mrk, toff]
    | succ j =>
      have := ih (k + x.length) j (by simpa using hj)
      simp only [mrk, List.getElem_cons_succ, this]
      congr 1
      simp [toff]; omega
theorem toff_le (xss : List (List Int)) (j : Nat) : toff xss j ≤ tsz xss := by
  unfold toff tsz
  have : ∀ (l : List Nat) j, (l.take j).sum ≤ l.sum := by
    intro l
    induction l with
    | nil => intro j; simp
    | cons a l ih => intro j; cases j with
      | zero => simp
      | succ j => have := ih j; simp only [List.take_succ_cons, List.sum_cons]; omega
  have := this (xss.map List.length) j
  rw [List.map_take] at *
  omega
theorem toff_all (xss : List (List Int)) : toff xss xss.length = (xss.map List.length).sum := by simp [toff]
/-- The first i lists turned. -/
def mix (k : Int) (xss : List (List Int)) (i : Nat) : List (List Int) := (mrk k xss).take i ++ xss.drop i
theorem mix_len (k : Int) (xss : List (List Int)) (i : Nat) (hi : i ≤ xss.length) : (mix k xss i).length = xss.length := by
  have := mrk_len k xss
  simp only [mix, List.length_append, List.length_take, List.length_drop]; omega
theorem mix_at (k : Int) (xss : List (List Int)) (i : Nat) (hi : i < xss.length) : (mix k xss i)[i]? = some xss[i] := by
  have := mrk_len k xss
  unfold mix
  rw [List.getElem?_append_right (by simp; omega)]
  have e : i - ((mrk k xss).take i).length = 0 := by simp; omega
  rw [e, drop_cons xss i hi]; rfl
theorem mix_set (k : Int) (xss : List (List Int)) (i : Nat) (hi : i < xss.length) : (mix k xss i).set i (upN (k + toff xss i) xss[i].length) = mix k xss (i + 1) := by
  have hl := mrk_len k xss
  unfold mix
  rw [List.set_append_right _ _ (by simp; omega)]
  have e : i - ((mrk k xss).take i).length = 0 := by simp; omega
  rw [e, drop_cons xss i hi, List.set_cons_zero, List.take_succ_eq_append_getElem (by omega), mrk_at k xss i hi]
  simp
theorem mix_zero (k : Int) (xss : List (List Int)) : mix k xss 0 = xss := by simp [mix]
theorem mix_end (k : Int) (xss : List (List Int)) (i : Nat) (hi : ¬ i < xss.length) : mix k xss i = mrk k xss := by
  have := mrk_len k xss
  rw [mix, List.take_of_length_le (by omega), List.drop_of_length_le (by omega)]; simp
theorem upN_i64 (k : Int) (n : Nat) (h0 : 0 ≤ k) (h1 : k ≤ 4503599627370496) (hn : n ≤ 1048576) : I64s (upN k n) := by
  intro x hx
  obtain ⟨i, hi, rfl⟩ := List.mem_map.1 hx
  have := List.mem_range.1 hi
  unfold I64; omega

/-- Numbers laid in lo .. hi. -/
def MarkTPost (v : Value) (lo hi : Nat) (xss : List (List Int)) (k : Int) (w : World) (e : Ending) (w' : World) : Prop :=
  e = .returned (.int .i64 (k + toff xss xss.length)) ∧ OT w' lo hi v (mrk k xss) ∧ Chg (fun b => lo ≤ b ∧ b < hi) w w' ∧ w'.heap.size = w.heap.size



/-- As markIntSS; for a table. -/
def MarkTab (v : Value) (lo hi : Nat) (xss : List (List Int)) (k : Int) (w : World) (e : Ending) (w' : World) : Prop :=
  e = .returned (.int .i64 (k + toff xss xss.length)) ∧ OT w' lo hi v (mrk k xss) ∧ Chg (fun b => lo ≤ b ∧ b < hi) w w'



end Go.Proofs.Ytjmofmdcegefgaa

namespace Go.Proofs.Ytjmofmdcegefgaa
open Go.RowKit

def hol (l : List Int) (k : Nat) : List Int := ((List.range k).filter fun i => decide (l.getD i 0 < 0)).map fun k : Nat => (k : Int)
theorem hol_zero (l : List Int) : hol l 0 = [] := rfl
theorem hol_yes {l : List Int} {k : Nat} (hk : k < l.length) (h : l[k] < 0) : hol l (k + 1) = hol l k ++ [(k : Int)] := by
  unfold hol
  rw [List.range_succ, List.filter_append, List.map_append]
  congr 1
  simp [hk, h]
theorem hol_no {l : List Int} {k : Nat} (hk : k < l.length) (h : ¬ l[k] < 0) : hol l (k + 1) = hol l k := by
  unfold hol
  rw [List.range_succ, List.filter_append, List.map_append]
  simp [hk]
  omega
theorem hol_len (l : List Int) (k : Nat) : (hol l k).length ≤ k := by
  unfold hol
  rw [List.length_map]
  have := List.length_filter_le (fun i => decide (l.getD i 0 < 0)) (List.range k)
  simpa using this
theorem holes_in {t : List (List Int)} {f : Nat} (hv : tabVal t = true) (hf : f < t.length) : holes t f = hol t[f] (rsz t[f]) := by
  have h8 := tab_len hv
  have e : (f : Int).toNat = f := by omega
  rw [holes, if_pos ⟨hv, inB_yes (by omega) (by omega)⟩, e, getD_at hf]
  unfold hol tat
  rw [getD_at hf]
theorem holes_bad {t : List (List Int)} {f : Int} (hv : tabVal t = false) : holes t f = [] := by rw [holes, if_neg (by rw [hv]; simp)]
theorem holes_out {t : List (List Int)} {f : Int} (h : ¬ (0 ≤ f ∧ f ≤ 7)) : holes t f = [] := by
  rw [holes, if_neg]
  rw [inB_no (by omega)]
  simp
theorem oi_nil (w : World) (lo : Nat) : OI w lo (.slice none 0 0) [] := ⟨World.ownsRow_nil _ _ _ _, fun _ h => by simp at h⟩
theorem oi_empty (w : World) (lo B : Nat) (hl : lo ≤ w.heap.size) (hB : w.heap.size = B) : OI (w.alloc (.cells #[] 3)) lo (.slice (some ⟨B, 0, none⟩) 0 0) [] := by
  subst hB
  exact ⟨World.ownsRow_lit w #[] 0 hl (by decide) rfl, fun _ h => by simp at h⟩
theorem OI.wide {w : World} {lo lo' : Nat} {v : Value} {xs : List Int} (h : OI w lo v xs) (hl : lo' ≤ lo) : OI w lo' v xs := ⟨own_wide h.1 hl, h.2⟩



end Go.Proofs.Ytjmofmdcegefgaa

namespace Go.Proofs.Ytjmofmdcegefgaa
open Go.RowKit


end Go.Proofs.Ytjmofmdcegefgaa

namespace Go.Proofs.Ytjmofmdcegefgaa
open Go.RowKit

/-- The call's own ints, in lo .. hi. -/
def II (w : World) (lo hi : Nat) (v : Value) (xs : List Int) : Prop := OI w lo v xs ∧ ∀ b, v.ownBlock = some b → b < hi
theorem OI.ii {w : World} {lo : Nat} {v : Value} {xs : List Int} (h : OI w lo v xs) : II w lo w.heap.size v xs := ⟨h, fun b hb => (h.lt b hb).2⟩
theorem II.chg {S : Nat → Prop} {w w' : World} {lo hi : Nat} {v : Value} {xs : List Int} (h : II w lo hi v xs) (hk : Chg S w w') (hs : ∀ b, lo ≤ b → b < hi → ¬ S b) : II w' lo hi v xs :=
  ⟨h.1.chg hk fun b hb he => hs b hb (h.2 b he), h.2⟩
theorem II.below {w w' : World} {lo hi : Nat} {v : Value} {xs : List Int} (h : II w lo hi v xs) (hk : Below w.heap.size w w') : II w' lo hi v xs := ⟨h.1.below hk, h.2⟩
theorem II.ri {w : World} {lo hi : Nat} {v : Value} {xs : List Int} (h : II w lo hi v xs) : RI w lo hi v xs := ⟨reads_hi h.1.1 h.2, h.1.2⟩
theorem box_chg {S : Nat → Prop} {w w' : World} {B : Nat} {o : Obj} (h : w.heap[B]? = some o) (c : Chg S w w') (hs : ¬ S B) : w'.heap[B]? = some o :=
  (c.block B (Array.getElem?_eq_some_iff.1 h).1 hs).trans h
/-- A change of one stretch, above what is kept. -/
theorem up_chg {a b c : World} {lo hi : Nat} (h : Below a.heap.size a b) (k : Chg (fun b => lo ≤ b ∧ b < hi) b c) (hl : a.heap.size ≤ lo) : Below a.heap.size a c :=
  h.trans (k.below h.size (fun i hi he => by omega))


end Go.Proofs.Ytjmofmdcegefgaa

