/-
  The walks of FileHoles.
-/
import Derived.Test.YtpfekeflkmafcaaTbg
import Derived.Test.YtpfekeflkmafcaaTbh
namespace Go.Proofs.Ytpfekeflkmafcaa
open Go.RowKit

def hol (l : List Int) (k : Nat) : List Int := ((List.range k).filter fun i => decide (l.getD i 0 < 0)).map fun k : Nat => (k : Int)
theorem hol_zero (l : List Int) : hol l 0 = [] := rfl
theorem hol_yes {l : List Int} {k : Nat} (hk : k < l.length) (h : l[k] < 0) : hol l (k + 1) = hol l k ++ [(k : Int)] := by
  unfold hol
  rw [List.range_succ, List.filter_append, List.map_append]
  congr 1
  simp [hk, h]
theorem hol_no {l : List Int} {k : Nat} (hk : k < l.length) (h : ¬ l[k] < 0) : hol l (k + 1) = hol l k := by
  unfold hol
  rw [List.range_succ, List.filter_append, List.map_append]
  simp [hk]
  omega
theorem hol_len (l : List Int) (k : Nat) : (hol l k).length ≤ k := by
  unfold hol
  rw [List.length_map]
  have := List.length_filter_le (fun i => decide (l.getD i 0 < 0)) (List.range k)
  simpa using this
theorem holes_in {t : List (List Int)} {f : Nat} (hv : tabVal t = true) (hf : f < t.length) : holes t f = hol t[f] (rsz t[f]) := by
  have h8 := tab_len hv
  have e : (f : Int).toNat = f := by omega
  rw [holes, if_pos ⟨hv, inB_yes (by omega) (by omega)⟩, e, getD_at hf]
  unfold hol tat
  rw [getD_at hf]
theorem holes_bad {t : List (List Int)} {f : Int} (hv : tabVal t = false) : holes t f = [] := by rw [holes, if_neg (by rw [hv]; simp)]
theorem holes_out {t : List (List Int)} {f : Int} (h : ¬ (0 ≤ f ∧ f ≤ 7)) : holes t f = [] := by
  rw [holes, if_neg]
  rw [inB_no (by omega)]
  simp
theorem oi_nil (w : World) (lo : Nat) : OI w lo (.slice none 0 0) [] := ⟨World.ownsRow_nil _ _ _ _, fun _ h => by simp at h⟩
theorem oi_empty (w : World) (lo B : Nat) (hl : lo ≤ w.heap.size) (hB : w.heap.size = B) : OI (w.alloc (.cells #[] 3)) lo (.slice (some ⟨B, 0, none⟩) 0 0) [] := by
  subst hB
  exact ⟨World.ownsRow_lit w #[] 0 hl (by decide) rfl, fun _ h => by simp at h⟩
theorem OI.wide {w : World} {lo lo' : Nat} {v : Value} {xs : List Int} (h : OI w lo v xs) (hl : lo' ≤ lo) : OI w lo' v xs := ⟨own_wide h.1 hl, h.2⟩



end Go.Proofs.Ytpfekeflkmafcaa
