/-
  The draws of the laws over tables.
-/
import Derived.Test.YtpkdmdcmhekgpaaTbd
import Derived.Test.YtpkdmdcmhekgpaaDrr
namespace Go.Proofs.Ytpkdmdcmhekgpaa
open Go.RowKit
variable {H : Nat}

/-- A table, out of a code. -/
def TabD (w : World) (e : Ending) (w' : World) : Prop := ∃ v t, e = .returned (.agg #[v]) ∧ (RT w' w.heap.size w'.heap.size v t ∧ tsz t ≤ 100) ∧ Below w.heap.size w w'
def TabGD (w : World) (e : Ending) (w' : World) : Prop :=
  ∃ v t f p, e = .returned (.tuple #[.agg #[v], .int .i64 f, .int .i64 p]) ∧ (RT w' w.heap.size w'.heap.size v t ∧ tsz t ≤ 100) ∧ ((-1 ≤ f ∧ f ≤ 8) ∧ (-1 ≤ p ∧ p ≤ 6)) ∧ Below w.heap.size w w'

/-- The box of a result is there, and the code reads as before. -/
theorem dr_start {w : World} {v : Value} {bs : List Int} (h : RB w 0 w.heap.size v bs) : RB (w.alloc (.cells #[.slice none 0 0] 28)) 0 w.heap.size v bs ∧ w.heap.size ≤ (w.alloc (.cells #[.slice none 0 0] 28)).heap.size ∧
    (w.alloc (.cells #[.slice none 0 0] 28)).heap[w.heap.size]? = some (.cells #[.slice none 0 0] 28) ∧ Below w.heap.size w (w.alloc (.cells #[.slice none 0 0] 28)) ∧ (w.alloc (.cells #[.slice none 0 0] 28)).heap.size = w.heap.size + 1 :=
  ⟨h.below (balloc _ _), by simp, heap_alloc_new _ _, balloc _ _, by simp⟩

/-- Behind the reader's opening and the table's draw. -/
structure TabS (w : World) (rb m : Nat) (v : Value) (t : List (List Int)) (w2 : World) : Prop where
  rt : ∃ lo hi, RT w2 lo hi v t ∧ w.heap.size < lo ∧ (rb < lo ∨ hi ≤ rb) ∧ hi ≤ w2.heap.size
  small : tsz t ≤ 100
  rd : RdLe w.heap.size w2 rb m
  bel : Below w.heap.size w w2
  box : w2.heap[w.heap.size]? = some (.cells #[.slice none 0 0] 28)
  lt : w.heap.size < rb
theorem tabS_mk {w w1 w2 : World} {rb m : Nat} {v : Value} {t : List (List Int)} (hrb : w.heap.size + 1 ≤ rb) (b1 : Below (w.alloc (.cells #[.slice none 0 0] 28)).heap.size (w.alloc (.cells #[.slice none 0 0] 28)) w1) (hl : rb < w1.heap.size)
    (o2 : RT w2 w1.heap.size w2.heap.size v t) (ht : tsz t ≤ 100) (r2 : RdLe w.heap.size w2 rb m) (c2 : Chg (· = rb) w1 w2) : TabS w rb m v t w2 := by
  have z1 := b1.size
  have e1 : (w.alloc (.cells #[.slice none 0 0] 28)).heap.size = w.heap.size + 1 := by simp
  rw [e1] at z1
  exact ⟨⟨_, _, o2, by omega, .inl hl, Nat.le_refl _⟩, ht, r2, (bup2 (balloc _ _) b1).trans (c2.below (by omega) (fun k hk he => by omega)), box_chg (box_keep (heap_alloc_new _ _) b1) c2 (by omega), hrb⟩
theorem TabS.fin {w w2 : World} {rb m : Nat} {a : Option Addr} {n cap : Nat} {t : List (List Int)} (h : TabS w rb m (.slice a n cap) t w2) :
    (RT (w2.setCell ⟨w.heap.size, 0, none⟩ (.slice a n cap)) w.heap.size (w2.setCell ⟨w.heap.size, 0, none⟩ (.slice a n cap)).heap.size (.slice a n cap) t ∧ tsz t ≤ 100) ∧ Below w.heap.size w (w2.setCell ⟨w.heap.size, 0, none⟩ (.slice a n cap)) := by
  have hc : Chg (fun b => b = w.heap.size) w2 (w2.setCell ⟨w.heap.size, 0, none⟩ (.slice a n cap)) := Chg.setCell (S := fun b => b = w.heap.size) (Chg.refl _ w2) (p := ⟨w.heap.size, 0, none⟩) (.inr rfl) _
  have hlt := h.lt
  obtain ⟨lo, hi, h1, h2, h3, h4⟩ := h.rt
  exact ⟨⟨(h1.chg hc (fun b hb _ hs => by omega)).wide (by omega) (Nat.le_trans h4 hc.size), h.small⟩, h.bel.setCell (Nat.le_refl _) _⟩
theorem TabS.pick {w w2 w' : World} {rb m m' : Nat} {v : Value} {t : List (List Int)} (h : TabS w rb m v t w2) (c : Chg (· = rb) w2 w') (hr : RdLe w.heap.size w' rb m') : TabS w rb m' v t w' := by
  obtain ⟨lo, hi, h1, h2, h3, h4⟩ := h.rt
  have hlt := h.lt
  exact ⟨⟨lo, hi, h1.chg c (fun b hb _ hs => by omega), h2, h3, Nat.le_trans h4 c.size⟩, h.small, hr, h.bel.trans (c.below h.bel.size (fun k hk he => by omega)), box_chg h.box c (by omega), h.lt⟩
theorem TabS.keep {w w2 w' : World} {rb m : Nat} {v : Value} {t : List (List Int)} (h : TabS w rb m v t w2) (c : Below w2.heap.size w2 w') : TabS w rb m v t w' := by
  obtain ⟨lo, hi, h1, h2, h3, h4⟩ := h.rt
  exact ⟨⟨lo, hi, h1.below c, h2, h3, Nat.le_trans h4 c.size⟩, h.small, h.rd.kept c, h.bel.trans (c.mono h.bel.size), box_keep h.box c, h.lt⟩


set_option maxHeartbeats 1000000 in
theorem dUsedPages (w : World) (v : Value) (bs : List Int) (h : RB w 0 w.heap.size v bs) : Calls Try.prog 14 #[v] w (TabD w) := by
  have HS := Lib.hid (dr_start h)
  obtain ⟨a, cap, b, off, rfl, -⟩ := h.open
  clear h
  go_enter Try.func14, Try.ntmps14
  go_wp2_with fail
  refine (open_any _ _ bs HS.out.1 HS.out.2.1).mono ?_
  rintro e w1 ⟨rb, rfl, hrb, r1, b1⟩
  have R1 := Lib.hid (And.intro r1 b1)
  clear r1 b1
  go_wp2_with fail
  refine (l20Table_any _ rb 0 6 R1.out.1 (by omega) (by omega) (by omega)).mono ?_
  rintro e w2 ⟨v2, t, rfl, o2, ht, r2, c2⟩
  obtain ⟨a2, cap2, b2, off2, rfl, -⟩ := o2.open
  have HT := Lib.hid (tabS_mk (by simpa using hrb) R1.out.2 R1.out.1.lt o2 ht r2 c2)
  obtain ⟨d1, d2⟩ := one_at HT.out.box
  have HF := Lib.hid HT.out.fin
  clear o2 r2 c2 R1 HS HT
  go_wp2_with fail
  refine bodyPost_ret (v := .agg #[.slice a2 t.length cap2]) (by simp [results, Try.results14, go_sem, d1]) rfl ⟨_, t, rfl, HF.out.1, HF.out.2⟩

/-- What the last region of such a draw leaves. -/
theorem TabS.out {w w2 w' : World} {rb m : Nat} {a : Option Addr} {n cap : Nat} {t : List (List Int)} (h : TabS w rb m (.slice a n cap) t w2) (c : Chg (fun b => b = rb ∨ b = w.heap.size) w2 w') :
    (RT w' w.heap.size w'.heap.size (.slice a n cap) t ∧ tsz t ≤ 100) ∧ Below w.heap.size w w' := by
  have hlt := h.lt
  obtain ⟨lo, hi, h1, h2, h3, h4⟩ := h.rt
  exact ⟨⟨(h1.chg c (fun b hb _ hs => by omega)).wide (by omega) (Nat.le_trans h4 c.size), h.small⟩, h.bel.trans (c.below h.bel.size (fun k hk he => by omega))⟩
theorem effT_one {rb B : Nat} {E : List Eff} {o : Obj} (hE : ∀ B' o', Eff.put B' o' ∈ E → B' = B) {w w' : World} (c : Chg (effT rb E) w w') (_h : Eff.put B o ∈ E) : Chg (fun b => b = rb ∨ b = B) w w' :=
  c.mono fun k _ hk => by
    rcases hk with hk | ⟨B', o', h1, h2⟩
    · exact .inl hk
    · exact .inr (h2.trans (hE B' o' h1))



end Go.Proofs.Ytpkdmdcmhekgpaa
