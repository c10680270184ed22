/-
  Texts of this claim, laid together: Tbd.
-/
import Derived.Test.YtjmofmdcegefgaaQ03
import Derived.Test.YtjmofmdcegefgaaQ04
import Derived.Test.YtjmofmdcegefgaaQ10
import Derived.Test.YtjmofmdcegefgaaQ14
namespace Go.Proofs.Ytjmofmdcegefgaa
open Go.RowKit
variable {H : Nat}

/-- A table for the laws, out of a code. -/
def DrawT (H : Nat) (rb q : Nat) (w : World) (e : Ending) (w' : World) : Prop := ∃ v t, e = .returned (.agg #[v]) ∧ RT w' w.heap.size w'.heap.size v t ∧ tsz t ≤ 100 ∧ RdLe H w' rb (q + 60) ∧ Chg (· = rb) w w'

/-- The loop's state: box C holds a valid table of the call's own. -/
def DtR (H : Nat) (w : World) (rb m C : Nat) (wr : World) : Prop :=
  ∃ sl t lo hi, OT wr lo hi sl t ∧ tabVal t = true ∧ w.heap.size + 1 ≤ lo ∧ hi ≤ wr.heap.size ∧ (C < lo ∨ hi ≤ C) ∧
    wr.heap[C]? = some (.cells #[sl] 26) ∧ wr.heap[w.heap.size]? = some (.cells #[.slice none 0 0] 26) ∧ RdLe H wr rb m ∧ Chg (· = rb) w wr ∧ rb < w.heap.size ∧ w.heap.size < C

theorem DtR.pick {w wr w' : World} {rb m m' C : Nat} (h : DtR H w rb m C wr) (c : Chg (· = rb) wr w') (hr : RdLe H w' rb m') : DtR H w rb m' C w' := by
  obtain ⟨sl, t, lo, hi, h1, h2, h3, h4, h5, h6, h7, -, h9, h10, h11⟩ := h
  exact ⟨sl, t, lo, hi, h1.chg c (fun b hb _ hs => by omega), h2, h3, Nat.le_trans h4 c.size, h5, box_chg h6 c (by omega), box_chg h7 c (by omega), hr, h9.trans c, h10, h11⟩

/-- A row's block holds cells of its own type. -/
theorem own_type {w : World} {base : Nat} {e : TypeId} {size : Nat} {v : Value} {n : Nat} {cs : List Value} (h : w.ownsRow base e size v n cs) {b : Nat} (hb : v.ownBlock = some b) : ∃ cur, w.heap[b]? = some (.cells cur e (0, 0)) := by
  rcases h.2 with ⟨rfl, _⟩ | ⟨g, cap, cur, rfl, -, hg, -⟩
  · simp [Value.ownBlock] at hb
  · have e1 : g = b := Option.some.inj hb
    subst e1
    exact ⟨cur, hg⟩
/-- A change of boxes of tables meets no table. -/
theorem OT.chgT {S : Nat → Prop} {w w' : World} {lo hi : Nat} {v : Value} {xss : List (List Int)} (h : OT w lo hi v xss) (hk : Chg S w w') (hs : ∀ b, S b → ∃ cur fr, w.heap[b]? = some (.cells cur 26 fr)) : OT w' lo hi v xss := by
  obtain ⟨vs, h1, h2, h3⟩ := h
  refine ⟨vs, own_chg h1 hk fun b _ he hS => ?_, h2, h3.chg2 hk fun k u b hu he hS => ?_⟩
  · obtain ⟨cur, fr, e1⟩ := hs b hS
    obtain ⟨cur2, e2⟩ := own_type h1 he
    rw [e1] at e2
    simp at e2
  · have hk2 : k < xss.length := by rw [← h3.1]; exact (List.getElem?_eq_some_iff.1 hu).1
    have ho : OI w lo u xss[k] := (h3.2.1 k hk2 u hu).1
    obtain ⟨cur, fr, e1⟩ := hs b hS
    obtain ⟨cur2, e2⟩ := own_type ho.1 he
    rw [e1] at e2
    simp at e2

theorem T0_val : tabVal (T0 8) = true := by decide

def GdT (w : World) (L : Nat) (r : Value) : Prop := ∃ t, tabVal t = true ∧ OT w L w.heap.size r t
def DtPhi (L rb : Nat) (sl : Value) (i : Nat) (v : Value) (w : World) : Prop :=
  match i with
  | 0 => v = .agg #[sl]
  | 1 => v = .pointer (some ⟨rb, 0, none⟩)
  | 2 => ∃ x : Int, v = .int .i64 x ∧ 0 ≤ x ∧ x < 4
  | 3 => v = .pointer (some ⟨rb, 0, none⟩)
  | 4 => ∃ x : Int, v = .int .i64 x ∧ 0 ≤ x ∧ x < 6
  | 5 => v = .pointer (some ⟨rb, 0, none⟩)
  | 6 => ∃ x : Int, v = .int .i64 x ∧ 0 ≤ x ∧ x < 24
  | 7 => ∃ r b, v = .tuple #[.agg #[r], .bool b] ∧ GdT w L r
  | 8 => ∃ r b, v = .tuple #[.agg #[r], .bool b] ∧ GdT w L r
  | 9 => ∃ r, v = .agg #[r] ∧ GdT w L r
  | 10 => ∃ b, v = .bool b
  | 13 => ∃ b, v = .bool b
  | _ => True
def DtS (rb : Nat) (j : Nat) (w w' : World) : Prop :=
  if j = 2 ∨ j = 4 ∨ j = 6 then Chg (· = rb) w w' else if j = 12 then Chg (fun b => ∃ cur fr, w.heap[b]? = some (.cells cur 26 fr)) w w' else Below w.heap.size w w'
theorem GdT.chg {w w' : World} {L rb : Nat} {r : Value} (hrb : rb < L) (h : GdT w L r) (c : Chg (· = rb) w w') : GdT w' L r := by
  obtain ⟨t, h1, h2⟩ := h
  exact ⟨t, h1, (h2.chg c (fun b hb _ hs => by omega)).mono c.size⟩
theorem GdT.chgT {w w' : World} {L : Nat} {r : Value} (h : GdT w L r) (c : Chg (fun b => ∃ cur fr, w.heap[b]? = some (.cells cur 26 fr)) w w') : GdT w' L r := by
  obtain ⟨t, h1, h2⟩ := h
  exact ⟨t, h1, (h2.chgT c fun b hb => hb).mono c.size⟩
theorem GdT.below {w w' : World} {L : Nat} {r : Value} (h : GdT w L r) (c : Below w.heap.size w w') : GdT w' L r := by
  obtain ⟨t, h1, h2⟩ := h
  exact ⟨t, h1, (h2.below c).mono c.size⟩
theorem GdT.go {w w' : World} {L rb j : Nat} {r : Value} (hrb : rb < L) (hS : DtS rb j w w') (h : GdT w L r) : GdT w' L r := by
  unfold DtS at hS
  split at hS
  · exact h.chg hrb hS
  · split at hS
    · exact h.chgT hS
    · exact h.below hS
theorem dt_stable {L rb i j : Nat} {sl v : Value} {w w' : World} (hrb : rb < L) (hS : DtS rb j w w') (h : DtPhi L rb sl i v w) : DtPhi L rb sl i v w' := by
  unfold DtPhi at *
  split at h
  all_goals first
    | exact h
    | (obtain ⟨r, b, h1, h2⟩ := h; exact ⟨r, b, h1, h2.go hrb hS⟩)
    | (obtain ⟨r, h1, h2⟩ := h; exact ⟨r, h1, h2.go hrb hS⟩)

def dcnt (D : Nat → Bool) : Nat := (D 2).toNat + (D 4).toNat + (D 6).toNat
def DtJ (H : Nat) (L rb m : Nat) (wo : World) (D : Nat → Bool) (V : Nat → Value) (w' : World) : Prop :=
  Chg (· = rb) wo w' ∧ RdLe H w' rb (m + dcnt D) ∧ (D 11 = true → ∃ B u, V 11 = .pointer (some ⟨B, 0, none⟩) ∧ L ≤ B ∧ w'.heap[B]? = some (.cells #[u] 26) ∧ (D 12 = true → GdT w' L u))
theorem dcnt_le (D : Nat → Bool) : dcnt D ≤ 3 := by
  unfold dcnt
  cases D 2 <;> cases D 4 <;> cases D 6 <;> simp
theorem dtJ_step {L rb m : Nat} {wo : World} {D : Nat → Bool} {V : Nat → Value} {v : Value} {w' w'' : World} {i : Nat} (hi : i ≠ 2 ∧ i ≠ 4 ∧ i ≠ 6 ∧ i ≠ 11 ∧ i ≠ 12) (hB : Below w'.heap.size w' w'') (h : DtJ H L rb m wo D V w') :
    DtJ H L rb m wo (fun j => D j || j == i) (fun j => if j = i then v else V j) w'' := by
  obtain ⟨h1, h2, h3⟩ := h
  have e2 : (2 == i) = false := by simpa using fun h => hi.1 h.symm
  have e4 : (4 == i) = false := by simpa using fun h => hi.2.1 h.symm
  have e6 : (6 == i) = false := by simpa using fun h => hi.2.2.1 h.symm
  have e11 : (11 == i) = false := by simpa using fun h => hi.2.2.2.1 h.symm
  have e12 : (12 == i) = false := by simpa using fun h => hi.2.2.2.2 h.symm
  refine ⟨h1.trans (below_chg hB _), ?_, fun hd => ?_⟩
  · simp only [dcnt, e2, e4, e6, Bool.or_false]
    exact h2.kept hB
  · simp only [e11, Bool.or_false] at hd
    obtain ⟨B, u, g1, g2, g3, g4⟩ := h3 hd
    refine ⟨B, u, (if_neg (fun h => hi.2.2.2.1 h.symm)).trans g1, g2, box_keep g3 hB, fun h12 => ?_⟩
    simp only [e12, Bool.or_false] at h12
    exact (g4 h12).below hB
theorem dtJ_pick {L rb m : Nat} {wo : World} {D : Nat → Bool} {V : Nat → Value} {v : Value} {w' w'' : World} {i : Nat} (hi : i = 2 ∨ i = 4 ∨ i = 6) (hD : D i = false) (hrb : rb < L) (c : Chg (· = rb) w' w'') (hr : RdLe H w'' rb (m + dcnt D + 1)) (h : DtJ H L rb m wo D V w') :
    DtJ H L rb m wo (fun j => D j || j == i) (fun j => if j = i then v else V j) w'' := by
  obtain ⟨h1, h2, h3⟩ := h
  refine ⟨h1.trans c, ?_, fun hd => ?_⟩
  · have e : dcnt (fun j => D j || j == i) = dcnt D + 1 := by
      rcases hi with rfl | rfl | rfl <;> simp [dcnt, hD] <;> omega
    rw [e]
    exact hr
  · have hd' : D 11 = true := by rcases hi with rfl | rfl | rfl <;> simpa using hd
    obtain ⟨B, u, g1, g2, g3, g4⟩ := h3 hd'
    refine ⟨B, u, (if_neg (by rcases hi with rfl | rfl | rfl <;> decide)).trans g1, g2, box_chg g3 c (by omega), fun h12 => ?_⟩
    have h12' : D 12 = true := by rcases hi with rfl | rfl | rfl <;> simpa using h12
    exact (g4 h12').chg hrb c

/-- The first number of a list left out. -/
theorem RI.tail {w : World} {lo hi g off cap : Nat} {xs : List Int} (h : RI w lo hi (.slice (some ⟨g, off, none⟩) xs.length cap) xs) (h0 : 0 < xs.length) : RI w lo hi (.slice (some ⟨g, off + 1, none⟩) (xs.length - 1) (cap - 1)) (xs.drop 1) := by
  have hl : (xs.drop 1).length = xs.length - 1 := by simp
  obtain ⟨⟨hl0, a', cap', b, off', he, h1, h2, h3, h4⟩, hw⟩ := h
  simp only [Value.slice.injEq] at he
  obtain ⟨ha, -, rfl⟩ := he
  obtain ⟨e1, hlo, hhi⟩ := h3 h0
  rw [e1] at ha
  simp only [Option.some.injEq, Addr.mk.injEq, and_true] at ha
  obtain ⟨rfl, rfl⟩ := ha
  refine ⟨?_, fun x hx => hw x (List.mem_of_mem_drop hx)⟩
  rw [hl]
  refine ⟨by simp, some ⟨g, off + 1, none⟩, cap - 1, g, off + 1, rfl, by omega, by omega, fun _ => ⟨rfl, hlo, hhi⟩, fun j hj => ?_⟩
  rw [List.map_drop, List.getElem?_drop, Nat.add_assoc]
  exact h4 (1 + j) (by omega)
/-- The first number of one list left out. -/
theorem OT.cut {w : World} {lo hi : Nat} {v : Value} {xss : List (List Int)} (h : OT w lo hi v xss) (f : Nat) (hf : f < xss.length) (hp : 0 < xss[f].length) :
    ∃ (a cap g cap' : Nat), v = .slice (some ⟨a, 0, none⟩) xss.length cap ∧ xss.length ≤ cap ∧ w.cell? ⟨a, f, none⟩ = some (.slice (some ⟨g, 0, none⟩) xss[f].length cap') ∧ xss[f].length ≤ cap' ∧
      w.frozen? ⟨a, f, none⟩ = false ∧ (lo ≤ a ∧ a < hi) ∧ RT (w.setCell ⟨a, f, none⟩ (.slice (some ⟨g, 1, none⟩) (xss[f].length - 1) (cap' - 1))) lo hi v (xss.set f (xss[f].drop 1)) := by
  obtain ⟨vs, h1, h2, h3⟩ := h
  obtain ⟨u, hu, ho, hb⟩ := h3.get f hf
  have ho' : OI w lo u xss[f] := ho
  obtain ⟨a, cap, rfl, ha1, ha2, ha3⟩ := own_shape1 h1 (show 0 < xss.length by omega)
  obtain ⟨g, cap', rfl, hg1, hg2, hg3⟩ := own_shape1 ho'.1 (show 0 < xss[f].length by omega)
  refine ⟨a, cap, g, cap', rfl, ha3, ?_, hg3, h1.frozenAt f, ⟨ha1, h2 a rfl⟩, ?_⟩
  · rw [h1.cellAt f (by omega)]; exact hu
  have hst := (h1.stored f (.slice (some ⟨g, 1, none⟩) (xss[f].length - 1) (cap' - 1))).1
  have hc : Chg (fun b => (Value.slice (some ⟨a, 0, none⟩) xss.length cap).ownBlock = some b) w (w.setCell ⟨a, f, none⟩ (.slice (some ⟨g, 1, none⟩) (xss[f].length - 1) (cap' - 1))) := Chg.setCell (S := fun b => (Value.slice (some ⟨a, 0, none⟩) xss.length cap).ownBlock = some b) (Chg.refl _ w) (p := ⟨a, f, none⟩) (.inr rfl) _
  have hrow : ∀ (k : Nat) (hk : k < xss.length) (u : Value), vs[k]? = some u → RI (w.setCell ⟨a, f, none⟩ (.slice (some ⟨g, 1, none⟩) (xss[f].length - 1) (cap' - 1))) lo hi u xss[k] := fun k hk u hu => by
    have ho : OI w lo u xss[k] := (h3.2.1 k hk u hu).1
    have ho2 := ho.chg hc (fun b _ hb1 hb2 => own_apart ho.1 h1 (by decide) b hb1 hb2)
    exact ⟨reads_hi ho2.1 (h3.2.1 k hk u hu).2, ho2.2⟩
  refine ⟨vs.set f (.slice (some ⟨g, 1, none⟩) (xss[f].length - 1) (cap' - 1)), ?_, fun k hk u' hu' => ?_⟩
  · rw [List.length_set]
    exact reads_hi hst h2
  · rw [List.length_set] at hk
    by_cases e : f = k
    · subst e
      have hv : f < vs.length := by rw [h3.1]; exact hf
      rw [List.getElem?_set_self hv] at hu'
      cases hu'
      rw [List.getElem_set_self]
      have := hrow f hf _ hu
      exact this.tail hp
    · rw [List.getElem?_set_ne e] at hu'
      rw [List.getElem_set_ne e]
      exact hrow k hk u' hu'

/-- The end's state: box C holds a table that reads as t. -/
def DtE (H : Nat) (w : World) (rb m C : Nat) (wr : World) : Prop :=
  ∃ sl t, RT wr (w.heap.size + 1) wr.heap.size sl t ∧ tsz t ≤ 100 ∧ wr.heap[C]? = some (.cells #[sl] 26) ∧ wr.heap[w.heap.size]? = some (.cells #[.slice none 0 0] 26) ∧ RdLe H wr rb m ∧ Chg (· = rb) w wr ∧ rb < w.heap.size ∧ w.heap.size < C
theorem tsz_six {t : List (List Int)} (h8 : t.length = 8) (h6 : ∀ l ∈ t, l.length ≤ 6) : tsz t ≤ 100 := by
  have : ∀ t : List (List Int), (∀ l ∈ t, l.length ≤ 6) → (t.map List.length).sum ≤ 6 * t.length := by
    intro t
    induction t with
    | nil => intro _; simp
    | cons a t ih =>
      intro h
      have := ih fun l hl => h l (by simp [hl])
      have := h a (by simp)
      simp only [List.map_cons, List.sum_cons, List.length_cons]
      omega
  have := this t h6
  unfold tsz
  omega
theorem DtR.end {w wr : World} {rb m C : Nat} (h : DtR H w rb m C wr) : DtE H w rb m C wr := by
  obtain ⟨sl, t, lo, hi, h1, h2, h3, h4, h5, h6, h7, h8, h9, h10, h11⟩ := h
  exact ⟨sl, t, h1.rt.wide (by omega) h4, tsz_six (tab_len h2) (fun l hl => by have := (tabVal_iff.1 h2).2.1 l hl; omega), h6, h7, h8, h9, h10, h11⟩
/-- What the last region leaves. -/
theorem DtE.ret {w wr : World} {rb q m C : Nat} (h : DtE H w rb m C wr) (hm : m ≤ q + 60) :
    ∃ a n cap, wr.heap[C]? = some (.cells #[.slice a n cap] 26) ∧ wr.heap[w.heap.size]? = some (.cells #[.slice none 0 0] 26) ∧ DrawT H rb q w (.returned (.agg #[.slice a n cap])) (wr.setCell ⟨w.heap.size, 0, none⟩ (.slice a n cap)) := by
  obtain ⟨sl, t, h1, h2, h3, h4, h5, h6, h7, h8⟩ := h
  obtain ⟨a, cap, b, off, rfl, -⟩ := h1.open
  refine ⟨a, t.length, cap, h3, h4, _, t, rfl, ?_, h2, ?_, ?_⟩
  all_goals have hc : Chg (fun b => b = w.heap.size) wr (wr.setCell ⟨w.heap.size, 0, none⟩ (.slice a t.length cap)) := Chg.setCell (S := fun b => b = w.heap.size) (Chg.refl _ wr) (p := ⟨w.heap.size, 0, none⟩) (.inr rfl) _
  · exact (h1.chg hc (fun b hb _ hs => by omega)).wide (by omega) hc.size
  · exact (h5.chg hc (fun k hk he => by omega)).up hm
  · exact h6.setCell (p := ⟨w.heap.size, 0, none⟩) (.inl (Nat.le_refl _)) _
theorem dt_cut {w wr : World} {rb m C : Nat} (h : DtR H w rb m C wr) :
    ∃ a cap g cap', wr.heap[C]? = some (.cells #[.slice (some ⟨a, 0, none⟩) 8 cap] 26) ∧ wr.cell? ⟨a, 0, none⟩ = some (.slice (some ⟨g, 0, none⟩) 6 cap') ∧ 6 ≤ cap' ∧ wr.frozen? ⟨a, 0, none⟩ = false ∧
      DtE H w rb m C (wr.setCell ⟨a, 0, none⟩ (.slice (some ⟨g, 1, none⟩) 5 (cap' - 1))) := by
  obtain ⟨sl, t, lo, hi, h1, h2, h3, h4, h5, h6, h7, h8, h9, h10, h11⟩ := h
  have hl := tab_len h2
  have hr : t[0].length = 6 := tab_row h2 (by omega)
  obtain ⟨a, cap, g, cap', rfl, q1, q2, q3, q4, q5, q6⟩ := h1.cut 0 (by omega) (by omega)
  simp only [hr, hl] at q2 q3 q6 h6
  refine ⟨a, cap, g, cap', h6, q2, q3, q4, ?_⟩
  have hc : Chg (fun b => b = a) wr (wr.setCell ⟨a, 0, none⟩ (.slice (some ⟨g, 1, none⟩) 5 (cap' - 1))) := Chg.setCell (S := fun b => b = a) (Chg.refl _ wr) (p := ⟨a, 0, none⟩) (.inr rfl) _
  refine ⟨_, _, q6.wide (by omega) (Nat.le_trans h4 hc.size), tsz_six (by simp [hl]) (fun l hl => ?_), box_chg h6 hc (by omega), box_chg h7 hc (by omega), h8.chg hc (fun k hk he => by omega), h9.setCell (p := ⟨a, 0, none⟩) (.inl (show w.heap.size ≤ a by omega)) _, h10, h11⟩
  rcases List.mem_or_eq_of_mem_set hl with h | rfl
  · have := (tabVal_iff.1 h2).2.1 l h; omega
  · simp [hr]
/-- As DtR; the numbers may be anything. -/
def DtW (H : Nat) (w : World) (rb m C : Nat) (wr : World) : Prop :=
  ∃ sl t lo hi, OT wr lo hi sl t ∧ (t.length = 8 ∧ ∀ l ∈ t, l.length = 6) ∧ w.heap.size + 1 ≤ lo ∧ hi ≤ wr.heap.size ∧ (C < lo ∨ hi ≤ C) ∧
    wr.heap[C]? = some (.cells #[sl] 26) ∧ wr.heap[w.heap.size]? = some (.cells #[.slice none 0 0] 26) ∧ RdLe H wr rb m ∧ Chg (· = rb) w wr ∧ rb < w.heap.size ∧ w.heap.size < C
theorem DtR.weak {w wr : World} {rb m C : Nat} (h : DtR H w rb m C wr) : DtW H w rb m C wr := by
  obtain ⟨sl, t, lo, hi, h1, h2, h3⟩ := h
  exact ⟨sl, t, lo, hi, h1, ⟨tab_len h2, (tabVal_iff.1 h2).2.1⟩, h3⟩
theorem DtW.end {w wr : World} {rb m C : Nat} (h : DtW H w rb m C wr) : DtE H w rb m C wr := by
  obtain ⟨sl, t, lo, hi, h1, h2, h3, h4, h5, h6, h7, h8, h9, h10, h11⟩ := h
  exact ⟨sl, t, h1.rt.wide (by omega) h4, tsz_six h2.1 (fun l hl => by have := h2.2 l hl; omega), h6, h7, h8, h9, h10, h11⟩
theorem dt_set {w wr : World} {rb m C : Nat} (h : DtW H w rb m C wr) {f p : Nat} (hf : f < 8) (hp : p < 6) :
    ∃ a cap g cap', wr.heap[C]? = some (.cells #[.slice (some ⟨a, 0, none⟩) 8 cap] 26) ∧ wr.cell? ⟨a, f, none⟩ = some (.slice (some ⟨g, 0, none⟩) 6 cap') ∧ 6 ≤ cap' ∧ (∃ u, wr.cell? ⟨g, p, none⟩ = some u) ∧ wr.frozen? ⟨g, p, none⟩ = false ∧
      (rb < a ∧ rb < g ∧ rb < C ∧ a < wr.heap.size ∧ g < wr.heap.size ∧ C < wr.heap.size) ∧ ∀ w' m', Chg (· = rb) wr w' → RdLe H w' rb m' → ∀ x, I64 x → DtW H w rb m' C (w'.setCell ⟨g, p, none⟩ (.int .i64 x)) := by
  obtain ⟨sl, t, lo, hi, h1, h2, h3, h4, h5, h6, h7, h8, h9, h10, h11⟩ := h
  have hft : f < t.length := by omega
  have hr : t[f].length = 6 := h2.2 _ (List.getElem_mem hft)
  obtain ⟨a, cap, g, cap', rfl, q1, q2, q3, q4, q5, q6, q7⟩ := h1.store f p hft (by omega)
  have ha : lo ≤ a ∧ a < hi := by
    obtain ⟨vs, k1, k2, -⟩ := h1
    exact ⟨(k1.lt a rfl).1, k2 a rfl⟩
  have hC := (Array.getElem?_eq_some_iff.1 h6).1
  refine ⟨a, cap, g, cap', by rw [← h2.1]; exact h6, by rw [← hr]; exact q2, by omega, q4, q5, by omega, fun w' m' hc hr' x hx => ?_⟩
  have ho : OT w' lo hi (.slice (some ⟨a, 0, none⟩) t.length cap) t := h1.chg hc (fun b hb _ hs => by omega)
  have h2' : (t.set f (t[f].set p x)).length = 8 ∧ ∀ l ∈ t.set f (t[f].set p x), l.length = 6 := by
    refine ⟨by rw [List.length_set]; exact h2.1, fun l hl => ?_⟩
    rcases List.mem_or_eq_of_mem_set hl with h | rfl
    · exact h2.2 l h
    · rw [List.length_set]; exact hr
  obtain ⟨a', c', g', d', e1, -, e2, -, -, -, -, e7⟩ := ho.store f p hft (by omega)
  simp only [Value.slice.injEq, Option.some.injEq, Addr.mk.injEq, and_true, true_and] at e1
  obtain ⟨rfl, rfl⟩ := e1
  rw [hc.cell (p := ⟨a, f, none⟩) (show a < wr.heap.size by omega) (show ¬ a = rb by omega), q2] at e2
  simp only [Option.some.injEq, Value.slice.injEq, Addr.mk.injEq, and_true, true_and] at e2
  obtain ⟨rfl, rfl⟩ := e2
  have hc2 : Chg (fun b => b = g) w' (w'.setCell ⟨g, p, none⟩ (.int .i64 x)) := Chg.setCell (S := fun b => b = g) (Chg.refl _ w') (p := ⟨g, p, none⟩) (.inr rfl) _
  have hz := hc.size
  exact ⟨_, _, lo, hi, e7 x hx, h2', h3, by have := hc2.size; omega, h5, box_chg (box_chg h6 hc (by omega)) hc2 (by omega), box_chg (box_chg h7 hc (by omega)) hc2 (by omega), hr'.chg hc2 (fun k hk he => by omega), (h9.trans hc).setCell (p := ⟨g, p, none⟩) (.inl (show w.heap.size ≤ g by omega)) _, h10, h11⟩
theorem DtE.drew {w wr : World} {rb m C : Nat} (h : DtE H w rb m C wr) : DtE H w rb m C wr.drew := by
  obtain ⟨sl, t, h1, h2, h3, h4, h5, h6, h7, h8⟩ := h
  exact ⟨sl, t, h1.below (bdrew _), h2, h3, h4, h5.kept (bdrew _), h6.drew, h7, h8⟩

/-- The words of region 16. -/
def DsPhi (L rb C a g cap cap' : Nat) (i : Nat) (v : Value) (w : World) : Prop :=
  match i with
  | 0 => v = .pointer (some ⟨C, 0, none⟩)
  | 1 => v = .slice (some ⟨a, 0, none⟩) 8 cap
  | 2 => v = .pointer (some ⟨a, 0, none⟩)
  | 3 => v = .slice (some ⟨g, 0, none⟩) 6 cap'
  | 4 => ∃ B, v = .slice (some ⟨B, 0, none⟩) 2 2 ∧ L ≤ B ∧ w.heap[B]? = some (.cells #[.int .i64 (-2), .int .i64 48] 3)
  | 5 => v = .pointer (some ⟨rb, 0, none⟩)
  | 6 => ∃ j : Nat, v = .int .i64 j ∧ j < 2
  | 7 => ∃ B j, v = .pointer (some ⟨B, j, none⟩) ∧ j < 2 ∧ L ≤ B ∧ w.heap[B]? = some (.cells #[.int .i64 (-2), .int .i64 48] 3)
  | 8 => ∃ x, v = .int .i64 x ∧ I64 x
  | 9 => v = .pointer (some ⟨g, 0, none⟩)
  | _ => True
def DsS (rb g : Nat) (j : Nat) (w w' : World) : Prop := if j = 6 then Chg (· = rb) w w' else if j = 10 then Chg (· = g) w w' else Below w.heap.size w w'
theorem ds_keep {rb g j L B : Nat} {w w' : World} {o : Obj} (hrb : rb < L) (hg : g < L) (hS : DsS rb g j w w') (hB : L ≤ B) (h : w.heap[B]? = some o) : w'.heap[B]? = some o := by
  unfold DsS at hS
  split at hS
  · exact box_chg h hS (by omega)
  · split at hS
    · exact box_chg h hS (by omega)
    · exact box_keep h hS
theorem ds_stable {L rb C a g cap cap' i j : Nat} {v : Value} {w w' : World} (hrb : rb < L) (hg : g < L) (hS : DsS rb g j w w') (h : DsPhi L rb C a g cap cap' i v w) : DsPhi L rb C a g cap cap' i v w' := by
  unfold DsPhi at *
  split at h
  all_goals first
    | exact h
    | (obtain ⟨B, h1, h2, h3⟩ := h; exact ⟨B, h1, h2, ds_keep hrb hg hS h2 h3⟩)
    | (obtain ⟨B, k, h1, h4, h2, h3⟩ := h; exact ⟨B, k, h1, h4, h2, ds_keep hrb hg hS h2 h3⟩)
def DsJ (H : Nat) (w : World) (rb m C : Nat) (wo : World) (D : Nat → Bool) (w' : World) : Prop :=
  (D 10 = false → Chg (· = rb) wo w' ∧ RdLe H w' rb (m + (D 6).toNat)) ∧ (D 10 = true → DtE H w rb (m + 1) C w')
theorem dsJ_step {w : World} {rb m C : Nat} {wo : World} {D : Nat → Bool} {w' w'' : World} {i : Nat} (hi : i ≠ 6 ∧ i ≠ 10) (h10 : D 10 = false) (hB : Below w'.heap.size w' w'') (h : DsJ H w rb m C wo D w') : DsJ H w rb m C wo (fun j => D j || j == i) w'' := by
  have e6 : (6 == i) = false := by simpa using fun h => hi.1 h.symm
  have e10 : (10 == i) = false := by simpa using fun h => hi.2 h.symm
  obtain ⟨h1, h2⟩ := h.1 h10
  refine ⟨fun _ => ⟨h1.trans (below_chg hB _), ?_⟩, fun hd => ?_⟩
  · simp only [e6, Bool.or_false]
    exact h2.kept hB
  · simp [e10, h10] at hd

theorem dt_nil {w wr : World} {rb q m C : Nat} (h : DtR H w rb m C wr) (hm : m ≤ q + 60) : DrawT H rb q w (.returned (.agg #[.slice none 0 0])) (wr.setCell ⟨w.heap.size, 0, none⟩ (.slice none 0 0)) := by
  obtain ⟨sl, t, lo, hi, h1, h2, h3, h4, h5, h6, h7, h8, h9, h10, h11⟩ := h
  have hc : Chg (fun b => b = w.heap.size) wr (wr.setCell ⟨w.heap.size, 0, none⟩ (.slice none 0 0)) := Chg.setCell (S := fun b => b = w.heap.size) (Chg.refl _ wr) (p := ⟨w.heap.size, 0, none⟩) (.inr rfl) _
  exact ⟨_, [], rfl, rt_nil _ _ _, by simp [tsz], (h8.chg hc (fun k hk he => by omega)).up hm, h9.setCell (p := ⟨w.heap.size, 0, none⟩) (.inl (Nat.le_refl _)) _⟩

set_option maxHeartbeats 4000000 in
theorem l20Table_any (w : World) (rb q : Nat) (m : Int) (hr : RdLe H w rb q) (hq : q ≤ 1000) (hm0 : 0 ≤ m) (hm : m ≤ 1000) :
    Calls Try.prog 72 #[.pointer (some ⟨rb, 0, none⟩), .int .i64 m] w (DrawT H rb q w) := by
  have hrb := hr.lt
  have HB0 := Lib.hid (balloc w (.cells #[.slice none 0 0] 26))
  have HRd := Lib.hid (hr.kept HB0.out)
  have X0 := Lib.hid (heap_alloc_new w (.cells #[.slice none 0 0] 26))
  clear hr
  go_enter Try.func72, Try.ntmps72
  go_wp2_with fail
  refine (new_any _).mono ?_
  rintro e w1 ⟨v1, rfl, o1, c⟩
  obtain ⟨a1, cap1, b1, off1, rfl, -⟩ := o1.rt.open
  have c1 := balloc w1 (.cells #[.slice a1 (T0 8).length cap1] 26)
  have ez : (w.alloc (.cells #[.slice none 0 0] 26)).heap.size = w.heap.size + 1 := by simp
  have z1 := c.size
  rw [ez] at z1
  have HS : Hid (DtR H w rb q w1.heap.size (w1.alloc (.cells #[.slice a1 (T0 8).length cap1] 26))) :=
    Lib.hid ⟨_, T0 8, _, _, o1.below c1, T0_val, by rw [ez]; exact Nat.le_refl _, by simp, .inr (Nat.le_refl _), heap_alloc_new w1 _, box_keep X0.out (bup2 c c1), HRd.out.kept (bup2 c c1), below_chg (bup2 HB0.out (bup2 c c1)) _, hrb, by omega⟩
  have h8 : (T0 8).length = 8 := by simp [T0]
  rw [h8] at HS
  clear c c1 o1
  simp only [h8]
  have HP := HS.out
  obtain ⟨-, -, -, -, -, -, -, -, -, -, -, hrd, -⟩ := HP
  have hrd0 := hrd
  clear hrd
  have HRD := Lib.hid hrd0
  clear hrd0
  go_wp2_with fail
  refine (pick_le _ rb q 12 HRD.out (by omega) (by omega) (by omega)).mono ?_
  rintro e w2 ⟨k, rfl, k0, k1, r2, c2, -⟩
  have HD : Hid (DtR H w rb (q + 1) w1.heap.size w2) := Lib.hid (HS.out.pick c2 r2)
  obtain ⟨j, rfl⟩ := Int.eq_ofNat_of_zero_le k0
  clear r2 c2 HS HRD
  go_wp2_with fail
  go_loopw [6, 7, 8] (fun i _ _ wr => ∃ n : Nat, n ≤ 11 ∧ i = .int .i64 n ∧ Hid (DtR H w rb (q + 1 + 3 * (11 - n)) w1.heap.size wr)) (fun i _ _ _ => (intOf i).toNat)
  case atStart => exact ⟨j, by omega, rfl, Lib.hid (by
    obtain ⟨sl, t, lo, hi, h1, h2, h3, h4, h5, h6, h7, h8, h9, h10, h11⟩ := HD.out
    exact ⟨sl, t, lo, hi, h1, h2, h3, h4, h5, h6, h7, h8.up (by omega), h9, h10, h11⟩)⟩
  case round =>
    obtain ⟨n, hn, rfl, HR⟩ := hrel
    obtain ⟨wo, rfl⟩ : ∃ wo : World, wo = wr := ⟨_, rfl⟩
    clear HD
    by_cases hn0 : 0 < n
    · obtain ⟨sl, t, lo, hi, g1, g2, g3, g4, g5, g6, g7, g8, g9, g10, g11⟩ := HR.out
      obtain ⟨hb, -⟩ := one_at g6
      have HG := Lib.hid (And.intro g1 (And.intro g2 (And.intro g3 (And.intro g4 (And.intro g5 (And.intro g6 (And.intro g7 (And.intro g8 g9))))))))
      have zC := (Array.getElem?_eq_some_iff.1 g6).1
      clear g1 g2 g3 g4 g5 g6 g7 g8 g9 HR
      have hnd : decide (0 < (n : Int)) = true := by simp; omega
      go_wp2_with fail
      refine wp_region_val (DtJ H wo.heap.size rb (q + 1 + 3 * (11 - n)) wo) (DtS rb) (DtPhi wo.heap.size rb sl) (fun _ => none) (by kernel_rfl) (by kernel_rfl) ?hS ?h0 ?hop ?hend
      case hS => exact fun i j v w w' _ _ hS h => dt_stable (by omega) hS h
      case h0 => exact ⟨(Chg.refl _ _).drew, HG.out.2.2.2.2.2.2.2.1.kept (bdrew _), fun h => by cases h⟩
      case hop =>
        intro i o hi V D w' hD hcl hdp hJ hd
        have hi' : i = 0 ∨ i = 1 ∨ i = 2 ∨ i = 3 ∨ i = 4 ∨ i = 5 ∨ i = 6 ∨ i = 7 ∨ i = 8 ∨ i = 9 ∨ i = 10 ∨ i = 11 ∨ i = 12 ∨ i = 13 := by
          have := (List.getElem?_eq_some_iff.1 hi).1
          simp at this
          omega
        have hz := hJ.1.size
        rcases hi' with rfl | rfl | rfl | rfl | rfl | rfl | rfl | rfl | rfl | rfl | rfl | rfl | rfl | rfl
        all_goals
          simp at hi
          subst hi
          simp [Region.binds, DtPhi] at hd
        all_goals have hcn := dcnt_le D
        · obtain ⟨hb', -⟩ := one_at (box_chg HG.out.2.2.2.2.2.1 hJ.1 (by omega))
          simp [Frees, frameOf, go_sem, hb']
          exact ⟨rfl, Below.refl _ _, dtJ_step (by decide) (Below.refl _ _) hJ⟩
        · simp [Frees, frameOf, go_sem]
          exact ⟨rfl, Below.refl _ _, dtJ_step (by decide) (Below.refl _ _) hJ⟩
        · simp [Frees, frameOf, go_sem, hd]
          refine (pick_le _ rb _ 4 hJ.2.1 (by omega) (by omega) (by omega)).mono ?_
          rintro e w'' ⟨x, rfl, x0, x1, r, c, -⟩
          exact ⟨_, rfl, ⟨x, rfl, x0, x1⟩, c, dtJ_pick (.inl rfl) hD (by omega) c r hJ⟩
        · simp [Frees, frameOf, go_sem]
          exact ⟨rfl, Below.refl _ _, dtJ_step (by decide) (Below.refl _ _) hJ⟩
        · simp [Frees, frameOf, go_sem, hd]
          refine (pick_le _ rb _ 6 hJ.2.1 (by omega) (by omega) (by omega)).mono ?_
          rintro e w'' ⟨x, rfl, x0, x1, r, c, -⟩
          exact ⟨_, rfl, ⟨x, rfl, x0, x1⟩, c, dtJ_pick (.inr (.inl rfl)) hD (by omega) c r hJ⟩
        · simp [Frees, frameOf, go_sem]
          exact ⟨rfl, Below.refl _ _, dtJ_step (by decide) (Below.refl _ _) hJ⟩
        · simp [Frees, frameOf, go_sem, hd]
          refine (pick_le _ rb _ 24 hJ.2.1 (by omega) (by omega) (by omega)).mono ?_
          rintro e w'' ⟨x, rfl, x0, x1, r, c, -⟩
          exact ⟨_, rfl, ⟨x, rfl, x0, x1⟩, c, dtJ_pick (.inr (.inr rfl)) hD (by omega) c r hJ⟩
        · obtain ⟨e0, ⟨x2, e2, p20, p21⟩, ⟨x4, e4, p40, p41⟩, x6, e6, p60, p61⟩ := hd
          obtain ⟨f, rfl⟩ := Int.eq_ofNat_of_zero_le p20
          obtain ⟨p, rfl⟩ := Int.eq_ofNat_of_zero_le p40
          simp [Frees, frameOf, go_sem, e0, e2, e4, e6]
          refine (specPutT_any sl t f p x6 _ _ w' (HG.out.1.chg hJ.1 (fun b hb _ hs => by have := HG.out.2.2.1; omega)).rt).mono ?_
          rintro e w'' ⟨r, rfl, o, c⟩
          refine ⟨_, rfl, ⟨r, _, rfl, _, ?_, (o.wide hz)⟩, c, dtJ_step (by decide) c hJ⟩
          have h8 := tab_len HG.out.2.1
          rw [tput_in HG.out.2.1 (by omega) (by omega) (by omega) (by omega)]
          split
          · assumption
          · exact HG.out.2.1
        · obtain ⟨r, h1, h2⟩ := hd
          simp [Frees, frameOf, go_sem]
          refine ⟨?_, Below.refl _ _, dtJ_step (by decide) (Below.refl _ _) hJ⟩
          rcases h1 with h1 | h1
          · exact ⟨r, _, h1, h2⟩
          · exact ⟨r, _, h1, h2⟩
        · obtain ⟨r, h1, h2⟩ := hd
          rcases h1 with h1 | h1
          · simp [Frees, frameOf, go_sem, h1]
            exact ⟨⟨r, rfl, h2⟩, Below.refl _ _, dtJ_step (by decide) (Below.refl _ _) hJ⟩
          · simp [Frees, frameOf, go_sem, h1]
            exact ⟨⟨r, rfl, h2⟩, Below.refl _ _, dtJ_step (by decide) (Below.refl _ _) hJ⟩
        · obtain ⟨r, h1, h2⟩ := hd
          rcases h1 with h1 | h1
          · simp [Frees, frameOf, go_sem, h1]
            exact ⟨⟨_, rfl⟩, Below.refl _ _, dtJ_step (by decide) (Below.refl _ _) hJ⟩
          · simp [Frees, frameOf, go_sem, h1]
            exact ⟨⟨_, rfl⟩, Below.refl _ _, dtJ_step (by decide) (Below.refl _ _) hJ⟩
        · have hD12 : D 12 = false := by
            cases hx : D 12 with
            | false => rfl
            | true => exact absurd (hcl 12 hx _ (List.elem_iff.1 (by kernel_rfl))) (by rw [hD]; decide)
          have hB := balloc w' (.cells #[.slice none 0 0] 26)
          simp [Frees, frameOf, go_sem]
          refine ⟨trivial, hB, hJ.1.trans (below_chg hB _), ?_, fun _ => ⟨w'.heap.size, _, rfl, hz, heap_alloc_new w' _, fun h => by simp [hD12] at h⟩⟩
          have := hJ.2.1.kept hB
          simpa [dcnt] using this
        · simp [Region.binds] at hdp
          obtain ⟨B, u, b1, b2, b3, -⟩ := hJ.2.2 hdp.1
          obtain ⟨⟨r, e9, t', hv', o9⟩, -⟩ := hd
          obtain ⟨a9, c9, b9, f9, rfl, -⟩ := o9.rt.open
          obtain ⟨d1, d2⟩ := one_at b3
          have hc : Chg (fun b => ∃ cur fr, w'.heap[b]? = some (.cells cur 26 fr)) w' (w'.setCell ⟨B, 0, none⟩ (.slice a9 t'.length c9)) := Chg.setCell (S := fun b => ∃ cur fr, w'.heap[b]? = some (.cells cur 26 fr)) (Chg.refl _ w') (p := ⟨B, 0, none⟩) (.inr ⟨_, _, b3⟩) _
          have hc2 : Chg (fun b => b = B) w' (w'.setCell ⟨B, 0, none⟩ (.slice a9 t'.length c9)) := Chg.setCell (S := fun b => b = B) (Chg.refl _ w') (p := ⟨B, 0, none⟩) (.inr rfl) _
          have hJ3 : DtJ H wo.heap.size rb (q + 1 + 3 * (11 - n)) wo (fun j => D j || j == 12) (fun j => if j = 12 then undef else V j) (w'.setCell ⟨B, 0, none⟩ (.slice a9 t'.length c9)) := by
            refine ⟨hJ.1.setCell (p := ⟨B, 0, none⟩) (.inl b2) _, ?_, fun _ => ⟨B, _, by simpa using b1, b2, box_set b3 _, fun _ => GdT.chgT ⟨t', hv', o9⟩ hc⟩⟩
            have := hJ.2.1.chg hc2 (fun k hk he => by omega)
            simpa [dcnt] using this
          simp [Frees, frameOf, go_sem, b1, e9, d1, d2]
          exact ⟨trivial, hc, hJ3⟩
        · have h10 := hd.1
          rcases h10 with h1 | h1
          · simp [Frees, frameOf, go_sem, h1]
            exact ⟨⟨_, rfl⟩, Below.refl _ _, dtJ_step (by decide) (Below.refl _ _) hJ⟩
          · simp [Frees, frameOf, go_sem, h1]
            exact ⟨⟨_, rfl⟩, Below.refl _ _, dtJ_step (by decide) (Below.refl _ _) hJ⟩
      case hend =>
        intro V D w3 hD hJ hφ
        obtain ⟨B, u, b1, b2, b3, b4⟩ := hJ.2.2 (hD 11 (by decide))
        obtain ⟨t', hv', o9⟩ := b4 (hD 12 (by decide))
        obtain ⟨a9, c9, b9, f9, rfl, -⟩ := o9.rt.open
        have x5 := box_chg HG.out.2.2.2.2.2.1 hJ.1 (by omega)
        have x4 := box_chg HG.out.2.2.2.2.2.2.1 hJ.1 (by omega)
        have hcn := dcnt_le D
        have hc2 : Chg (fun b => b = w1.heap.size) w3 (w3.setCell ⟨w1.heap.size, 0, none⟩ (.slice a9 t'.length c9)) := Chg.setCell (S := fun b => b = w1.heap.size) (Chg.refl _ w3) (p := ⟨w1.heap.size, 0, none⟩) (.inr rfl) _
        have HF : Hid (DtR H w rb (q + 1 + 3 * (11 - (n - 1))) w1.heap.size (w3.setCell ⟨w1.heap.size, 0, none⟩ (.slice a9 t'.length c9))) :=
          Lib.hid ⟨_, t', wo.heap.size, w3.heap.size, o9.chg hc2 (fun b hb _ he => by omega), hv', by omega, hc2.size, .inl (by omega), box_set x5 _, box_chg x4 hc2 (by omega), (hJ.2.1.chg hc2 (fun k hk he => by omega)).up (by omega), (HG.out.2.2.2.2.2.2.2.2.trans hJ.1).setCell (p := ⟨w1.heap.size, 0, none⟩) (.inl (show w.heap.size ≤ w1.heap.size by omega)) _, g10, g11⟩
        obtain ⟨d1, -⟩ := one_at b3
        obtain ⟨d2, d3⟩ := one_at x5
        clear hφ hJ o9 b3 x5 x4 hc2 b4
        simp [frameOf, Act.put, b1]
        go_wp2_with fail
        go_roundw
        case rel => exact ⟨n - 1, by omega, by go_num, HF⟩
        case measure => simp [intOf]; omega
    · obtain rfl : n = 0 := by omega
      have HP := HR.out
      obtain ⟨-, -, -, -, -, -, -, -, -, -, -, hrd, -, hrb1, hC1⟩ := HP
      have HRD := Lib.hid hrd
      clear hrd hn hn0
      go_wp2_with fail
      refine (odd_le _ rb _ m HRD.out (by omega) hm0 (by omega)).mono ?_
      rintro e w3 ⟨b, rfl, r3, c3, -⟩
      have H3 : Hid (DtR H w rb (q + 40) w1.heap.size w3) := Lib.hid (HR.out.pick c3 (r3.up (by omega)))
      clear r3 c3 HR HRD
      cases b
      · obtain ⟨a9, n9, c9, x1, x2, hf⟩ := H3.out.end.ret (q := q) (by omega)
        have HF := Lib.hid hf
        obtain ⟨d1, -⟩ := one_at x1
        obtain ⟨d2, d3⟩ := one_at x2
        clear hf x1 x2
        go_wp2_with fail
        refine bodyPost_ret (v := .agg #[.slice a9 n9 c9]) (by simp [results, Try.results72, go_sem, d2]) rfl HF.out
      · have HRD : Hid (RdLe H w3 rb (q + 40)) := by
          obtain ⟨-, -, -, -, -, -, -, -, -, -, -, hrd, -⟩ := H3.out
          exact hrd
        go_wp2_with fail
        refine (pick_le _ rb _ 4 HRD.out (by omega) (by omega) (by omega)).mono ?_
        rintro e w4 ⟨k, rfl, k0, k1, r4, c4, -⟩
        have H4 : Hid (DtR H w rb (q + 41) w1.heap.size w4) := Lib.hid (H3.out.pick c4 r4)
        clear r4 c4 H3 HRD
        obtain rfl | rfl | rfl | rfl : k = 0 ∨ k = 1 ∨ k = 2 ∨ k = 3 := by omega
        · obtain ⟨d2, d3⟩ : w4.cell? ⟨w.heap.size, 0, none⟩ = some (.slice none 0 0) ∧ w4.frozen? ⟨w.heap.size, 0, none⟩ = false := by
            obtain ⟨-, -, -, -, -, -, -, -, -, -, x2, -⟩ := H4.out
            exact one_at x2
          have HF := Lib.hid (dt_nil H4.out (q := q) (by omega))
          clear k0 k1
          go_wp2_with fail
          refine bodyPost_ret (v := .agg #[.slice none 0 0]) (by simp [results, Try.results72, go_sem, d2]) rfl HF.out
        · obtain ⟨a, cap, g, cap', x1, x2, x3, x4, hE⟩ := dt_cut H4.out
          obtain ⟨d1, -⟩ := one_at x1
          have HE := Lib.hid hE
          clear hE x1 k0 k1 H4
          go_wp2_with fail
          go_region
          have hE2 := HE.out.drew
          generalize (w4.setCell ⟨a, 0, none⟩ (.slice (some ⟨g, 1, none⟩) 5 (cap' - 1))).drew = w5 at hE2 ⊢
          obtain ⟨a9, n9, c9, y1, y2, hf⟩ := hE2.ret (q := q) (by omega)
          have HF := Lib.hid hf
          obtain ⟨d1, -⟩ := one_at y1
          obtain ⟨d2, d3⟩ := one_at y2
          clear hf y1 y2 hE2 HE x2 x4
          go_wp2_with fail
          refine bodyPost_ret (v := .agg #[.slice a9 n9 c9]) (by simp [results, Try.results72, go_sem, d2]) rfl HF.out
        · obtain ⟨a, cap, g, cap', x1, x2, x3, ⟨u, x4⟩, x5, x6, hE⟩ := dt_set H4.out.weak (f := 0) (p := 0) (by omega) (by omega)
          have HRD : Hid (RdLe H w4 rb (q + 41)) := by
            obtain ⟨-, -, -, -, -, -, -, -, -, -, -, hrd, -⟩ := H4.out
            exact Lib.hid hrd
          have HE := Lib.hid (And.intro x1 (And.intro x2 (And.intro x4 (And.intro x5 hE))))
          clear hE x1 x2 x4 x5 k0 k1 H4
          go_wp2_with fail
          refine wp_region_set (DsJ H w rb (q + 41) w1.heap.size w4) (DsS rb g) (DsPhi w4.heap.size rb w1.heap.size a g cap cap') (fun _ => none) (by kernel_rfl) (by kernel_rfl) ?hS ?h0 ?hop ?hend
          case hS => exact fun i j v w w' _ _ hS h => ds_stable (by omega) (by omega) hS h
          case h0 => exact ⟨fun _ => ⟨(Chg.refl _ _).drew, HRD.out.kept (bdrew _)⟩, fun h => by cases h⟩
          case hop =>
            intro i o hi V D w' hD hcl hJ hd
            have hi' : i = 0 ∨ i = 1 ∨ i = 2 ∨ i = 3 ∨ i = 4 ∨ i = 5 ∨ i = 6 ∨ i = 7 ∨ i = 8 ∨ i = 9 ∨ i = 10 := by
              have := (List.getElem?_eq_some_iff.1 hi).1
              simp at this
              omega
            rcases hi' with rfl | rfl | rfl | rfl | rfl | rfl | rfl | rfl | rfl | rfl | rfl
            all_goals
              simp at hi
              subst hi
              simp [Region.binds, DsPhi] at hd
            all_goals
              have hD10 : D 10 = false := by
                first
                  | exact hD
                  | (cases hx : D 10 with
                     | false => rfl
                     | true => exact absurd (hcl 10 hx _ (List.elem_iff.1 (by kernel_rfl))) (by rw [hD]; decide))
              clear hcl
              have hJ1 := (hJ.1 hD10).1
              have hJ2 := (hJ.1 hD10).2
              have hz := hJ1.size
            · simp [Frees, frameOf, go_sem]
              exact ⟨rfl, Below.refl _ _, dsJ_step (by decide) hD10 (Below.refl _ _) hJ⟩
            · obtain ⟨y1, -⟩ := one_at (box_chg HE.out.1 hJ1 (by omega))
              simp [Frees, frameOf, go_sem, hd, y1]
              exact ⟨rfl, Below.refl _ _, dsJ_step (by decide) hD10 (Below.refl _ _) hJ⟩
            · simp [Frees, frameOf, go_sem, hd]
              exact ⟨rfl, Below.refl _ _, dsJ_step (by decide) hD10 (Below.refl _ _) hJ⟩
            · have y1 := (hJ1.cell (p := ⟨a, 0, none⟩) (show a < w4.heap.size by omega) (show ¬ a = rb by omega)).trans HE.out.2.1
              simp [Frees, frameOf, go_sem, hd, y1]
              exact ⟨rfl, Below.refl _ _, dsJ_step (by decide) hD10 (Below.refl _ _) hJ⟩
            · simp [Frees, frameOf, go_sem]
              exact ⟨⟨_, rfl, hz, heap_alloc_new w' _⟩, balloc _ _, dsJ_step (by decide) hD10 (balloc _ _) hJ⟩
            · simp [Frees, frameOf, go_sem]
              exact ⟨rfl, Below.refl _ _, dsJ_step (by decide) hD10 (Below.refl _ _) hJ⟩
            · simp [Frees, frameOf, go_sem, hd]
              refine (pick_le _ rb _ 2 hJ2 (by cases D 6 <;> simp <;> omega) (by omega) (by omega)).mono ?_
              rintro e w'' ⟨x, rfl, x0, x1, r, c, -⟩
              obtain ⟨j, rfl⟩ := Int.eq_ofNat_of_zero_le x0
              refine ⟨_, rfl, ⟨j, rfl, by omega⟩, c, fun _ => ⟨hJ1.trans c, ?_⟩, fun h => ?_⟩
              · simpa [hD] using r
              · simp [hD10] at h
            · obtain ⟨⟨B, e4, h1, h2⟩, j, e6, hj⟩ := hd
              have hj2 : (j : Int) < 2 := by omega
              simp [Frees, frameOf, go_sem, e4, e6, hj2]
              exact ⟨⟨B, j, rfl, hj, h1, h2⟩, Below.refl _ _, dsJ_step (by decide) hD10 (Below.refl _ _) hJ⟩
            · obtain ⟨B, j, e7, hj, h1, h2⟩ := hd
              have hy : ∃ x, w'.cell? ⟨B, j, none⟩ = some (.int .i64 x) ∧ I64 x := by
                obtain rfl | rfl : j = 0 ∨ j = 1 := by omega
                · exact ⟨-2, by simp [World.cell?, h2], by unfold I64; omega⟩
                · exact ⟨48, by simp [World.cell?, h2], by unfold I64; omega⟩
              obtain ⟨x, hy, hx⟩ := hy
              simp [Frees, frameOf, go_sem, e7, hy]
              exact ⟨⟨x, rfl, hx⟩, Below.refl _ _, dsJ_step (by decide) hD10 (Below.refl _ _) hJ⟩
            · simp [Frees, frameOf, go_sem, hd]
              exact ⟨rfl, Below.refl _ _, dsJ_step (by decide) hD10 (Below.refl _ _) hJ⟩
            · obtain ⟨e9, ⟨x, e8, hx⟩, -⟩ := hd
              have y1 := (hJ1.cell (p := ⟨g, 0, none⟩) (show g < w4.heap.size by omega) (show ¬ g = rb by omega)).trans HE.out.2.2.1
              have y2 := (hJ1.frozen (p := ⟨g, 0, none⟩) (show g < w4.heap.size by omega) (show ¬ g = rb by omega)).trans HE.out.2.2.2.1
              have hF := (HE.out.2.2.2.2 w' (q + 41 + 1) hJ1 (hJ2.up (by cases D 6 <;> simp)) x hx).end
              have hc2 : Chg (fun b => b = g) w' (w'.setCell ⟨g, 0, none⟩ (.int .i64 x)) := Chg.setCell (S := fun b => b = g) (Chg.refl _ w') (p := ⟨g, 0, none⟩) (.inr rfl) _
              simp [Frees, frameOf, go_sem, e8, e9, y1, y2]
              exact ⟨trivial, hc2, fun h => by simp at h, fun _ => hF⟩
          case hend =>
            intro V D w5 hD hJ hφ
            obtain ⟨a9, n9, c9, y1, y2, hf⟩ := (hJ.2 (hD 10 (by decide))).ret (q := q) (by omega)
            have HF := Lib.hid hf
            obtain ⟨d1, -⟩ := one_at y1
            obtain ⟨d2, d3⟩ := one_at y2
            clear hf y1 y2 hJ hφ HE
            simp [frameOf, Act.put]
            go_wp2_with fail
            refine bodyPost_ret (v := .agg #[.slice a9 n9 c9]) (by simp [results, Try.results72, go_sem, d2]) rfl HF.out
        · obtain ⟨a, cap, g, cap', x1, x2, x3, ⟨u, x4⟩, x5, x6, hE⟩ := dt_set H4.out.weak (f := 0) (p := 0) (by omega) (by omega)
          obtain ⟨d1, -⟩ := one_at x1
          have HRD : Hid (RdLe H w4 rb (q + 41)) := by
            obtain ⟨-, -, -, -, -, -, -, -, -, -, -, hrd, -⟩ := H4.out
            exact Lib.hid hrd
          have H5 := Lib.hid (hE w4 _ (Chg.refl _ _) HRD.out 5 (by unfold I64; omega))
          obtain ⟨a2, cap2, g2, cap2', z1', z2, z3, ⟨u2, z4⟩, z5, -, hE2⟩ := dt_set H5.out (f := 1) (p := 1) (by omega) (by omega)
          obtain ⟨d2, -⟩ := one_at z1'
          have hE3 := (hE2 _ _ (Chg.refl _ _) (by
            obtain ⟨-, -, -, -, -, -, -, -, -, -, -, hrd, -⟩ := H5.out
            exact hrd) 5 (by unfold I64; omega)).end
          obtain ⟨a9, n9, c9, y1, y2, hf⟩ := hE3.ret (q := q) (by omega)
          have HF := Lib.hid hf
          obtain ⟨d3, -⟩ := one_at y1
          obtain ⟨d4, d5⟩ := one_at y2
          clear hE hE2 hE3 x1 k0 k1 H4 H5 x6 z1' y1 y2 hf
          go_wp2_with fail
          refine bodyPost_ret (v := .agg #[.slice a9 n9 c9]) (by simp [results, Try.results72, go_sem, d4]) rfl HF.out

end Go.Proofs.Ytjmofmdcegefgaa

