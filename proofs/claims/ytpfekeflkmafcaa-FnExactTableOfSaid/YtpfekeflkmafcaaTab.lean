/-
  Words for tables, and the walks of the laws' helpers over them.
-/
import Derived.Test.YtpfekeflkmafcaaNst
import Derived.Deep.RegionHeld3
namespace Go.Proofs.Ytpfekeflkmafcaa
open Go.RowKit

theorem Try.infoS : (Try.prog.info? 45).map (fun i => (i.zero, i.size, i.bytes)) = some (some (.slice none 0 0), 1, 24) := by kernel_rfl

theorem box_keep {w w' : World} {B : Nat} {o : Obj} (h : w.heap[B]? = some o) (c : Below w.heap.size w w') : w'.heap[B]? = some o :=
  (c.block B (Array.getElem?_eq_some_iff.1 h).1).trans h
theorem box_drew {w : World} {B : Nat} {o : Obj} (h : w.heap[B]? = some o) : w.drew.heap[B]? = some o := h
theorem bup2 {a b c : World} (h : Below a.heap.size a b) (k : Below b.heap.size b c) : Below a.heap.size a c := bup h (Nat.le_refl _) k
theorem balloc (w : World) (o : Obj) : Below w.heap.size w (w.alloc o) := (Below.refl _ _).alloc (Nat.le_refl _) o
theorem bdrew (w : World) : Below w.heap.size w w.drew := (Below.refl _ _).drew
/-- What is owned and not empty lies at the head of a block. -/
theorem own_shape1 {w : World} {base : Nat} {e : TypeId} {size : Nat} {v : Value} {n : Nat} {cs : List Value} (h : w.ownsRow base e size v n cs) (hn : 0 < n) :
    ∃ g cap, v = .slice (some ⟨g, 0, none⟩) n cap ∧ base ≤ g ∧ g < w.heap.size ∧ n ≤ cap := by
  rcases h.2 with ⟨rfl, h0⟩ | ⟨g, cap, cur, rfl, hb, hg, hn, _⟩
  · omega
  · exact ⟨g, cap, rfl, hb, (Array.getElem?_eq_some_iff.1 hg).1, hn⟩

/-- What is owned, ahead of hi, is read. -/
theorem reads_hi {w : World} {base hi : Nat} {e : TypeId} {size : Nat} {v : Value} {n : Nat} {cs : List Value} (h : w.ownsRow base e size v n cs) (hb : ∀ b, v.ownBlock = some b → b < hi) : Reads w base hi size v n cs := by
  rcases h.2 with ⟨rfl, rfl⟩ | ⟨g, cap, cur, rfl, hbb, hg, hn, hm, hs, ht⟩
  · exact ⟨h.1, none, 0, 0, 0, rfl, Nat.le_refl _, by simp [maxLen], fun h => absurd h (by omega), fun j hj => by simp at hj⟩
  · refine ⟨h.1, some ⟨g, 0, none⟩, cap, g, 0, rfl, hn, hm, fun _ => ⟨rfl, hbb, hb g rfl⟩, fun j hj => ?_⟩
    rw [Nat.zero_add]
    exact h.cellAt j hj

/-- The lists of a slice of slices. -/
def RT (w : World) (lo hi : Nat) (v : Value) (xss : List (List Int)) : Prop :=
  ∃ vs : List Value, Reads w lo hi 1 v xss.length vs ∧ ∀ (k : Nat) (hk : k < xss.length) (u : Value), vs[k]? = some u → RI w lo hi u xss[k]
theorem RT.chg {S : Nat → Prop} {w w' : World} {lo hi : Nat} {v : Value} {xss : List (List Int)} (h : RT w lo hi v xss) (hk : Chg S w w') (hs : ∀ b, lo ≤ b → b < hi → ¬ S b) : RT w' lo hi v xss := by
  obtain ⟨vs, h1, h2⟩ := h
  exact ⟨vs, h1.chg hk hs, fun k hl u hu => (h2 k hl u hu).chg hk hs⟩
theorem RT.below {w w' : World} {lo hi : Nat} {v : Value} {xss : List (List Int)} (h : RT w lo hi v xss) (hk : Below w.heap.size w w') : RT w' lo hi v xss := h.chg (below_chg hk fun _ => False) fun _ _ _ h => h
theorem RT.wide {w : World} {lo hi lo' hi' : Nat} {v : Value} {xss : List (List Int)} (h : RT w lo hi v xss) (h1 : lo' ≤ lo) (h2 : hi ≤ hi') : RT w lo' hi' v xss := by
  obtain ⟨vs, g1, g2⟩ := h
  exact ⟨vs, g1.wide h1 h2, fun k hl u hu => (g2 k hl u hu).wide h1 h2⟩
theorem RT.open {w : World} {lo hi : Nat} {v : Value} {xss : List (List Int)} (h : RT w lo hi v xss) :
    ∃ (a : Option Addr) (cap b off : Nat), v = .slice a xss.length cap ∧ xss.length ≤ cap ∧ cap ≤ 9223372036854775807 ∧
      (0 < xss.length → a = some ⟨b, off, none⟩) ∧ ∀ k (hk : k < xss.length), ∃ u, w.cell? ⟨b, off + k, none⟩ = some u ∧ RI w lo hi u xss[k] := by
  obtain ⟨vs, ⟨hl, a, cap, b, off, rfl, h1, h2, h3, h4⟩, hi⟩ := h
  refine ⟨a, cap, b, off, rfl, h1, by simpa [maxLen] using h2, fun hn => (h3 hn).1, fun k hk => ?_⟩
  have hk' : k < vs.length := by omega
  exact ⟨vs[k], by rw [h4 k (by omega)]; simp [hk'], hi k hk _ (by simp [hk'])⟩
theorem rt_nil (w : World) (lo hi : Nat) : RT w lo hi (.slice none 0 0) [] :=
  ⟨[], ⟨by simp, none, 0, 0, 0, rfl, Nat.le_refl _, by simp [maxLen], fun h => by simp at h, fun j hj => by simp at hj⟩, fun k hk => by simp at hk⟩

/-- A table by value. -/
def RT1 (w : World) (lo hi : Nat) (v : Value) (t : List (List Int)) : Prop := ∃ s, v = .agg #[s] ∧ RT w lo hi s t

/-- The slice v of slices is the call's own, and so are these, all ahead of hi. -/
def OT (w : World) (lo hi : Nat) (v : Value) (xss : List (List Int)) : Prop :=
  ∃ vs : List Value, w.ownsRow lo 45 1 v xss.length vs ∧ (∀ b, v.ownBlock = some b → b < hi) ∧ Inn IntRow w lo hi vs xss
theorem OT.chg {S : Nat → Prop} {w w' : World} {lo hi : Nat} {v : Value} {xss : List (List Int)} (h : OT w lo hi v xss) (hk : Chg S w w') (hs : ∀ b, lo ≤ b → b < hi → ¬ S b) : OT w' lo hi v xss := by
  obtain ⟨vs, h1, h2, h3⟩ := h
  exact ⟨vs, own_chg h1 hk fun b hb he => hs b hb (h2 b he), h2, h3.chg hk hs⟩
theorem OT.below {w w' : World} {lo hi : Nat} {v : Value} {xss : List (List Int)} (h : OT w lo hi v xss) (hk : Below w.heap.size w w') : OT w' lo hi v xss := h.chg (below_chg hk fun _ => False) fun _ _ _ h => h
theorem OT.mono {w : World} {lo hi hi' : Nat} {v : Value} {xss : List (List Int)} (h : OT w lo hi v xss) (hh : hi ≤ hi') : OT w lo hi' v xss := by
  obtain ⟨vs, h1, h2, h3⟩ := h
  exact ⟨vs, h1, fun b hb => by have := h2 b hb; omega, h3.mono hh⟩
theorem OT.wide {w : World} {lo lo' hi : Nat} {v : Value} {xss : List (List Int)} (h : OT w lo hi v xss) (hh : lo' ≤ lo) : OT w lo' hi v xss := by
  obtain ⟨vs, h1, h2, h3⟩ := h
  exact ⟨vs, own_wide h1 hh, h2, h3.wide hh⟩
theorem OT.rt {w : World} {lo hi : Nat} {v : Value} {xss : List (List Int)} (h : OT w lo hi v xss) : RT w lo hi v xss := by
  obtain ⟨vs, h1, h2, h3⟩ := h
  exact ⟨vs, reads_hi h1 h2, fun k hk u hu => ⟨reads_hi (h3.2.1 k hk u hu).1.1 (h3.2.1 k hk u hu).2, (h3.2.1 k hk u hu).1.2⟩⟩
theorem ot_nil (w : World) (lo hi : Nat) : OT w lo hi (.slice none 0 0) [] := ⟨[], World.ownsRow_nil _ _ _ _, fun b hb => by simp [Value.ownBlock] at hb, Inn.nil _ _ _ _⟩

/-- One number of one list stored. -/
theorem OT.store {w : World} {lo hi : Nat} {v : Value} {xss : List (List Int)} (h : OT w lo hi v xss) (f p : Nat) (hf : f < xss.length) (hp : p < xss[f].length) :
    ∃ (a cap g cap' : Nat), v = .slice (some ⟨a, 0, none⟩) xss.length cap ∧ xss.length ≤ cap ∧ w.cell? ⟨a, f, none⟩ = some (.slice (some ⟨g, 0, none⟩) xss[f].length cap') ∧ xss[f].length ≤ cap' ∧
      (∃ u, w.cell? ⟨g, p, none⟩ = some u) ∧ w.frozen? ⟨g, p, none⟩ = false ∧ (lo ≤ g ∧ g < hi) ∧ ∀ x, I64 x → OT (w.setCell ⟨g, p, none⟩ (.int .i64 x)) lo hi v (xss.set f (xss[f].set p x)) := by
  obtain ⟨vs, h1, h2, h3⟩ := h
  obtain ⟨u, hu, ho, hb⟩ := h3.get f hf
  have ho' : OI w lo u xss[f] := ho
  obtain ⟨a, cap, rfl, ha1, ha2, ha3⟩  := own_shape1 h1 (show 0 < xss.length by omega)
  obtain ⟨g, cap', rfl, hg1, hg2, hg3⟩  := own_shape1 ho'.1 (show 0 < xss[f].length by omega)
  refine ⟨a, cap, g, cap', rfl, ha3, ?_, hg3, ?_, ho'.1.frozenAt p, ⟨hg1, hb g rfl⟩, fun x hx => ?_⟩
  · rw [h1.cellAt f (by omega)]; exact hu
  · refine ⟨.int .i64 xss[f][p], ?_⟩
    rw [ho'.1.cellAt p (by omega)]; simp [hp]
  · have hst := (ho'.1.stored p (.int .i64 x)).1
    have ho2 : OI (w.setCell ⟨g, p, none⟩ (.int .i64 x)) lo (.slice (some ⟨g, 0, none⟩) xss[f].length cap') (xss[f].set p x) := by
      refine ⟨?_, fun y hy => ?_⟩
      · rw [List.length_set, List.map_set]; exact hst
      · rcases List.mem_or_eq_of_mem_set hy with hy | rfl
        · exact ho'.2 y hy
        · exact hx
    have hc : Chg (fun b => (Value.slice (some ⟨g, 0, none⟩) xss[f].length cap').ownBlock = some b) w (w.setCell ⟨g, p, none⟩ (.int .i64 x)) := Chg.setCell (S := fun b => (Value.slice (some ⟨g, 0, none⟩) xss[f].length cap').ownBlock = some b) (Chg.refl _ w) (p := ⟨g, p, none⟩) (.inr rfl) _
    have hap := own_apart ho'.1 h1 (by decide)
    refine ⟨vs, ?_, h2, h3.one hu hc ho2⟩
    rw [List.length_set]
    exact own_chg h1 hc fun b _ hb1 hb2 => hap b hb2 hb1

/-- One list laid anew. -/
theorem OT.row {w : World} {lo hi hi' : Nat} {v : Value} {xss : List (List Int)} (h : OT w lo hi v xss) (f : Nat) (hf : f < xss.length) :
    ∃ (a cap : Nat), v = .slice (some ⟨a, 0, none⟩) xss.length cap ∧ xss.length ≤ cap ∧ (∃ u, w.cell? ⟨a, f, none⟩ = some u) ∧ w.frozen? ⟨a, f, none⟩ = false ∧ (lo ≤ a ∧ a < hi) ∧
      ∀ u x, OI w lo u x → (∀ b, u.ownBlock = some b → hi ≤ b ∧ b < hi') → hi ≤ hi' → OT (w.setCell ⟨a, f, none⟩ u) lo hi' v (xss.set f x) := by
  obtain ⟨vs, h1, h2, h3⟩ := h
  obtain ⟨u0, hu0, ho0, hb0⟩ := h3.get f hf
  obtain ⟨a, cap, rfl, ha1, ha2, ha3⟩  := own_shape1 h1 (show 0 < xss.length by omega)
  refine ⟨a, cap, rfl, ha3, ⟨u0, by rw [h1.cellAt f (by omega)]; exact hu0⟩, h1.frozenAt f, ⟨ha1, h2 a rfl⟩, fun u x ho hb hh => ?_⟩
  have hst := (h1.stored f u).1
  have hc : Chg (fun b => (Value.slice (some ⟨a, 0, none⟩) xss.length cap).ownBlock = some b) w (w.setCell ⟨a, f, none⟩ u) := Chg.setCell (S := fun b => (Value.slice (some ⟨a, 0, none⟩) xss.length cap).ownBlock = some b) (Chg.refl _ w) (p := ⟨a, f, none⟩) (.inr rfl) _
  have hn : Inn IntRow w lo hi' (vs.set f u) (xss.set f x) := h3.put f ho hb hh
  refine ⟨vs.set f u, by rw [List.length_set]; exact hst, fun b hb => by have := h2 b hb; omega, hn.chg2 hc fun k u' b hu' hb1 hb2 => ?_⟩
  have hk : k < (xss.set f x).length := by rw [← hn.1]; exact (List.getElem?_eq_some_iff.1 hu').1
  have ho' : OI w lo u' (xss.set f x)[k] := (hn.2.1 k hk u' hu').1
  exact own_apart ho'.1 h1 (by decide) b hb1 hb2

/-- A table in new memory. -/
def NewSS (xss : List (List Int)) (w : World) (e : Ending) (w' : World) : Prop := ∃ v, e = .returned v ∧ OT w' w.heap.size w'.heap.size v xss ∧ Below w.heap.size w w'
def NewT (xss : List (List Int)) (w : World) (e : Ending) (w' : World) : Prop := ∃ v, e = .returned (.agg #[v]) ∧ OT w' w.heap.size w'.heap.size v xss ∧ Below w.heap.size w w'

/-- 'make([][]int, n)'. -/
theorem mk_rows {w : World} {ops : Array Oper} {rest : List Oper} {o : Oper} {a : Act} {Q : Exit → Act → World → Prop} (hgd : o.guard = none) (l c : Operand)
    (hop : o.op = Op.makeSlice 24 l c) (n : Nat) (hl : a.eval l = .int .i64 n) (hc : a.eval c = .int .i64 n) (hn : n ≤ 1000000000000)
    (hK : ∀ w', OT w' w.heap.size w'.heap.size (.slice (some ⟨w.heap.size, 0, none⟩) n n) (List.replicate n []) → Below w.heap.size w w' → wpList Try.prog ops Q rest (a.put o.dst (.slice (some ⟨w.heap.size, 0, none⟩) n n)) w') :
    wpList Try.prog ops Q (o :: rest) a w := by
  obtain ⟨i0, hi0, hz0, hz1, hz2⟩ := info_parts Try.infoS
  refine wpList_make_full w hgd l c 24 hop w.heap.size 45 i0 (.slice none 0 0) 1 Try.underlying24 hi0 hz0 hz1 .i64 .i64 n n n hl hc rfl rfl (by rw [hz2]; omega) (by simp [maxLen]; omega) (Nat.le_refl _) fun w' h1 h2 => ?_
  refine hK w' ⟨List.replicate n (.slice none 0 0), ?_, ?_, ?_⟩ ((Below.refl _ _).grown h2 (Nat.le_refl _) (by simp))
  · have e : (madeCells (Value.slice none 0 0).cells n).toList = List.replicate n (.slice none 0 0) := by simpa [Value.cells] using toList_madeCells_one (.slice none 0 0) n
    rw [Nat.mul_one, e] at h1
    simpa using h1
  · intro b hb
    exact (h1.lt b hb).2
  · refine ⟨by simp, fun k hk u hu => ?_, fun j k u u' _ hu _ b hb => ?_⟩
    · have hu' : u = .slice none 0 0 := by
        simp only [List.length_replicate] at hk
        simpa [List.getElem?_replicate, hk] using hu.symm
      subst hu'
      refine ⟨?_, fun b hb => by simp [Value.ownBlock] at hb⟩
      simp only [List.getElem_replicate]
      exact ⟨World.ownsRow_nil _ _ _ _, fun _ h => by simp at h⟩
    · have hjn : j < n := by simpa using (List.getElem?_eq_some_iff.1 hu).1
      have hu' : u = .slice none 0 0 := by simpa [List.getElem?_replicate, hjn] using hu.symm
      subst hu'
      simp [Value.ownBlock] at hb

/-- The first k lists, then empty ones. -/
def pad (xss : List (List Int)) (k : Nat) : List (List Int) := xss.take k ++ List.replicate (xss.length - k) []
theorem pad_len (xss : List (List Int)) (k : Nat) (hk : k ≤ xss.length) : (pad xss k).length = xss.length := by simp [pad]; omega
theorem pad_zero (xss : List (List Int)) : pad xss 0 = List.replicate xss.length [] := by simp [pad]
theorem pad_all (xss : List (List Int)) (k : Nat) (hk : ¬ k < xss.length) : pad xss k = xss := by
  rw [pad, List.take_of_length_le (by omega), show xss.length - k = 0 by omega]; simp
theorem pad_set (xss : List (List Int)) (k : Nat) (hk : k < xss.length) : (pad xss k).set k xss[k] = pad xss (k + 1) := by
  unfold pad
  rw [List.set_append_right _ _ (by simp; omega), List.take_succ_eq_append_getElem hk]
  have e : k - (xss.take k).length = 0 := by simp; omega
  rw [e, show xss.length - k = (xss.length - (k + 1)) + 1 by omega, List.replicate_succ, List.set_cons_zero, List.append_assoc]
  rfl

/-- How much a table weighs. -/
def tsz (xss : List (List Int)) : Nat := xss.length + (xss.map List.length).sum
theorem tsz_drop (xs : List (List Int)) (k : Nat) (hk : k < xs.length) : ((xs.drop k).map List.length).sum = xs[k].length + ((xs.drop (k + 1)).map List.length).sum := by
  rw [drop_cons xs k hk, List.map_cons, List.sum_cons]
theorem tsz_end (xs : List (List Int)) (k : Nat) (hk : ¬ k < xs.length) : ((xs.drop k).map List.length).sum = 0 := by
  rw [List.drop_of_length_le (by omega)]; rfl
theorem tsz_row {xs : List (List Int)} (h : tsz xs ≤ 1048576) : xs.length ≤ 1048576 ∧ ∀ k (hk : k < xs.length), xs[k].length ≤ 1048576 := by
  unfold tsz at h
  refine ⟨by omega, fun k hk => ?_⟩
  have : ∀ (l : List Nat) k (hk : k < l.length), l[k] ≤ l.sum := by
    intro l
    induction l with
    | nil => intro k hk; simp at hk
    | cons a l ih =>
      intro k hk
      cases k with
      | zero => simp
      | succ k => have := ih k (by simpa using hk); simp only [List.getElem_cons_succ, List.sum_cons]; omega
  have := this (xs.map List.length) k (by simpa using hk)
  simp only [List.getElem_map] at this
  omega

end Go.Proofs.Ytpfekeflkmafcaa
