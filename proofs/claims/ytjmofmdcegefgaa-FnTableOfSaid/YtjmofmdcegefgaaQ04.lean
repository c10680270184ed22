/-
  Texts of this claim, laid together: Tab, Free, Use, Ust, Usv, Drr.
-/
import Derived.Deep.RegionHeld3
import Derived.Orders
import Derived.Test.YtjmofmdcegefgaaQ01
import Derived.Test.YtjmofmdcegefgaaQ02
import Derived.Test.YtjmofmdcegefgaaQ03
namespace Go.Proofs.Ytjmofmdcegefgaa
open Go.RowKit

theorem Try.infoS : (Try.prog.info? 31).map (fun i => (i.zero, i.size, i.bytes)) = some (some (.slice none 0 0), 1, 24) := by kernel_rfl

theorem box_keep {w w' : World} {B : Nat} {o : Obj} (h : w.heap[B]? = some o) (c : Below w.heap.size w w') : w'.heap[B]? = some o :=
  (c.block B (Array.getElem?_eq_some_iff.1 h).1).trans h
theorem box_drew {w : World} {B : Nat} {o : Obj} (h : w.heap[B]? = some o) : w.drew.heap[B]? = some o := h
theorem bup2 {a b c : World} (h : Below a.heap.size a b) (k : Below b.heap.size b c) : Below a.heap.size a c := bup h (Nat.le_refl _) k
theorem balloc (w : World) (o : Obj) : Below w.heap.size w (w.alloc o) := (Below.refl _ _).alloc (Nat.le_refl _) o
theorem bdrew (w : World) : Below w.heap.size w w.drew := (Below.refl _ _).drew
/-- What is owned and not empty lies at the head of a block. -/
theorem own_shape1 {w : World} {base : Nat} {e : TypeId} {size : Nat} {v : Value} {n : Nat} {cs : List Value} (h : w.ownsRow base e size v n cs) (hn : 0 < n) :
    ∃ g cap, v = .slice (some ⟨g, 0, none⟩) n cap ∧ base ≤ g ∧ g < w.heap.size ∧ n ≤ cap := by
  rcases h.2 with ⟨rfl, h0⟩ | ⟨g, cap, cur, rfl, hb, hg, hn, _⟩
  · omega
  · exact ⟨g, cap, rfl, hb, (Array.getElem?_eq_some_iff.1 hg).1, hn⟩

/-- What is owned, ahead of hi, is read. -/
theorem reads_hi {w : World} {base hi : Nat} {e : TypeId} {size : Nat} {v : Value} {n : Nat} {cs : List Value} (h : w.ownsRow base e size v n cs) (hb : ∀ b, v.ownBlock = some b → b < hi) : Reads w base hi size v n cs := by
  rcases h.2 with ⟨rfl, rfl⟩ | ⟨g, cap, cur, rfl, hbb, hg, hn, hm, hs, ht⟩
  · exact ⟨h.1, none, 0, 0, 0, rfl, Nat.le_refl _, by simp [maxLen], fun h => absurd h (by omega), fun j hj => by simp at hj⟩
  · refine ⟨h.1, some ⟨g, 0, none⟩, cap, g, 0, rfl, hn, hm, fun _ => ⟨rfl, hbb, hb g rfl⟩, fun j hj => ?_⟩
    rw [Nat.zero_add]
    exact h.cellAt j hj

/-- The lists of a slice of slices. -/
def RT (w : World) (lo hi : Nat) (v : Value) (xss : List (List Int)) : Prop :=
  ∃ vs : List Value, Reads w lo hi 1 v xss.length vs ∧ ∀ (k : Nat) (hk : k < xss.length) (u : Value), vs[k]? = some u → RI w lo hi u xss[k]
theorem RT.chg {S : Nat → Prop} {w w' : World} {lo hi : Nat} {v : Value} {xss : List (List Int)} (h : RT w lo hi v xss) (hk : Chg S w w') (hs : ∀ b, lo ≤ b → b < hi → ¬ S b) : RT w' lo hi v xss := by
  obtain ⟨vs, h1, h2⟩ := h
  exact ⟨vs, h1.chg hk hs, fun k hl u hu => (h2 k hl u hu).chg hk hs⟩
theorem RT.below {w w' : World} {lo hi : Nat} {v : Value} {xss : List (List Int)} (h : RT w lo hi v xss) (hk : Below w.heap.size w w') : RT w' lo hi v xss := h.chg (below_chg hk fun _ => False) fun _ _ _ h => h
theorem RT.wide {w : World} {lo hi lo' hi' : Nat} {v : Value} {xss : List (List Int)} (h : RT w lo hi v xss) (h1 : lo' ≤ lo) (h2 : hi ≤ hi') : RT w lo' hi' v xss := by
  obtain ⟨vs, g1, g2⟩ := h
  exact ⟨vs, g1.wide h1 h2, fun k hl u hu => (g2 k hl u hu).wide h1 h2⟩
theorem RT.open {w : World} {lo hi : Nat} {v : Value} {xss : List (List Int)} (h : RT w lo hi v xss) :
    ∃ (a : Option Addr) (cap b off : Nat), v = .slice a xss.length cap ∧ xss.length ≤ cap ∧ cap ≤ 9223372036854775807 ∧
      (0 < xss.length → a = some ⟨b, off, none⟩) ∧ ∀ k (hk : k < xss.length), ∃ u, w.cell? ⟨b, off + k, none⟩ = some u ∧ RI w lo hi u xss[k] := by
  obtain ⟨vs, ⟨hl, a, cap, b, off, rfl, h1, h2, h3, h4⟩, hi⟩ := h
  refine ⟨a, cap, b, off, rfl, h1, by simpa [maxLen] using h2, fun hn => (h3 hn).1, fun k hk => ?_⟩
  have hk' : k < vs.length := by omega
  exact ⟨vs[k], by rw [h4 k (by omega)]; simp [hk'], hi k hk _ (by simp [hk'])⟩
theorem rt_nil (w : World) (lo hi : Nat) : RT w lo hi (.slice none 0 0) [] :=
  ⟨[], ⟨by simp, none, 0, 0, 0, rfl, Nat.le_refl _, by simp [maxLen], fun h => by simp at h, fun j hj => by simp at hj⟩, fun k hk => by simp at hk⟩

/-- A table by value. -/
def RT1 (w : World) (lo hi : Nat) (v : Value) (t : List (List Int)) : Prop := ∃ s, v = .agg #[s] ∧ RT w lo hi s t

/-- The slice v of slices is the call's own, and so are these, all ahead of hi. -/
def OT (w : World) (lo hi : Nat) (v : Value) (xss : List (List Int)) : Prop :=
  ∃ vs : List Value, w.ownsRow lo 31 1 v xss.length vs ∧ (∀ b, v.ownBlock = some b → b < hi) ∧ Inn IntRow w lo hi vs xss
theorem OT.chg {S : Nat → Prop} {w w' : World} {lo hi : Nat} {v : Value} {xss : List (List Int)} (h : OT w lo hi v xss) (hk : Chg S w w') (hs : ∀ b, lo ≤ b → b < hi → ¬ S b) : OT w' lo hi v xss := by
  obtain ⟨vs, h1, h2, h3⟩ := h
  exact ⟨vs, own_chg h1 hk fun b hb he => hs b hb (h2 b he), h2, h3.chg hk hs⟩
theorem OT.below {w w' : World} {lo hi : Nat} {v : Value} {xss : List (List Int)} (h : OT w lo hi v xss) (hk : Below w.heap.size w w') : OT w' lo hi v xss := h.chg (below_chg hk fun _ => False) fun _ _ _ h => h
theorem OT.mono {w : World} {lo hi hi' : Nat} {v : Value} {xss : List (List Int)} (h : OT w lo hi v xss) (hh : hi ≤ hi') : OT w lo hi' v xss := by
  obtain ⟨vs, h1, h2, h3⟩ := h
  exact ⟨vs, h1, fun b hb => by have := h2 b hb; omega, h3.mono hh⟩
theorem OT.wide {w : World} {lo lo' hi : Nat} {v : Value} {xss : List (List Int)} (h : OT w lo hi v xss) (hh : lo' ≤ lo) : OT w lo' hi v xss := by
  obtain ⟨vs, h1, h2, h3⟩ := h
  exact ⟨vs, own_wide h1 hh, h2, h3.wide hh⟩
theorem OT.rt {w : World} {lo hi : Nat} {v : Value} {xss : List (List Int)} (h : OT w lo hi v xss) : RT w lo hi v xss := by
  obtain ⟨vs, h1, h2, h3⟩ := h
  exact ⟨vs, reads_hi h1 h2, fun k hk u hu => ⟨reads_hi (h3.2.1 k hk u hu).1.1 (h3.2.1 k hk u hu).2, (h3.2.1 k hk u hu).1.2⟩⟩
theorem ot_nil (w : World) (lo hi : Nat) : OT w lo hi (.slice none 0 0) [] := ⟨[], World.ownsRow_nil _ _ _ _, fun b hb => by simp [Value.ownBlock] at hb, Inn.nil _ _ _ _⟩

/-- One number of one list stored. -/
theorem OT.store {w : World} {lo hi : Nat} {v : Value} {xss : List (List Int)} (h : OT w lo hi v xss) (f p : Nat) (hf : f < xss.length) (hp : p < xss[f].length) :
    ∃ (a cap g cap' : Nat), v = .slice (some ⟨a, 0, none⟩) xss.length cap ∧ xss.length ≤ cap ∧ w.cell? ⟨a, f, none⟩ = some (.slice (some ⟨g, 0, none⟩) xss[f].length cap') ∧ xss[f].length ≤ cap' ∧
      (∃ u, w.cell? ⟨g, p, none⟩ = some u) ∧ w.frozen? ⟨g, p, none⟩ = false ∧ (lo ≤ g ∧ g < hi) ∧ ∀ x, I64 x → OT (w.setCell ⟨g, p, none⟩ (.int .i64 x)) lo hi v (xss.set f (xss[f].set p x)) := by
  obtain ⟨vs, h1, h2, h3⟩ := h
  obtain ⟨u, hu, ho, hb⟩ := h3.get f hf
  have ho' : OI w lo u xss[f] := ho
  obtain ⟨a, cap, rfl, ha1, ha2, ha3⟩  := own_shape1 h1 (show 0 < xss.length by omega)
  obtain ⟨g, cap', rfl, hg1, hg2, hg3⟩  := own_shape1 ho'.1 (show 0 < xss[f].length by omega)
  refine ⟨a, cap, g, cap', rfl, ha3, ?_, hg3, ?_, ho'.1.frozenAt p, ⟨hg1, hb g rfl⟩, fun x hx => ?_⟩
  · rw [h1.cellAt f (by omega)]; exact hu
  · refine ⟨.int .i64 xss[f][p], ?_⟩
    rw [ho'.1.cellAt p (by omega)]; simp [hp]
  · have hst := (ho'.1.stored p (.int .i64 x)).1
    have ho2 : OI (w.setCell ⟨g, p, none⟩ (.int .i64 x)) lo (.slice (some ⟨g, 0, none⟩) xss[f].length cap') (xss[f].set p x) := by
      refine ⟨?_, fun y hy => ?_⟩
      · rw [List.length_set, List.map_set]; exact hst
      · rcases List.mem_or_eq_of_mem_set hy with hy | rfl
        · exact ho'.2 y hy
        · exact hx
    have hc : Chg (fun b => (Value.slice (some ⟨g, 0, none⟩) xss[f].length cap').ownBlock = some b) w (w.setCell ⟨g, p, none⟩ (.int .i64 x)) := Chg.setCell (S := fun b => (Value.slice (some ⟨g, 0, none⟩) xss[f].length cap').ownBlock = some b) (Chg.refl _ w) (p := ⟨g, p, none⟩) (.inr rfl) _
    have hap := own_apart ho'.1 h1 (by decide)
    refine ⟨vs, ?_, h2, h3.one hu hc ho2⟩
    rw [List.length_set]
    exact own_chg h1 hc fun b _ hb1 hb2 => hap b hb2 hb1

/-- One list laid anew. -/
theorem OT.row {w : World} {lo hi hi' : Nat} {v : Value} {xss : List (List Int)} (h : OT w lo hi v xss) (f : Nat) (hf : f < xss.length) :
    ∃ (a cap : Nat), v = .slice (some ⟨a, 0, none⟩) xss.length cap ∧ xss.length ≤ cap ∧ (∃ u, w.cell? ⟨a, f, none⟩ = some u) ∧ w.frozen? ⟨a, f, none⟩ = false ∧ (lo ≤ a ∧ a < hi) ∧
      ∀ u x, OI w lo u x → (∀ b, u.ownBlock = some b → hi ≤ b ∧ b < hi') → hi ≤ hi' → OT (w.setCell ⟨a, f, none⟩ u) lo hi' v (xss.set f x) := by
  obtain ⟨vs, h1, h2, h3⟩ := h
  obtain ⟨u0, hu0, ho0, hb0⟩ := h3.get f hf
  obtain ⟨a, cap, rfl, ha1, ha2, ha3⟩  := own_shape1 h1 (show 0 < xss.length by omega)
  refine ⟨a, cap, rfl, ha3, ⟨u0, by rw [h1.cellAt f (by omega)]; exact hu0⟩, h1.frozenAt f, ⟨ha1, h2 a rfl⟩, fun u x ho hb hh => ?_⟩
  have hst := (h1.stored f u).1
  have hc : Chg (fun b => (Value.slice (some ⟨a, 0, none⟩) xss.length cap).ownBlock = some b) w (w.setCell ⟨a, f, none⟩ u) := Chg.setCell (S := fun b => (Value.slice (some ⟨a, 0, none⟩) xss.length cap).ownBlock = some b) (Chg.refl _ w) (p := ⟨a, f, none⟩) (.inr rfl) _
  have hn : Inn IntRow w lo hi' (vs.set f u) (xss.set f x) := h3.put f ho hb hh
  refine ⟨vs.set f u, by rw [List.length_set]; exact hst, fun b hb => by have := h2 b hb; omega, hn.chg2 hc fun k u' b hu' hb1 hb2 => ?_⟩
  have hk : k < (xss.set f x).length := by rw [← hn.1]; exact (List.getElem?_eq_some_iff.1 hu').1
  have ho' : OI w lo u' (xss.set f x)[k] := (hn.2.1 k hk u' hu').1
  exact own_apart ho'.1 h1 (by decide) b hb1 hb2

/-- A table in new memory. -/
def NewSS (xss : List (List Int)) (w : World) (e : Ending) (w' : World) : Prop := ∃ v, e = .returned v ∧ OT w' w.heap.size w'.heap.size v xss ∧ Below w.heap.size w w'
def NewT (xss : List (List Int)) (w : World) (e : Ending) (w' : World) : Prop := ∃ v, e = .returned (.agg #[v]) ∧ OT w' w.heap.size w'.heap.size v xss ∧ Below w.heap.size w w'

/-- 'make([][]int, n)'. -/
theorem mk_rows {w : World} {ops : Array Oper} {rest : List Oper} {o : Oper} {a : Act} {Q : Exit → Act → World → Prop} (hgd : o.guard = none) (l c : Operand)
    (hop : o.op = Op.makeSlice 24 l c) (n : Nat) (hl : a.eval l = .int .i64 n) (hc : a.eval c = .int .i64 n) (hn : n ≤ 1000000000000)
    (hK : ∀ w', OT w' w.heap.size w'.heap.size (.slice (some ⟨w.heap.size, 0, none⟩) n n) (List.replicate n []) → Below w.heap.size w w' → wpList Try.prog ops Q rest (a.put o.dst (.slice (some ⟨w.heap.size, 0, none⟩) n n)) w') :
    wpList Try.prog ops Q (o :: rest) a w := by
  obtain ⟨i0, hi0, hz0, hz1, hz2⟩ := info_parts Try.infoS
  refine wpList_make_full w hgd l c 24 hop w.heap.size 31 i0 (.slice none 0 0) 1 Try.underlying24 hi0 hz0 hz1 .i64 .i64 n n n hl hc rfl rfl (by rw [hz2]; omega) (by simp [maxLen]; omega) (Nat.le_refl _) fun w' h1 h2 => ?_
  refine hK w' ⟨List.replicate n (.slice none 0 0), ?_, ?_, ?_⟩ ((Below.refl _ _).grown h2 (Nat.le_refl _) (by simp))
  · have e : (madeCells (Value.slice none 0 0).cells n).toList = List.replicate n (.slice none 0 0) := by simpa [Value.cells] using toList_madeCells_one (.slice none 0 0) n
    rw [Nat.mul_one, e] at h1
    simpa using h1
  · intro b hb
    exact (h1.lt b hb).2
  · refine ⟨by simp, fun k hk u hu => ?_, fun j k u u' _ hu _ b hb => ?_⟩
    · have hu' : u = .slice none 0 0 := by
        simp only [List.length_replicate] at hk
        simpa [List.getElem?_replicate, hk] using hu.symm
      subst hu'
      refine ⟨?_, fun b hb => by simp [Value.ownBlock] at hb⟩
      simp only [List.getElem_replicate]
      exact ⟨World.ownsRow_nil _ _ _ _, fun _ h => by simp at h⟩
    · have hjn : j < n := by simpa using (List.getElem?_eq_some_iff.1 hu).1
      have hu' : u = .slice none 0 0 := by simpa [List.getElem?_replicate, hjn] using hu.symm
      subst hu'
      simp [Value.ownBlock] at hb

/-- The first k lists, then empty ones. -/
def pad (xss : List (List Int)) (k : Nat) : List (List Int) := xss.take k ++ List.replicate (xss.length - k) []
theorem pad_len (xss : List (List Int)) (k : Nat) (hk : k ≤ xss.length) : (pad xss k).length = xss.length := by simp [pad]; omega
theorem pad_zero (xss : List (List Int)) : pad xss 0 = List.replicate xss.length [] := by simp [pad]
theorem pad_all (xss : List (List Int)) (k : Nat) (hk : ¬ k < xss.length) : pad xss k = xss := by
  rw [pad, List.take_of_length_le (by omega), show xss.length - k = 0 by omega]; simp
theorem pad_set (xss : List (List Int)) (k : Nat) (hk : k < xss.length) : (pad xss k).set k xss[k] = pad xss (k + 1) := by
  unfold pad
  rw [List.set_append_right _ _ (by simp; omega), List.take_succ_eq_append_getElem hk]
  have e : k - (xss.take k).length = 0 := by simp; omega
  rw [e, show xss.length - k = (xss.length - (k + 1)) + 1 by omega, List.replicate_succ, List.set_cons_zero, List.append_assoc]
  rfl

/-- How much a table weighs. -/
def tsz (xss : List (List Int)) : Nat := xss.length + (xss.map List.length).sum
theorem tsz_drop (xs : List (List Int)) (k : Nat) (hk : k < xs.length) : ((xs.drop k).map List.length).sum = xs[k].length + ((xs.drop (k + 1)).map List.length).sum := by
  rw [drop_cons xs k hk, List.map_cons, List.sum_cons]
theorem tsz_end (xs : List (List Int)) (k : Nat) (hk : ¬ k < xs.length) : ((xs.drop k).map List.length).sum = 0 := by
  rw [List.drop_of_length_le (by omega)]; rfl
theorem tsz_row {xs : List (List Int)} (h : tsz xs ≤ 1048576) : xs.length ≤ 1048576 ∧ ∀ k (hk : k < xs.length), xs[k].length ≤ 1048576 := by
  unfold tsz at h
  refine ⟨by omega, fun k hk => ?_⟩
  have : ∀ (l : List Nat) k (hk : k < l.length), l[k] ≤ l.sum := by
    intro l
    induction l with
    | nil => intro k hk; simp at hk
    | cons a l ih =>
      intro k hk
      cases k with
      | zero => simp
      | succ k => have := ih k (by simpa using hk); simp only [List.getElem_cons_succ, List.sum_cons]; omega
  have := this (xs.map List.length) k (by simpa using hk)
  simp only [List.getElem_map] at this
  omega

end Go.Proofs.Ytjmofmdcegefgaa

namespace Go.Proofs.Ytjmofmdcegefgaa
open Go.RowKit

/-- What an operation yields under ρ in the world w. -/
@[irreducible] def Frees (P : Program) (o : Oper) (ρ : Operand → Value) (w : World) (R : Value → World → Prop) : Prop :=
  match (execOp ρ o).run P w with
  | .ok (.value v) w' => R v w'
  | .ok .skip w' => R undef w'
  | .ok (.enter f args) w' => Calls P f args w' fun e w'' => ∃ v, e = .returned v ∧ R v w''
  | _ => False

theorem Frees.wp {P : Program} {o : Oper} {a : Act} {w : World} {R : Value → World → Prop} {K : Act → World → Prop} {Q : Exit → Act → World → Prop}
    (h : Frees P o a.eval w R) (hK : ∀ v w', R v w' → K (a.put o.dst v) w') : o.wp P a w K Q := by
  unfold Frees at h
  unfold Oper.wp
  generalize (execOp a.eval o).run P w = r at *
  cases r with
  | ok n w' =>
    cases n <;> simp only [Oper.upon] at h ⊢ <;>
      first
        | exact hK _ _ h
        | exact Calls.mono h (fun e w'' he => by obtain ⟨v, rfl, hr⟩ := he; exact hK _ _ hr)
        | exact h.elim
  | halt x w' => exact h.elim

theorem Frees.congr {P : Program} {o : Oper} {ρ ρ' : Operand → Value} {w : World} {R : Value → World → Prop} (hs : ∀ cs b, o.op ≠ .select cs b) (he : ∀ x ∈ o.op.operands, ρ x = ρ' x)
    (h : Frees P o ρ' w R) : Frees P o ρ w R := by
  unfold Frees at *
  rwa [execOp_congr o hs he]

/-- The frame behind the first i operations. -/
def frameOf (ops : List Oper) (a : Act) (V : Nat → Value) : Nat → Act
  | 0 => a
  | i + 1 => match ops[i]? with
    | some o => (frameOf ops a V i).put o.dst (V i)
    | none => frameOf ops a V i

/-- Edges lead back; no guards; a slot that an operation looks at is written ahead of it, by an edge, or behind it, by an edge; no two write one slot. -/
def freeB (ops : List Oper) : Bool :=
  ops.zipIdx.all fun (o, i) =>
    o.guard.isNone && o.after.all (fun e => !Region.binds .any e || decide (e.on < i)) && (match o.op with | .select .. => false | _ => true) &&
    ops.zipIdx.all fun (p, j) =>
      (match p.dst with
       | none => true
       | some d => (i == j || o.dst != some d) &&
          (!(o.op.operands.toList.any fun x => match x with | .tmp t => t == d | _ => false) ||
           (decide (j < i) && o.after.any (fun e => Region.binds .any e && e.on == j)) || (decide (i < j) && p.after.any (fun e => Region.binds .any e && e.on == i))))

theorem freeB_spec {ops : List Oper} (h : freeB ops = true) {i : Nat} {o : Oper} (hi : ops[i]? = some o) :
    o.guard = none ∧ (∀ e ∈ o.after, Region.binds .any e = true → e.on < i) ∧ (∀ cs b, o.op ≠ .select cs b) ∧
    ∀ j p d, ops[j]? = some p → p.dst = some d → (i ≠ j → o.dst ≠ some d) ∧
      (Operand.tmp d ∈ o.op.operands → (j < i ∧ ∃ e ∈ o.after, Region.binds .any e = true ∧ e.on = j) ∨ (i < j ∧ ∃ e ∈ p.after, Region.binds .any e = true ∧ e.on = i)) := by
  have hmem : ∀ {j : Nat} {p : Oper}, ops[j]? = some p → (p, j) ∈ ops.zipIdx := fun hj => List.mem_zipIdx_iff_getElem?.2 hj
  unfold freeB at h
  rw [List.all_eq_true] at h
  have h1 := h _ (hmem hi)
  simp only [Bool.and_eq_true, Option.isNone_iff_eq_none, List.all_eq_true, Array.all_eq_true'] at h1
  obtain ⟨⟨⟨g1, g2⟩, g3⟩, g4⟩ := h1
  refine ⟨g1, fun e he hb => ?_, fun cs b hc => ?_, fun j p d hj hd => ?_⟩
  · have := g2 e he
    simp only [Bool.or_eq_true, Bool.not_eq_true', decide_eq_true_eq] at this
    rcases this with h | h
    · rw [hb] at h; exact absurd h (by decide)
    · exact h
  · rw [hc] at g3; simp at g3
  · have := g4 _ (hmem hj)
    simp only [hd] at this
    simp only [Bool.and_eq_true, Bool.or_eq_true, beq_iff_eq, bne_iff_ne, ne_eq, Bool.not_eq_true', decide_eq_true_eq] at this
    refine ⟨fun hne => this.1.resolve_left hne, fun hx => ?_⟩
    rcases this.2 with (h | ⟨h, h'⟩) | ⟨h, h'⟩
    · exfalso
      have : (o.op.operands.toList.any fun x => match x with | .tmp t => t == d | _ => false) = true := List.any_eq_true.2 ⟨.tmp d, by simpa using hx, by simp⟩
      rw [h] at this; exact absurd this (by decide)
    · left
      obtain ⟨e, he, h2⟩ := Array.any_eq_true'.1 h'
      simp only [Bool.and_eq_true, beq_iff_eq] at h2
      exact ⟨h, e, he, h2.1, h2.2⟩
    · right
      obtain ⟨e, he, h2⟩ := Array.any_eq_true'.1 h'
      simp only [Bool.and_eq_true, beq_iff_eq] at h2
      exact ⟨h, e, he, h2.1, h2.2⟩

/-- The frame at hand: what is listed is written, nothing else is. -/
structure Held (ops : List Oper) (a : Act) (V : Nat → Value) (L : Nat → Prop) (b : Act) : Prop where
  size : b.tmps.size = a.tmps.size
  defers : b.defers = a.defers
  wrote : ∀ i o d, ops[i]? = some o → L i → o.dst = some d → b.tmps[d]? = (a.tmps.setIfInBounds d (V i))[d]?
  kept : ∀ d, (∀ i o, ops[i]? = some o → L i → o.dst ≠ some d) → b.tmps[d]? = a.tmps[d]?

theorem Held.agree {ops : List Oper} {a : Act} {V : Nat → Value} {L L' : Nat → Prop} {b b' : Act} (h : Held ops a V L b) (h' : Held ops a V L' b') (d : Nat)
    (hd : ∀ i o, ops[i]? = some o → o.dst = some d → (L i ↔ L' i)) : b.tmps[d]? = b'.tmps[d]? := by
  by_cases hw : ∃ i o, ops[i]? = some o ∧ L i ∧ o.dst = some d
  · obtain ⟨i, o, hi, hl, ho⟩ := hw
    rw [h.wrote i o d hi hl ho, h'.wrote i o d hi ((hd i o hi ho).1 hl) ho]
  · rw [h.kept d (fun i o hi hl ho => hw ⟨i, o, hi, hl, ho⟩), h'.kept d (fun i o hi hl ho => hw ⟨i, o, hi, (hd i o hi ho).2 hl, ho⟩)]

/-- One operation more. -/
theorem Held.put {ops : List Oper} {a : Act} {V V' : Nat → Value} {L L' : Nat → Prop} {b : Act} (hB : freeB ops = true) (h : Held ops a V L b) {i : Nat} {o : Oper} (hi : ops[i]? = some o) (hli : ¬ L i)
    (hV : ∀ j, j ≠ i → V' j = V j) (hL : ∀ j, L' j ↔ (L j ∨ j = i)) : Held ops a V' L' (b.put o.dst (V' i)) := by
  have hs := (freeB_spec hB hi).2.2.2
  cases hd : o.dst with
  | none =>
    refine ⟨h.size, h.defers, fun j p d hj hl hp => ?_, fun d hk => h.kept d (fun j p hj hl => hk j p hj ((hL j).2 (.inl hl)))⟩
    rcases (hL j).1 hl with hl | rfl
    · rw [hV j (by rintro rfl; exact hli hl)]; exact h.wrote j p d hj hl hp
    · rw [hi] at hj; cases hj; rw [hd] at hp; cases hp
  | some t =>
    refine ⟨by simp [Act.put, h.size], h.defers, fun j p d hj hl hp => ?_, fun d hk => ?_⟩
    · by_cases e : j = i
      · subst e
        rw [hi] at hj; cases hj; rw [hd] at hp; cases hp
        simp [Act.put, Array.getElem?_setIfInBounds, h.size]
      · have hne : t ≠ d := fun he => (hs j p d hj hp).1 (fun e' => e e'.symm) (by rw [hd, he])
        have hl' : L j := ((hL j).1 hl).resolve_right e
        simp only [Act.put, Array.getElem?_setIfInBounds_ne hne]
        rw [hV j e]; exact h.wrote j p d hj hl' hp
    · have hne : t ≠ d := fun he => hk i o hi ((hL i).2 (.inr rfl)) (by rw [hd, he])
      simp only [Act.put, Array.getElem?_setIfInBounds_ne hne]
      exact h.kept d (fun j p hj hl => hk j p hj ((hL j).2 (.inl hl)))

theorem held_frameOf {ops : List Oper} (hB : freeB ops = true) (a : Act) (V : Nat → Value) : ∀ i, i ≤ ops.length → Held ops a V (fun j => j < i) (frameOf ops a V i)
  | 0, _ => ⟨rfl, rfl, fun _ _ _ _ h => absurd h (Nat.not_lt_zero _), fun _ _ => rfl⟩
  | i + 1, hi => by
    have ih := held_frameOf hB a V i (by omega)
    have ho : ops[i]? = some ops[i] := by simp
    simp only [frameOf, ho]
    exact ih.put hB ho (Nat.lt_irrefl i) (fun _ _ => rfl) (fun j => by show j < i + 1 ↔ j < i ∨ j = i; omega)

theorem Held.eq {ops : List Oper} {a : Act} {V : Nat → Value} {L L' : Nat → Prop} {b b' : Act} (h : Held ops a V L b) (h' : Held ops a V L' b') (hL : ∀ i, i < ops.length → (L i ↔ L' i)) : b = b' := by
  have ht : b.tmps = b'.tmps := by
    apply Array.ext (by rw [h.size, h'.size])
    intro i h1 h2
    have := h.agree h' i (fun j o hj _ => hL j (List.getElem?_eq_some_iff.1 hj).1)
    rw [Array.getElem?_eq_getElem h1, Array.getElem?_eq_getElem h2] at this
    exact Option.some.inj this
  have hd : b.defers = b'.defers := h.defers.trans h'.defers.symm
  cases b; cases b'; simp_all

/-- What is not listed yet. -/
def unlisted (n : Nat) (listed : Array Bool) : List Nat := (List.range n).filter fun i => !listed.getD i false
theorem unlisted_nil {n : Nat} {listed : Array Bool} (h : (unlisted n listed).length = 0) : ∀ i, i < n → listed.getD i false = true := by
  intro i hi
  cases hl : listed.getD i false with
  | true => rfl
  | false =>
    have : i ∈ unlisted n listed := List.mem_filter.2 ⟨by simpa using hi, by rw [hl]; rfl⟩
    rw [List.length_eq_zero_iff.1 h] at this
    exact absurd this (by simp)
theorem unlisted_set {n : Nat} {listed : Array Bool} {i : Nat} (hi : i < n) (hb : i < listed.size) (hl : listed.getD i false = false) : (unlisted n (listed.setIfInBounds i true)).length + 1 = (unlisted n listed).length := by
  have e : unlisted n (listed.setIfInBounds i true) = (unlisted n listed).erase i := by
    have hnd : (unlisted n listed).Nodup := List.nodup_range.filter _
    rw [hnd.erase_eq_filter]
    unfold unlisted
    rw [List.filter_filter]
    refine List.filter_congr fun j _ => ?_
    by_cases e : j = i
    · subst e; simp [Array.getD_eq_getD_getElem?, hb]
    · have e' : i ≠ j := fun h => e h.symm
      simp [Array.getD_eq_getD_getElem?, Array.getElem?_setIfInBounds_ne e', e]
  have hm : i ∈ unlisted n listed := List.mem_filter.2 ⟨by simpa using hi, by rw [hl]; rfl⟩
  rw [e, List.length_erase_of_mem hm]
  have := List.length_pos_of_mem hm
  omega

section
variable {P : Program} {l : List Oper} {a : Act} {Q : Exit → Act → World → Prop} (J : Nat → World → Prop) (S : World → World → Prop) (φ : Nat → Value → World → Prop)

theorem wpAny_free (hB : freeB l = true) (hS : ∀ i v w w', S w w' → φ i v w → φ i v w')
    (hop : ∀ i o, l[i]? = some o → ∀ V k w', k < l.length → J k w' → (∀ e ∈ o.after, Region.binds .any e = true → φ e.on (V e.on) w') → Frees P o (frameOf l a V i).eval w' (fun v w'' => φ i v w'' ∧ S w' w'' ∧ J (k + 1) w''))
    (hend : ∀ V k w', k ≤ l.length → J k w' → (∀ i, i < l.length → φ i (V i) w') → Q .normal (frameOf l a V l.length) w') :
    ∀ (fuel k : Nat) (listed : Array Bool) (V : Nat → Value) (b : Act) (w : World), fuel + k = l.length → listed.size = l.length → J k w →
      Held l a V (fun i => listed.getD i false = true) b →
      (∀ i, listed.getD i false = true → φ i (V i) w) →
      (∀ i o, l[i]? = some o → listed.getD i false = true → ∀ e ∈ o.after, Region.binds .any e = true → listed.getD e.on false = true) →
      (unlisted l.length listed).length = fuel →
      wpAny P .any l.toArray Q fuel listed b w := by
  intro fuel
  have all : ∀ (listed : Array Bool), listed.size = l.length → Region.ready .any l.toArray listed = [] → ∀ i, i < l.length → listed.getD i false = true := by
    intro listed hsz hr i
    induction i using Nat.strongRecOn with
    | ind i ih =>
      intro hi
      cases hl : listed.getD i false with
      | true => rfl
      | false =>
        exfalso
        have ho : l[i]? = some l[i] := by simp
        have : i ∈ Region.ready .any l.toArray listed := by
          unfold Region.ready
          refine List.mem_filter.2 ⟨by simpa using hi, ?_⟩
          have h1 : listed.getD i true = false := by
            have hb : i < listed.size := by omega
            simp [Array.getD, hb] at hl ⊢
            exact hl
          have h2 : l.toArray[i]? = some l[i] := by simp [hi]
          simp only [h1, h2, Bool.not_false, Option.map_some, Option.getD_some, Bool.true_and, Array.all_eq_true']
          intro e he
          cases hb : Region.binds .any e with
          | false => rfl
          | true =>
            have := (freeB_spec hB ho).2.1 e he hb
            simp [ih e.on this (by omega)]
        rw [hr] at this
        exact absurd this (by simp)
  have fin : ∀ (k : Nat) (listed : Array Bool) (V : Nat → Value) (b : Act) (w : World), k ≤ l.length → J k w → Held l a V (fun i => listed.getD i false = true) b →
      (∀ i, listed.getD i false = true → φ i (V i) w) → (∀ i, i < l.length → listed.getD i false = true) → Q .normal b w := by
    intro k listed V b w hk hJ hH hφ hall
    have e : b = frameOf l a V l.length := hH.eq (held_frameOf hB a V l.length (Nat.le_refl _)) (fun i hi => ⟨fun _ => hi, fun _ => hall i hi⟩)
    rw [e]
    exact hend V k w hk hJ (fun i hi => hφ i (hall i hi))
  induction fuel with
  | zero =>
    intro k listed V b w hk hsz hJ hH hφ hcl hz
    have hall := unlisted_nil hz
    refine ⟨?_, fin k listed V b w (by omega) hJ hH hφ hall⟩
    cases hr : Region.ready .any l.toArray listed with
    | nil => rfl
    | cons i r =>
      exfalso
      have hi : i ∈ Region.ready .any l.toArray listed := by rw [hr]; simp
      unfold Region.ready at hi
      obtain ⟨h1, h2⟩ := List.mem_filter.1 hi
      have h3 : i < l.length := by simpa using h1
      have h4 := hall i h3
      have hb : i < listed.size := by omega
      simp [Array.getD, hb] at h2 h4
      rw [h4] at h2
      simp at h2
  | succ fuel ih =>
    intro k listed V b w hk hsz hJ hH hφ hcl hz
    refine ⟨fun hr => fin k listed V b w (by omega) hJ hH hφ (all listed hsz hr), fun i hi => ?_⟩
    unfold Region.ready at hi
    obtain ⟨h1, h2⟩ := List.mem_filter.1 hi
    have h3 : i < l.length := by simpa using h1
    have ho : l[i]? = some l[i] := by simp
    have hoA : l.toArray[i]? = some l[i] := by simp [h3]
    have hb : i < listed.size := by omega
    simp only [hoA, Option.map_some, Option.getD_some, Bool.and_eq_true, Bool.not_eq_true', Array.all_eq_true', Bool.or_eq_true] at h2
    have hli : listed.getD i false = false := by
      have := h2.1
      simp [Array.getD, hb] at this ⊢
      exact this
    have hdeps : ∀ e ∈ (l[i]).after, Region.binds .any e = true → listed.getD e.on false = true := fun e he hbd => by
      have := h2.2 e he
      rcases this with h | h
      · rw [hbd] at h; exact absurd h (by decide)
      · exact h
    obtain ⟨sp1, sp2, sp3, sp4⟩ := freeB_spec hB ho
    unfold wpOp
    rw [hoA]
    simp only []
    have hw : Region.wanted l[i] (yielded l.toArray b.tmps) = true := by simp [Region.wanted, sp1]
    rw [if_pos hw]
    left
    have hfr := hop i l[i] ho V k w (by omega) hJ (fun e he hbd => hφ e.on (hdeps e he hbd))
    have hHi := held_frameOf hB a V i (by omega)
    have hcg : ∀ x ∈ (l[i]).op.operands, b.eval x = (frameOf l a V i).eval x := by
      intro x hx
      cases x with
      | tmp t =>
        have key : b.tmps[t]? = (frameOf l a V i).tmps[t]? := by
          refine hH.agree hHi t (fun j p hj hp => ?_)
          rcases (sp4 j p t hj hp).2 hx with ⟨g1, e, ge, gb, rfl⟩ | ⟨g1, e, ge, gb, gi⟩
          · exact ⟨fun _ => g1, fun _ => hdeps e ge gb⟩
          · refine ⟨fun hl => ?_, fun hl => absurd hl (by show ¬ j < i; omega)⟩
            have := hcl j p hj hl e ge gb
            rw [gi, hli] at this
            exact absurd this (by decide)
        simp only [Act.eval]
        simp only [Array.getD_eq_getD_getElem?, key]
      | _ => rfl
    refine (hfr.congr sp3 hcg).wp fun v w' hR => ?_
    obtain ⟨r1, r2, r3⟩ := hR
    have hset : ∀ j, (listed.setIfInBounds i true).getD j false = true ↔ (listed.getD j false = true ∨ j = i) := by
      intro j
      by_cases e : j = i
      · subst e; simp [Array.getD_eq_getD_getElem?, hb]
      · have e' : i ≠ j := fun h => e h.symm
        simp [Array.getD_eq_getD_getElem?, Array.getElem?_setIfInBounds_ne e', e]
    refine ih (k + 1) (listed.setIfInBounds i true) (fun j => if j = i then v else V j) (b.put (l[i]).dst v) w' (by omega) (by simpa using hsz) r3 ?_ ?_ ?_ ?_
    · have := hH.put (V' := fun j => if j = i then v else V j) hB ho (L' := fun j => (listed.setIfInBounds i true).getD j false = true) (by rw [hli]; decide) (fun j hj => by simp [hj]) hset
      simpa using this
    · intro j hj
      rcases (hset j).1 hj with h | rfl
      · have hne : j ≠ i := by rintro rfl; rw [hli] at h; exact absurd h (by decide)
        simp only [hne, if_false]
        exact hS j _ _ _ r2 (hφ j h)
      · simpa using r1
    · intro j p hj hl e he hbd
      rcases (hset j).1 hl with h | rfl
      · exact (hset _).2 (.inl (hcl j p hj h e he hbd))
      · rw [ho] at hj; cases hj
        exact (hset _).2 (.inl (hdeps e he hbd))
    · have := unlisted_set h3 hb hli
      omega

/-- The region, in whatever order. -/
theorem wp_region_free {id : Nat} {w : World} (hm : P.follows .mixedOrders = true) (hB : freeB l = true) (hS : ∀ i v w w', S w w' → φ i v w → φ i v w') (h0 : J 0 { w with drawn := w.drawn + 1 })
    (hop : ∀ i o, l[i]? = some o → ∀ V k w', k < l.length → J k w' → (∀ e ∈ o.after, Region.binds .any e = true → φ e.on (V e.on) w') → Frees P o (frameOf l a V i).eval w' (fun v w'' => φ i v w'' ∧ S w' w'' ∧ J (k + 1) w''))
    (hend : ∀ V k w', k ≤ l.length → J k w' → (∀ i, i < l.length → φ i (V i) w') → Q .normal (frameOf l a V l.length) w') : (Code.region id l.toArray true).wp P Q a w := by
  refine wp_region_any hm ?_
  have hsz : l.toArray.size = l.length := by simp
  have hfalse : ∀ i, (Array.replicate l.length false).getD i false = true → False := fun i h => by
    simp [Array.getD_eq_getD_getElem?, Array.getElem?_replicate] at h
    split at h <;> simp at h
  rw [hsz]
  refine wpAny_free J S φ hB hS hop hend l.length 0 (Array.replicate l.length false) (fun _ => undef) a _ (by omega) (by simp) h0 ⟨rfl, rfl, fun i o d _ h => (hfalse i h).elim, fun d _ => rfl⟩ (fun i h => (hfalse i h).elim) (fun i o _ h => (hfalse i h).elim) ?_
  have : unlisted l.length (Array.replicate l.length false) = List.range l.length := by
    unfold unlisted
    rw [List.filter_eq_self]
    intro i hi
    have : (Array.replicate l.length false).getD i false = false := by
      cases h : (Array.replicate l.length false).getD i false with
      | false => rfl
      | true => exact (hfalse i h).elim
    rw [this]; rfl
  rw [this, List.length_range]

end
/-- A word on a value that stays true while blocks in T alone turn. -/
structure SP (T : Nat → Prop) where
  p : Value → World → Prop
  st : ∀ v w w', Chg T w w' → p v w → p v w'

namespace SP
variable {T : Nat → Prop}
def true : SP T := ⟨fun _ _ => True, fun _ _ _ _ _ => trivial⟩
def eq (v0 : Value) : SP T := ⟨fun v _ => v = v0, fun _ _ _ _ h => h⟩
def int (lo hi : Int) : SP T := ⟨fun v _ => ∃ x : Int, v = .int .i64 x ∧ lo ≤ x ∧ x ≤ hi, fun _ _ _ _ h => h⟩
/-- A literal of m ints between lo and hi. -/
def lit (m : Nat) (lo hi : Int) : SP T := ⟨fun v w => ∃ g, v = .slice (some ⟨g, 0, none⟩) m m ∧ ¬ T g ∧ ∀ j, j < m → ∃ x : Int, w.cell? ⟨g, j, none⟩ = some (.int .i64 x) ∧ lo ≤ x ∧ x ≤ hi,
  fun _ w _ hc ⟨g, h1, h2, h3⟩ => ⟨g, h1, h2, fun j hj => by
    obtain ⟨x, hx, hb⟩ := h3 j hj
    exact ⟨x, (hc.cell (p := ⟨g, j, none⟩) (World.block_lt_of_cell? w _ hx) h2).trans hx, hb⟩⟩⟩
/-- A pointer to an int between lo and hi. -/
def ptr (lo hi : Int) : SP T := ⟨fun v w => ∃ g j, v = .pointer (some ⟨g, j, none⟩) ∧ ¬ T g ∧ ∃ x : Int, w.cell? ⟨g, j, none⟩ = some (.int .i64 x) ∧ lo ≤ x ∧ x ≤ hi,
  fun _ w _ hc ⟨g, j, h1, h2, x, hx, hb⟩ => ⟨g, j, h1, h2, x, (hc.cell (p := ⟨g, j, none⟩) (World.block_lt_of_cell? w _ hx) h2).trans hx, hb⟩⟩
theorem int_elim {lo hi : Int} {v : Value} {w : World} (h : (SP.int (T := T) lo hi).p v w) : ∃ x : Int, v = .int .i64 x ∧ lo ≤ x ∧ x ≤ hi := h
theorem lit_elim {m : Nat} {lo hi : Int} {v : Value} {w : World} (h : (SP.lit (T := T) m lo hi).p v w) :
    ∃ g, v = .slice (some ⟨g, 0, none⟩) m m ∧ ¬ T g ∧ ∀ j, j < m → ∃ x : Int, w.cell? ⟨g, j, none⟩ = some (.int .i64 x) ∧ lo ≤ x ∧ x ≤ hi := h
theorem ptr_elim {lo hi : Int} {v : Value} {w : World} (h : (SP.ptr (T := T) lo hi).p v w) :
    ∃ g j, v = .pointer (some ⟨g, j, none⟩) ∧ ¬ T g ∧ ∃ x : Int, w.cell? ⟨g, j, none⟩ = some (.int .i64 x) ∧ lo ≤ x ∧ x ≤ hi := h
theorem eq_elim {v0 v : Value} {w : World} (h : (SP.eq (T := T) v0).p v w) : v = v0 := h
end SP

def Phi {T : Nat → Prop} (φs : List (SP T)) (i : Nat) (v : Value) (w : World) : Prop := match φs[i]? with | some s => s.p v w | none => True

section
variable {P : Program} {l : List Oper} {a : Act} {Q : Exit → Act → World → Prop} {T : Nat → Prop} (φs : List (SP T)) (J : Nat → World → Prop)

/-- The region, in whatever order: each operation by its word. -/
theorem wp_region_sp {id : Nat} {w : World} (hm : P.follows .mixedOrders = true) (hB : freeB l = true) (h0 : J 0 w.drew)
    (hop : ∀ i o, l[i]? = some o → ∀ V k w', k < l.length → Chg T w w' → J k w' → (∀ e ∈ o.after, Region.binds .any e = true → Phi φs e.on (V e.on) w') → Frees P o (frameOf l a V i).eval w' (fun v w'' => Phi φs i v w'' ∧ Chg T w' w'' ∧ J (k + 1) w''))
    (hend : ∀ V k w', k ≤ l.length → Chg T w w' → J k w' → (∀ i, i < l.length → Phi φs i (V i) w') → Q .normal (frameOf l a V l.length) w') : (Code.region id l.toArray true).wp P Q a w := by
  refine wp_region_free (fun k w' => Chg T w w' ∧ J k w') (Chg T) (Phi φs) hm hB ?_ ⟨(Chg.refl _ _).drew, h0⟩ ?_ ?_
  · intro i v w1 w2 hc h
    unfold Phi at *
    split
    · rename_i s hs; rw [hs] at h; exact s.st v _ _ hc h
    · trivial
  · intro i o hi V k w' hk ⟨h1, h2⟩ hd
    have := hop i o hi V k w' hk h1 h2 hd
    unfold Frees at this ⊢
    split at this
    · exact ⟨this.1, this.2.1, h1.trans this.2.1, this.2.2⟩
    · exact ⟨this.1, this.2.1, h1.trans this.2.1, this.2.2⟩
    · exact this.mono fun e w'' he => by
        obtain ⟨v, rfl, g1, g2, g3⟩ := he
        exact ⟨v, rfl, g1, g2, h1.trans g2, g3⟩
    · exact this
  · intro V k w' hk ⟨h1, h2⟩ hφ
    exact hend V k w' hk h1 h2 hφ
end
end Go.Proofs.Ytjmofmdcegefgaa

namespace Go.Proofs.Ytjmofmdcegefgaa
open Go.RowKit

/-- What stands ahead of operation j by edges. -/
def depsOf (l : List Oper) (j : Nat) : List Nat := match l[j]? with | some o => (o.after.toList.filter fun e => Region.binds .any e).map fun e => e.on | none => []
def ancOf (l : List Oper) : Nat → Nat → List Nat
  | 0, _ => []
  | f + 1, j => depsOf l j ++ (depsOf l j).flatMap (ancOf l f)
/-- When j runs, i's value has been used up, or j uses it up, or it does not yet stand. -/
def gone (l : List Oper) (c : Nat → Option Nat) (i j : Nat) : Bool := (match c i with | none => false | some m => m == j || (ancOf l l.length j).contains m) || (ancOf l l.length i).contains j

theorem anc_listed {l : List Oper} {L : Nat → Prop} (hcl : ∀ x, L x → ∀ e ∈ depsOf l x, L e) : ∀ (f j : Nat), (∀ e ∈ depsOf l j, L e) → ∀ m ∈ ancOf l f j, L m
  | 0, _, _, m, hm => by simp [ancOf] at hm
  | f + 1, j, hj, m, hm => by
    unfold ancOf at hm
    rcases List.mem_append.1 hm with h | h
    · exact hj m h
    · obtain ⟨e, he, hm'⟩ := List.mem_flatMap.1 h
      exact anc_listed hcl f e (hcl e (hj e he)) m hm'

section
variable {P : Program} {l : List Oper} {a : Act} {Q : Exit → Act → World → Prop} (J : Nat → World → Prop) (S : Nat → World → World → Prop) (φ : Nat → Value → World → Prop) (c : Nat → Option Nat)

theorem wpAny_use (hB : freeB l = true) (hS : ∀ i j v w w', i ≠ j → gone l c i j = false → S j w w' → φ i v w → φ i v w')
    (hop : ∀ i o, l[i]? = some o → ∀ V k w', k < l.length → J k w' → (∀ e ∈ o.after, Region.binds .any e = true → (c e.on = none ∨ c e.on = some i) → φ e.on (V e.on) w') → Frees P o (frameOf l a V i).eval w' (fun v w'' => φ i v w'' ∧ S i w' w'' ∧ J (k + 1) w''))
    (hend : ∀ V k w', k ≤ l.length → J k w' → (∀ i, i < l.length → c i = none → φ i (V i) w') → Q .normal (frameOf l a V l.length) w') :
    ∀ (fuel k : Nat) (listed : Array Bool) (V : Nat → Value) (b : Act) (w : World), fuel + k = l.length → listed.size = l.length → J k w →
      Held l a V (fun i => listed.getD i false = true) b →
      (∀ i, listed.getD i false = true → (∀ j, c i = some j → listed.getD j false = false) → φ i (V i) w) →
      (∀ i o, l[i]? = some o → listed.getD i false = true → ∀ e ∈ o.after, Region.binds .any e = true → listed.getD e.on false = true) →
      (unlisted l.length listed).length = fuel →
      wpAny P .any l.toArray Q fuel listed b w := by
  intro fuel
  have all : ∀ (listed : Array Bool), listed.size = l.length → Region.ready .any l.toArray listed = [] → ∀ i, i < l.length → listed.getD i false = true := by
    intro listed hsz hr i
    induction i using Nat.strongRecOn with
    | ind i ih =>
      intro hi
      cases hl : listed.getD i false with
      | true => rfl
      | false =>
        exfalso
        have ho : l[i]? = some l[i] := by simp
        have : i ∈ Region.ready .any l.toArray listed := by
          unfold Region.ready
          refine List.mem_filter.2 ⟨by simpa using hi, ?_⟩
          have h1 : listed.getD i true = false := by
            have hb : i < listed.size := by omega
            simp [Array.getD, hb] at hl ⊢
            exact hl
          have h2 : l.toArray[i]? = some l[i] := by simp [hi]
          simp only [h1, h2, Bool.not_false, Option.map_some, Option.getD_some, Bool.true_and, Array.all_eq_true']
          intro e he
          cases hb : Region.binds .any e with
          | false => rfl
          | true =>
            have := (freeB_spec hB ho).2.1 e he hb
            simp [ih e.on this (by omega)]
        rw [hr] at this
        exact absurd this (by simp)
  have fin : ∀ (k : Nat) (listed : Array Bool) (V : Nat → Value) (b : Act) (w : World), k ≤ l.length → J k w → Held l a V (fun i => listed.getD i false = true) b →
      (∀ i, listed.getD i false = true → (∀ j, c i = some j → listed.getD j false = false) → φ i (V i) w) → (∀ i, i < l.length → listed.getD i false = true) → Q .normal b w := by
    intro k listed V b w hk hJ hH hφ hall
    have e : b = frameOf l a V l.length := hH.eq (held_frameOf hB a V l.length (Nat.le_refl _)) (fun i hi => ⟨fun _ => hi, fun _ => hall i hi⟩)
    rw [e]
    exact hend V k w hk hJ (fun i hi hc => hφ i (hall i hi) (fun j hj => by rw [hc] at hj; cases hj))
  induction fuel with
  | zero =>
    intro k listed V b w hk hsz hJ hH hφ hcl hz
    have hall := unlisted_nil hz
    refine ⟨?_, fin k listed V b w (by omega) hJ hH hφ hall⟩
    cases hr : Region.ready .any l.toArray listed with
    | nil => rfl
    | cons i r =>
      exfalso
      have hi : i ∈ Region.ready .any l.toArray listed := by rw [hr]; simp
      unfold Region.ready at hi
      obtain ⟨h1, h2⟩ := List.mem_filter.1 hi
      have h3 : i < l.length := by simpa using h1
      have h4 := hall i h3
      have hb : i < listed.size := by omega
      simp [Array.getD, hb] at h2 h4
      rw [h4] at h2
      simp at h2
  | succ fuel ih =>
    intro k listed V b w hk hsz hJ hH hφ hcl hz
    refine ⟨fun hr => fin k listed V b w (by omega) hJ hH hφ (all listed hsz hr), fun i hi => ?_⟩
    unfold Region.ready at hi
    obtain ⟨h1, h2⟩ := List.mem_filter.1 hi
    have h3 : i < l.length := by simpa using h1
    have ho : l[i]? = some l[i] := by simp
    have hoA : l.toArray[i]? = some l[i] := by simp [h3]
    have hb : i < listed.size := by omega
    simp only [hoA, Option.map_some, Option.getD_some, Bool.and_eq_true, Bool.not_eq_true', Array.all_eq_true', Bool.or_eq_true] at h2
    have hli : listed.getD i false = false := by
      have := h2.1
      simp [Array.getD, hb] at this ⊢
      exact this
    have hdeps : ∀ e ∈ (l[i]).after, Region.binds .any e = true → listed.getD e.on false = true := fun e he hbd => by
      have := h2.2 e he
      rcases this with h | h
      · rw [hbd] at h; exact absurd h (by decide)
      · exact h
    have memd : ∀ x o, l[x]? = some o → ∀ e ∈ depsOf l x, ∃ d ∈ o.after, Region.binds .any d = true ∧ d.on = e := by
      intro x o hx e he
      simp only [depsOf, hx, List.mem_map, List.mem_filter] at he
      obtain ⟨d, ⟨hd1, hd2⟩, rfl⟩ := he
      exact ⟨d, by simpa using hd1, hd2, rfl⟩
    have hclL : ∀ x, listed.getD x false = true → ∀ e ∈ depsOf l x, listed.getD e false = true := fun x hx e he => by
      have hxl : x < l.length := by
        rcases Nat.lt_or_ge x listed.size with h | h
        · omega
        · simp [Array.getD_eq_getD_getElem?, Array.getElem?_eq_none h] at hx
      have hxo : l[x]? = some l[x] := by simp
      obtain ⟨d, hd1, hd2, rfl⟩ := memd x _ hxo e he
      exact hcl x _ hxo hx d hd1 hd2
    have hancL : ∀ x, listed.getD x false = true → ∀ m ∈ ancOf l l.length x, listed.getD m false = true := fun x hx =>
      anc_listed (L := fun x => listed.getD x false = true) hclL l.length x (hclL x hx)
    have hanc : ∀ m ∈ ancOf l l.length i, listed.getD m false = true :=
      anc_listed (L := fun x => listed.getD x false = true) hclL l.length i (fun e he => by
        obtain ⟨d, hd1, hd2, rfl⟩ := memd i _ ho e he
        exact hdeps d hd1 hd2)
    obtain ⟨sp1, sp2, sp3, sp4⟩ := freeB_spec hB ho
    unfold wpOp
    rw [hoA]
    simp only []
    have hw : Region.wanted l[i] (yielded l.toArray b.tmps) = true := by simp [Region.wanted, sp1]
    rw [if_pos hw]
    left
    have hfr := hop i l[i] ho V k w (by omega) hJ (fun e he hbd hce => hφ e.on (hdeps e he hbd) (fun j hj => by
      rcases hce with h | h
      · rw [h] at hj; cases hj
      · rw [h] at hj; cases hj; exact hli))
    have hHi := held_frameOf hB a V i (by omega)
    have hcg : ∀ x ∈ (l[i]).op.operands, b.eval x = (frameOf l a V i).eval x := by
      intro x hx
      cases x with
      | tmp t =>
        have key : b.tmps[t]? = (frameOf l a V i).tmps[t]? := by
          refine hH.agree hHi t (fun j p hj hp => ?_)
          rcases (sp4 j p t hj hp).2 hx with ⟨g1, e, ge, gb, rfl⟩ | ⟨g1, e, ge, gb, gi⟩
          · exact ⟨fun _ => g1, fun _ => hdeps e ge gb⟩
          · refine ⟨fun hl => ?_, fun hl => absurd hl (by show ¬ j < i; omega)⟩
            have := hcl j p hj hl e ge gb
            rw [gi, hli] at this
            exact absurd this (by decide)
        simp only [Act.eval]
        simp only [Array.getD_eq_getD_getElem?, key]
      | _ => rfl
    refine (hfr.congr sp3 hcg).wp fun v w' hR => ?_
    obtain ⟨r1, r2, r3⟩ := hR
    have hset : ∀ j, (listed.setIfInBounds i true).getD j false = true ↔ (listed.getD j false = true ∨ j = i) := by
      intro j
      by_cases e : j = i
      · subst e; simp [Array.getD_eq_getD_getElem?, hb]
      · have e' : i ≠ j := fun h => e h.symm
        simp [Array.getD_eq_getD_getElem?, Array.getElem?_setIfInBounds_ne e', e]
    refine ih (k + 1) (listed.setIfInBounds i true) (fun j => if j = i then v else V j) (b.put (l[i]).dst v) w' (by omega) (by simpa using hsz) r3 ?_ ?_ ?_ ?_
    · have := hH.put (V' := fun j => if j = i then v else V j) hB ho (L' := fun j => (listed.setIfInBounds i true).getD j false = true) (by rw [hli]; decide) (fun j hj => by simp [hj]) hset
      simpa using this
    · intro j hj hcj
      rcases (hset j).1 hj with h | rfl
      · have hne : j ≠ i := by rintro rfl; rw [hli] at h; exact absurd h (by decide)
        simp only [hne, if_false]
        have hnl : ∀ m, c j = some m → ¬ (listed.getD m false = true ∨ m = i) := fun m hm hx => by
          have := hcj m hm
          rw [(hset m).2 hx] at this
          cases this
        refine hS j i _ _ _ hne ?_ r2 (hφ j h (fun m hm => ?_))
        · have hy : (ancOf l l.length j).contains i = false := by
            cases hx : (ancOf l l.length j).contains i with
            | false => rfl
            | true =>
              have := hancL j h i (by simpa using hx)
              rw [hli] at this
              cases this
          unfold gone
          rw [hy, Bool.or_false]
          cases hc : c j with
          | none => rfl
          | some m =>
            simp only [Bool.or_eq_false_iff, beq_eq_false_iff_ne]
            refine ⟨fun e => hnl m hc (.inr e), ?_⟩
            cases hx : (ancOf l l.length i).contains m with
            | false => rfl
            | true => exact absurd (.inl (hanc m (by simpa using hx))) (hnl m hc)
        · cases hx : listed.getD m false with
          | false => rfl
          | true => exact absurd (.inl hx) (hnl m hm)
      · simpa using r1
    · intro j p hj hl e he hbd
      rcases (hset j).1 hl with h | rfl
      · exact (hset _).2 (.inl (hcl j p hj h e he hbd))
      · rw [ho] at hj; cases hj
        exact (hset _).2 (.inl (hdeps e he hbd))
    · have := unlisted_set h3 hb hli
      omega

/-- The region, in whatever order. -/
theorem wp_region_use {id : Nat} {w : World} (hm : P.follows .mixedOrders = true) (hB : freeB l = true) (hS : ∀ i j v w w', i ≠ j → gone l c i j = false → S j w w' → φ i v w → φ i v w') (h0 : J 0 { w with drawn := w.drawn + 1 })
    (hop : ∀ i o, l[i]? = some o → ∀ V k w', k < l.length → J k w' → (∀ e ∈ o.after, Region.binds .any e = true → (c e.on = none ∨ c e.on = some i) → φ e.on (V e.on) w') → Frees P o (frameOf l a V i).eval w' (fun v w'' => φ i v w'' ∧ S i w' w'' ∧ J (k + 1) w''))
    (hend : ∀ V k w', k ≤ l.length → J k w' → (∀ i, i < l.length → c i = none → φ i (V i) w') → Q .normal (frameOf l a V l.length) w') : (Code.region id l.toArray true).wp P Q a w := by
  refine wp_region_any hm ?_
  have hsz : l.toArray.size = l.length := by simp
  have hfalse : ∀ i, (Array.replicate l.length false).getD i false = true → False := fun i h => by
    simp [Array.getD_eq_getD_getElem?, Array.getElem?_replicate] at h
    split at h <;> simp at h
  rw [hsz]
  refine wpAny_use J S φ c hB hS hop hend l.length 0 (Array.replicate l.length false) (fun _ => undef) a _ (by omega) (by simp) h0 ⟨rfl, rfl, fun i o d _ h => (hfalse i h).elim, fun d _ => rfl⟩ (fun i h _ => (hfalse i h).elim) (fun i o _ h => (hfalse i h).elim) ?_
  have : unlisted l.length (Array.replicate l.length false) = List.range l.length := by
    unfold unlisted
    rw [List.filter_eq_self]
    intro i hi
    have : (Array.replicate l.length false).getD i false = false := by
      cases h : (Array.replicate l.length false).getD i false with
      | false => rfl
      | true => exact (hfalse i h).elim
    rw [this]; rfl
  rw [this, List.length_range]
end

/-- 'append' of an operation of such a region. -/
theorem frees_append {P : Program} {w : World} {o : Oper} {ρ : Operand → Value} {R : Value → World → Prop} (s x : Operand) (t : TypeId) (ho : o.op = .call { callee := .builtin .append, args := #[s, x], argTypes := #[t, t] })
    (base : Nat) (e : TypeId) (i : TypeInfo) (z : Value) (size bytes : Nat) (ht : P.underlying t = some (.slice e)) (hi : P.info? e = some i) (hz : i.zero = some z)
    (hsize : i.size = size) (hby : i.bytes = bytes) (hzs : z.cells.size = size) (hsz : 0 < size)
    (v : Value) (n : Nat) (xs : List Value) (hs : ρ s = v) (hown : w.ownsRow base e size v n xs)
    (ad : Addr) (m c : Nat) (news : List Value) (hx : ρ x = .slice (some ad) m c) (hl : news.length = m * size) (hnews : ∀ j u, news[j]? = some u → w.cell? (ad.add j) = some u) (h1 : ∀ u ∈ news, u.oneCell' = true)
    (h63 : n + m ≤ maxLen) (hbytes : (n + m) * bytes ≤ 140737488355328) (hbase : base ≤ w.heap.size)
    (h : ∀ v' w', w'.ownsRow base e size v' (n + m) (xs ++ news) → w.grownBy w' v.ownBlock → (v' = .slice none 0 0 ↔ v = .slice none 0 0 ∧ m = 0) → R v' w') : Frees P o ρ w R := by
  obtain ⟨v', w', hr, h2, h3, h4⟩ := run_append_own (P := P) w base t o.type e i z size bytes ht hi hz hsize hby hzs hsz v n xs hown ad m c news hl hnews h1 h63 hbytes hbase
  unfold Frees execOp
  simp only [ho, resolve, invoke, builtin, Sem.run_bind, Sem.run_pure, Result.andThen_ok, List.map_toArray, List.map_cons, List.map_nil, hs, hx, hr]
  exact h v' w' h2 h3 h4

end Go.Proofs.Ytjmofmdcegefgaa

namespace Go.Proofs.Ytjmofmdcegefgaa
open Go.RowKit

theorem bool_or {a b : Bool} {i j : Nat} (h : a = true ↔ (b = true ∨ j = i)) : a = (b || j == i) := by
  by_cases e : j = i
  · subst e
    rw [h.2 (.inr rfl)]; simp
  · have e2 : (j == i) = false := by simpa using e
    rw [e2, Bool.or_false]
    cases b with
    | true => exact h.2 (.inl rfl)
    | false =>
      cases a with
      | false => rfl
      | true => exact absurd (h.1 rfl) (by simp [e])

section
variable {P : Program} {l : List Oper} {a : Act} {Q : Exit → Act → World → Prop} (J : (Nat → Bool) → World → Prop) (S : Nat → World → World → Prop) (φ : Nat → Value → World → Prop) (c : Nat → Option Nat)

theorem wpAny_set (hB : freeB l = true) (hS : ∀ i j v w w', i ≠ j → gone l c i j = false → S j w w' → φ i v w → φ i v w')
    (hop : ∀ i o, l[i]? = some o → ∀ V D w', D i = false → (∀ x, D x = true → ∀ m ∈ ancOf l l.length x, D m = true) → J D w' → (∀ e ∈ o.after, Region.binds .any e = true → (c e.on = none ∨ c e.on = some i) → φ e.on (V e.on) w') → Frees P o (frameOf l a V i).eval w' (fun v w'' => φ i v w'' ∧ S i w' w'' ∧ J (fun j => D j || j == i) w''))
    (hend : ∀ V D w', (∀ i, i < l.length → D i = true) → J D w' → (∀ i, i < l.length → c i = none → φ i (V i) w') → Q .normal (frameOf l a V l.length) w') :
    ∀ (fuel : Nat) (listed : Array Bool) (V : Nat → Value) (b : Act) (w : World), listed.size = l.length → J (fun j => listed.getD j false) w →
      Held l a V (fun i => listed.getD i false = true) b →
      (∀ i, listed.getD i false = true → (∀ j, c i = some j → listed.getD j false = false) → φ i (V i) w) →
      (∀ i o, l[i]? = some o → listed.getD i false = true → ∀ e ∈ o.after, Region.binds .any e = true → listed.getD e.on false = true) →
      (unlisted l.length listed).length = fuel →
      wpAny P .any l.toArray Q fuel listed b w := by
  intro fuel
  have all : ∀ (listed : Array Bool), listed.size = l.length → Region.ready .any l.toArray listed = [] → ∀ i, i < l.length → listed.getD i false = true := by
    intro listed hsz hr i
    induction i using Nat.strongRecOn with
    | ind i ih =>
      intro hi
      cases hl : listed.getD i false with
      | true => rfl
      | false =>
        exfalso
        have ho : l[i]? = some l[i] := by simp
        have : i ∈ Region.ready .any l.toArray listed := by
          unfold Region.ready
          refine List.mem_filter.2 ⟨by simpa using hi, ?_⟩
          have h1 : listed.getD i true = false := by
            have hb : i < listed.size := by omega
            simp [Array.getD, hb] at hl ⊢
            exact hl
          have h2 : l.toArray[i]? = some l[i] := by simp [hi]
          simp only [h1, h2, Bool.not_false, Option.map_some, Option.getD_some, Bool.true_and, Array.all_eq_true']
          intro e he
          cases hb : Region.binds .any e with
          | false => rfl
          | true =>
            have := (freeB_spec hB ho).2.1 e he hb
            simp [ih e.on this (by omega)]
        rw [hr] at this
        exact absurd this (by simp)
  have fin : ∀ (listed : Array Bool) (V : Nat → Value) (b : Act) (w : World), J (fun j => listed.getD j false) w → Held l a V (fun i => listed.getD i false = true) b →
      (∀ i, listed.getD i false = true → (∀ j, c i = some j → listed.getD j false = false) → φ i (V i) w) → (∀ i, i < l.length → listed.getD i false = true) → Q .normal b w := by
    intro listed V b w hJ hH hφ hall
    have e : b = frameOf l a V l.length := hH.eq (held_frameOf hB a V l.length (Nat.le_refl _)) (fun i hi => ⟨fun _ => hi, fun _ => hall i hi⟩)
    rw [e]
    exact hend V _ w hall hJ (fun i hi hc => hφ i (hall i hi) (fun j hj => by rw [hc] at hj; cases hj))
  induction fuel with
  | zero =>
    intro listed V b w hsz hJ hH hφ hcl hz
    have hall := unlisted_nil hz
    refine ⟨?_, fin listed V b w hJ hH hφ hall⟩
    cases hr : Region.ready .any l.toArray listed with
    | nil => rfl
    | cons i r =>
      exfalso
      have hi : i ∈ Region.ready .any l.toArray listed := by rw [hr]; simp
      unfold Region.ready at hi
      obtain ⟨h1, h2⟩ := List.mem_filter.1 hi
      have h3 : i < l.length := by simpa using h1
      have h4 := hall i h3
      have hb : i < listed.size := by omega
      simp [Array.getD, hb] at h2 h4
      rw [h4] at h2
      simp at h2
  | succ fuel ih =>
    intro listed V b w hsz hJ hH hφ hcl hz
    refine ⟨fun hr => fin listed V b w hJ hH hφ (all listed hsz hr), fun i hi => ?_⟩
    unfold Region.ready at hi
    obtain ⟨h1, h2⟩ := List.mem_filter.1 hi
    have h3 : i < l.length := by simpa using h1
    have ho : l[i]? = some l[i] := by simp
    have hoA : l.toArray[i]? = some l[i] := by simp [h3]
    have hb : i < listed.size := by omega
    simp only [hoA, Option.map_some, Option.getD_some, Bool.and_eq_true, Bool.not_eq_true', Array.all_eq_true', Bool.or_eq_true] at h2
    have hli : listed.getD i false = false := by
      have := h2.1
      simp [Array.getD, hb] at this ⊢
      exact this
    have hdeps : ∀ e ∈ (l[i]).after, Region.binds .any e = true → listed.getD e.on false = true := fun e he hbd => by
      have := h2.2 e he
      rcases this with h | h
      · rw [hbd] at h; exact absurd h (by decide)
      · exact h
    have memd : ∀ x o, l[x]? = some o → ∀ e ∈ depsOf l x, ∃ d ∈ o.after, Region.binds .any d = true ∧ d.on = e := by
      intro x o hx e he
      simp only [depsOf, hx, List.mem_map, List.mem_filter] at he
      obtain ⟨d, ⟨hd1, hd2⟩, rfl⟩ := he
      exact ⟨d, by simpa using hd1, hd2, rfl⟩
    have hclL : ∀ x, listed.getD x false = true → ∀ e ∈ depsOf l x, listed.getD e false = true := fun x hx e he => by
      have hxl : x < l.length := by
        rcases Nat.lt_or_ge x listed.size with h | h
        · omega
        · simp [Array.getD_eq_getD_getElem?, Array.getElem?_eq_none h] at hx
      have hxo : l[x]? = some l[x] := by simp
      obtain ⟨d, hd1, hd2, rfl⟩ := memd x _ hxo e he
      exact hcl x _ hxo hx d hd1 hd2
    have hancL : ∀ x, listed.getD x false = true → ∀ m ∈ ancOf l l.length x, listed.getD m false = true := fun x hx =>
      anc_listed (L := fun x => listed.getD x false = true) hclL l.length x (hclL x hx)
    have hanc : ∀ m ∈ ancOf l l.length i, listed.getD m false = true :=
      anc_listed (L := fun x => listed.getD x false = true) hclL l.length i (fun e he => by
        obtain ⟨d, hd1, hd2, rfl⟩ := memd i _ ho e he
        exact hdeps d hd1 hd2)
    obtain ⟨sp1, sp2, sp3, sp4⟩ := freeB_spec hB ho
    unfold wpOp
    rw [hoA]
    simp only []
    have hw : Region.wanted l[i] (yielded l.toArray b.tmps) = true := by simp [Region.wanted, sp1]
    rw [if_pos hw]
    left
    have hfr := hop i l[i] ho V _ w hli hancL hJ (fun e he hbd hce => hφ e.on (hdeps e he hbd) (fun j hj => by
      rcases hce with h | h
      · rw [h] at hj; cases hj
      · rw [h] at hj; cases hj; exact hli))
    have hHi := held_frameOf hB a V i (by omega)
    have hcg : ∀ x ∈ (l[i]).op.operands, b.eval x = (frameOf l a V i).eval x := by
      intro x hx
      cases x with
      | tmp t =>
        have key : b.tmps[t]? = (frameOf l a V i).tmps[t]? := by
          refine hH.agree hHi t (fun j p hj hp => ?_)
          rcases (sp4 j p t hj hp).2 hx with ⟨g1, e, ge, gb, rfl⟩ | ⟨g1, e, ge, gb, gi⟩
          · exact ⟨fun _ => g1, fun _ => hdeps e ge gb⟩
          · refine ⟨fun hl => ?_, fun hl => absurd hl (by show ¬ j < i; omega)⟩
            have := hcl j p hj hl e ge gb
            rw [gi, hli] at this
            exact absurd this (by decide)
        simp only [Act.eval]
        simp only [Array.getD_eq_getD_getElem?, key]
      | _ => rfl
    refine (hfr.congr sp3 hcg).wp fun v w' hR => ?_
    obtain ⟨r1, r2, r3⟩ := hR
    have hset : ∀ j, (listed.setIfInBounds i true).getD j false = true ↔ (listed.getD j false = true ∨ j = i) := by
      intro j
      by_cases e : j = i
      · subst e; simp [Array.getD_eq_getD_getElem?, hb]
      · have e' : i ≠ j := fun h => e h.symm
        simp [Array.getD_eq_getD_getElem?, Array.getElem?_setIfInBounds_ne e', e]
    have hfun : (fun j => (listed.setIfInBounds i true).getD j false) = fun j => listed.getD j false || j == i := by
      funext j
      exact bool_or (hset j)
    refine ih (listed.setIfInBounds i true) (fun j => if j = i then v else V j) (b.put (l[i]).dst v) w' (by simpa using hsz) (by rw [hfun]; exact r3) ?_ ?_ ?_ ?_
    · have := hH.put (V' := fun j => if j = i then v else V j) hB ho (L' := fun j => (listed.setIfInBounds i true).getD j false = true) (by rw [hli]; decide) (fun j hj => by simp [hj]) hset
      simpa using this
    · intro j hj hcj
      rcases (hset j).1 hj with h | rfl
      · have hne : j ≠ i := by rintro rfl; rw [hli] at h; exact absurd h (by decide)
        simp only [hne, if_false]
        have hnl : ∀ m, c j = some m → ¬ (listed.getD m false = true ∨ m = i) := fun m hm hx => by
          have := hcj m hm
          rw [(hset m).2 hx] at this
          cases this
        refine hS j i _ _ _ hne ?_ r2 (hφ j h (fun m hm => ?_))
        · have hy : (ancOf l l.length j).contains i = false := by
            cases hx : (ancOf l l.length j).contains i with
            | false => rfl
            | true =>
              have := hancL j h i (by simpa using hx)
              rw [hli] at this
              cases this
          unfold gone
          rw [hy, Bool.or_false]
          cases hc : c j with
          | none => rfl
          | some m =>
            simp only [Bool.or_eq_false_iff, beq_eq_false_iff_ne]
            refine ⟨fun e => hnl m hc (.inr e), ?_⟩
            cases hx : (ancOf l l.length i).contains m with
            | false => rfl
            | true => exact absurd (.inl (hanc m (by simpa using hx))) (hnl m hc)
        · cases hx : listed.getD m false with
          | false => rfl
          | true => exact absurd (.inl hx) (hnl m hm)
      · simpa using r1
    · intro j p hj hl e he hbd
      rcases (hset j).1 hl with h | rfl
      · exact (hset _).2 (.inl (hcl j p hj h e he hbd))
      · rw [ho] at hj; cases hj
        exact (hset _).2 (.inl (hdeps e he hbd))
    · have := unlisted_set h3 hb hli
      omega

/-- The region, in whatever order. -/
theorem wp_region_set {id : Nat} {w : World} (hm : P.follows .mixedOrders = true) (hB : freeB l = true) (hS : ∀ i j v w w', i ≠ j → gone l c i j = false → S j w w' → φ i v w → φ i v w') (h0 : J (fun _ => false) { w with drawn := w.drawn + 1 })
    (hop : ∀ i o, l[i]? = some o → ∀ V D w', D i = false → (∀ x, D x = true → ∀ m ∈ ancOf l l.length x, D m = true) → J D w' → (∀ e ∈ o.after, Region.binds .any e = true → (c e.on = none ∨ c e.on = some i) → φ e.on (V e.on) w') → Frees P o (frameOf l a V i).eval w' (fun v w'' => φ i v w'' ∧ S i w' w'' ∧ J (fun j => D j || j == i) w''))
    (hend : ∀ V D w', (∀ i, i < l.length → D i = true) → J D w' → (∀ i, i < l.length → c i = none → φ i (V i) w') → Q .normal (frameOf l a V l.length) w') : (Code.region id l.toArray true).wp P Q a w := by
  refine wp_region_any hm ?_
  have hsz : l.toArray.size = l.length := by simp
  have hfalse : ∀ i, (Array.replicate l.length false).getD i false = true → False := fun i h => by
    simp [Array.getD_eq_getD_getElem?, Array.getElem?_replicate] at h
    split at h <;> simp at h
  rw [hsz]
  have hfun : (fun j => (Array.replicate l.length false).getD j false) = fun _ => false := by
    funext j
    cases h : (Array.replicate l.length false).getD j false with
    | false => rfl
    | true => exact (hfalse j h).elim
  refine wpAny_set J S φ c hB hS hop hend l.length (Array.replicate l.length false) (fun _ => undef) a _ (by simp) (by rw [hfun]; exact h0) ⟨rfl, rfl, fun i o d _ h => (hfalse i h).elim, fun d _ => rfl⟩ (fun i h _ => (hfalse i h).elim) (fun i o _ h => (hfalse i h).elim) ?_
  have : unlisted l.length (Array.replicate l.length false) = List.range l.length := by
    unfold unlisted
    rw [List.filter_eq_self]
    intro i hi
    have : (Array.replicate l.length false).getD i false = false := by
      cases h : (Array.replicate l.length false).getD i false with
      | false => rfl
      | true => exact (hfalse i h).elim
    rw [this]; rfl
  rw [this, List.length_range]
end


end Go.Proofs.Ytjmofmdcegefgaa

namespace Go.Proofs.Ytjmofmdcegefgaa
open Go.RowKit

section
variable {P : Program} {l : List Oper} {a : Act} {Q : Exit → Act → World → Prop} (J : (Nat → Bool) → (Nat → Value) → World → Prop) (S : Nat → World → World → Prop) (φ : Nat → Value → World → Prop) (c : Nat → Option Nat)

theorem wpAny_val (hB : freeB l = true) (hS : ∀ i j v w w', i ≠ j → gone l c i j = false → S j w w' → φ i v w → φ i v w')
    (hop : ∀ i o, l[i]? = some o → ∀ V D w', D i = false → (∀ x, D x = true → ∀ m ∈ ancOf l l.length x, D m = true) → (∀ e ∈ o.after, Region.binds .any e = true → D e.on = true) → J D V w' → (∀ e ∈ o.after, Region.binds .any e = true → (c e.on = none ∨ c e.on = some i) → φ e.on (V e.on) w') → Frees P o (frameOf l a V i).eval w' (fun v w'' => φ i v w'' ∧ S i w' w'' ∧ J (fun j => D j || j == i) (fun j => if j = i then v else V j) w''))
    (hend : ∀ V D w', (∀ i, i < l.length → D i = true) → J D V w' → (∀ i, i < l.length → c i = none → φ i (V i) w') → Q .normal (frameOf l a V l.length) w') :
    ∀ (fuel : Nat) (listed : Array Bool) (V : Nat → Value) (b : Act) (w : World), listed.size = l.length → J (fun j => listed.getD j false) V w →
      Held l a V (fun i => listed.getD i false = true) b →
      (∀ i, listed.getD i false = true → (∀ j, c i = some j → listed.getD j false = false) → φ i (V i) w) →
      (∀ i o, l[i]? = some o → listed.getD i false = true → ∀ e ∈ o.after, Region.binds .any e = true → listed.getD e.on false = true) →
      (unlisted l.length listed).length = fuel →
      wpAny P .any l.toArray Q fuel listed b w := by
  intro fuel
  have all : ∀ (listed : Array Bool), listed.size = l.length → Region.ready .any l.toArray listed = [] → ∀ i, i < l.length → listed.getD i false = true := by
    intro listed hsz hr i
    induction i using Nat.strongRecOn with
    | ind i ih =>
      intro hi
      cases hl : listed.getD i false with
      | true => rfl
      | false =>
        exfalso
        have ho : l[i]? = some l[i] := by simp
        have : i ∈ Region.ready .any l.toArray listed := by
          unfold Region.ready
          refine List.mem_filter.2 ⟨by simpa using hi, ?_⟩
          have h1 : listed.getD i true = false := by
            have hb : i < listed.size := by omega
            simp [Array.getD, hb] at hl ⊢
            exact hl
          have h2 : l.toArray[i]? = some l[i] := by simp [hi]
          simp only [h1, h2, Bool.not_false, Option.map_some, Option.getD_some, Bool.true_and, Array.all_eq_true']
          intro e he
          cases hb : Region.binds .any e with
          | false => rfl
          | true =>
            have := (freeB_spec hB ho).2.1 e he hb
            simp [ih e.on this (by omega)]
        rw [hr] at this
        exact absurd this (by simp)
  have fin : ∀ (listed : Array Bool) (V : Nat → Value) (b : Act) (w : World), J (fun j => listed.getD j false) V w → Held l a V (fun i => listed.getD i false = true) b →
      (∀ i, listed.getD i false = true → (∀ j, c i = some j → listed.getD j false = false) → φ i (V i) w) → (∀ i, i < l.length → listed.getD i false = true) → Q .normal b w := by
    intro listed V b w hJ hH hφ hall
    have e : b = frameOf l a V l.length := hH.eq (held_frameOf hB a V l.length (Nat.le_refl _)) (fun i hi => ⟨fun _ => hi, fun _ => hall i hi⟩)
    rw [e]
    exact hend V _ w hall hJ (fun i hi hc => hφ i (hall i hi) (fun j hj => by rw [hc] at hj; cases hj))
  induction fuel with
  | zero =>
    intro listed V b w hsz hJ hH hφ hcl hz
    have hall := unlisted_nil hz
    refine ⟨?_, fin listed V b w hJ hH hφ hall⟩
    cases hr : Region.ready .any l.toArray listed with
    | nil => rfl
    | cons i r =>
      exfalso
      have hi : i ∈ Region.ready .any l.toArray listed := by rw [hr]; simp
      unfold Region.ready at hi
      obtain ⟨h1, h2⟩ := List.mem_filter.1 hi
      have h3 : i < l.length := by simpa using h1
      have h4 := hall i h3
      have hb : i < listed.size := by omega
      simp [Array.getD, hb] at h2 h4
      rw [h4] at h2
      simp at h2
  | succ fuel ih =>
    intro listed V b w hsz hJ hH hφ hcl hz
    refine ⟨fun hr => fin listed V b w hJ hH hφ (all listed hsz hr), fun i hi => ?_⟩
    unfold Region.ready at hi
    obtain ⟨h1, h2⟩ := List.mem_filter.1 hi
    have h3 : i < l.length := by simpa using h1
    have ho : l[i]? = some l[i] := by simp
    have hoA : l.toArray[i]? = some l[i] := by simp [h3]
    have hb : i < listed.size := by omega
    simp only [hoA, Option.map_some, Option.getD_some, Bool.and_eq_true, Bool.not_eq_true', Array.all_eq_true', Bool.or_eq_true] at h2
    have hli : listed.getD i false = false := by
      have := h2.1
      simp [Array.getD, hb] at this ⊢
      exact this
    have hdeps : ∀ e ∈ (l[i]).after, Region.binds .any e = true → listed.getD e.on false = true := fun e he hbd => by
      have := h2.2 e he
      rcases this with h | h
      · rw [hbd] at h; exact absurd h (by decide)
      · exact h
    have memd : ∀ x o, l[x]? = some o → ∀ e ∈ depsOf l x, ∃ d ∈ o.after, Region.binds .any d = true ∧ d.on = e := by
      intro x o hx e he
      simp only [depsOf, hx, List.mem_map, List.mem_filter] at he
      obtain ⟨d, ⟨hd1, hd2⟩, rfl⟩ := he
      exact ⟨d, by simpa using hd1, hd2, rfl⟩
    have hclL : ∀ x, listed.getD x false = true → ∀ e ∈ depsOf l x, listed.getD e false = true := fun x hx e he => by
      have hxl : x < l.length := by
        rcases Nat.lt_or_ge x listed.size with h | h
        · omega
        · simp [Array.getD_eq_getD_getElem?, Array.getElem?_eq_none h] at hx
      have hxo : l[x]? = some l[x] := by simp
      obtain ⟨d, hd1, hd2, rfl⟩ := memd x _ hxo e he
      exact hcl x _ hxo hx d hd1 hd2
    have hancL : ∀ x, listed.getD x false = true → ∀ m ∈ ancOf l l.length x, listed.getD m false = true := fun x hx =>
      anc_listed (L := fun x => listed.getD x false = true) hclL l.length x (hclL x hx)
    have hanc : ∀ m ∈ ancOf l l.length i, listed.getD m false = true :=
      anc_listed (L := fun x => listed.getD x false = true) hclL l.length i (fun e he => by
        obtain ⟨d, hd1, hd2, rfl⟩ := memd i _ ho e he
        exact hdeps d hd1 hd2)
    obtain ⟨sp1, sp2, sp3, sp4⟩ := freeB_spec hB ho
    unfold wpOp
    rw [hoA]
    simp only []
    have hw : Region.wanted l[i] (yielded l.toArray b.tmps) = true := by simp [Region.wanted, sp1]
    rw [if_pos hw]
    left
    have hfr := hop i l[i] ho V _ w hli hancL hdeps hJ (fun e he hbd hce => hφ e.on (hdeps e he hbd) (fun j hj => by
      rcases hce with h | h
      · rw [h] at hj; cases hj
      · rw [h] at hj; cases hj; exact hli))
    have hHi := held_frameOf hB a V i (by omega)
    have hcg : ∀ x ∈ (l[i]).op.operands, b.eval x = (frameOf l a V i).eval x := by
      intro x hx
      cases x with
      | tmp t =>
        have key : b.tmps[t]? = (frameOf l a V i).tmps[t]? := by
          refine hH.agree hHi t (fun j p hj hp => ?_)
          rcases (sp4 j p t hj hp).2 hx with ⟨g1, e, ge, gb, rfl⟩ | ⟨g1, e, ge, gb, gi⟩
          · exact ⟨fun _ => g1, fun _ => hdeps e ge gb⟩
          · refine ⟨fun hl => ?_, fun hl => absurd hl (by show ¬ j < i; omega)⟩
            have := hcl j p hj hl e ge gb
            rw [gi, hli] at this
            exact absurd this (by decide)
        simp only [Act.eval]
        simp only [Array.getD_eq_getD_getElem?, key]
      | _ => rfl
    refine (hfr.congr sp3 hcg).wp fun v w' hR => ?_
    obtain ⟨r1, r2, r3⟩ := hR
    have hset : ∀ j, (listed.setIfInBounds i true).getD j false = true ↔ (listed.getD j false = true ∨ j = i) := by
      intro j
      by_cases e : j = i
      · subst e; simp [Array.getD_eq_getD_getElem?, hb]
      · have e' : i ≠ j := fun h => e h.symm
        simp [Array.getD_eq_getD_getElem?, Array.getElem?_setIfInBounds_ne e', e]
    have hfun : (fun j => (listed.setIfInBounds i true).getD j false) = fun j => listed.getD j false || j == i := by
      funext j
      exact bool_or (hset j)
    refine ih (listed.setIfInBounds i true) (fun j => if j = i then v else V j) (b.put (l[i]).dst v) w' (by simpa using hsz) (by rw [hfun]; exact r3) ?_ ?_ ?_ ?_
    · have := hH.put (V' := fun j => if j = i then v else V j) hB ho (L' := fun j => (listed.setIfInBounds i true).getD j false = true) (by rw [hli]; decide) (fun j hj => by simp [hj]) hset
      simpa using this
    · intro j hj hcj
      rcases (hset j).1 hj with h | rfl
      · have hne : j ≠ i := by rintro rfl; rw [hli] at h; exact absurd h (by decide)
        simp only [hne, if_false]
        have hnl : ∀ m, c j = some m → ¬ (listed.getD m false = true ∨ m = i) := fun m hm hx => by
          have := hcj m hm
          rw [(hset m).2 hx] at this
          cases this
        refine hS j i _ _ _ hne ?_ r2 (hφ j h (fun m hm => ?_))
        · have hy : (ancOf l l.length j).contains i = false := by
            cases hx : (ancOf l l.length j).contains i with
            | false => rfl
            | true =>
              have := hancL j h i (by simpa using hx)
              rw [hli] at this
              cases this
          unfold gone
          rw [hy, Bool.or_false]
          cases hc : c j with
          | none => rfl
          | some m =>
            simp only [Bool.or_eq_false_iff, beq_eq_false_iff_ne]
            refine ⟨fun e => hnl m hc (.inr e), ?_⟩
            cases hx : (ancOf l l.length i).contains m with
            | false => rfl
            | true => exact absurd (.inl (hanc m (by simpa using hx))) (hnl m hc)
        · cases hx : listed.getD m false with
          | false => rfl
          | true => exact absurd (.inl hx) (hnl m hm)
      · simpa using r1
    · intro j p hj hl e he hbd
      rcases (hset j).1 hl with h | rfl
      · exact (hset _).2 (.inl (hcl j p hj h e he hbd))
      · rw [ho] at hj; cases hj
        exact (hset _).2 (.inl (hdeps e he hbd))
    · have := unlisted_set h3 hb hli
      omega

/-- The region, in whatever order. -/
theorem wp_region_val {id : Nat} {w : World} (hm : P.follows .mixedOrders = true) (hB : freeB l = true) (hS : ∀ i j v w w', i ≠ j → gone l c i j = false → S j w w' → φ i v w → φ i v w') (h0 : J (fun _ => false) (fun _ => undef) { w with drawn := w.drawn + 1 })
    (hop : ∀ i o, l[i]? = some o → ∀ V D w', D i = false → (∀ x, D x = true → ∀ m ∈ ancOf l l.length x, D m = true) → (∀ e ∈ o.after, Region.binds .any e = true → D e.on = true) → J D V w' → (∀ e ∈ o.after, Region.binds .any e = true → (c e.on = none ∨ c e.on = some i) → φ e.on (V e.on) w') → Frees P o (frameOf l a V i).eval w' (fun v w'' => φ i v w'' ∧ S i w' w'' ∧ J (fun j => D j || j == i) (fun j => if j = i then v else V j) w''))
    (hend : ∀ V D w', (∀ i, i < l.length → D i = true) → J D V w' → (∀ i, i < l.length → c i = none → φ i (V i) w') → Q .normal (frameOf l a V l.length) w') : (Code.region id l.toArray true).wp P Q a w := by
  refine wp_region_any hm ?_
  have hsz : l.toArray.size = l.length := by simp
  have hfalse : ∀ i, (Array.replicate l.length false).getD i false = true → False := fun i h => by
    simp [Array.getD_eq_getD_getElem?, Array.getElem?_replicate] at h
    split at h <;> simp at h
  rw [hsz]
  have hfun : (fun j => (Array.replicate l.length false).getD j false) = fun _ => false := by
    funext j
    cases h : (Array.replicate l.length false).getD j false with
    | false => rfl
    | true => exact (hfalse j h).elim
  refine wpAny_val J S φ c hB hS hop hend l.length (Array.replicate l.length false) (fun _ => undef) a _ (by simp) (by rw [hfun]; exact h0) ⟨rfl, rfl, fun i o d _ h => (hfalse i h).elim, fun d _ => rfl⟩ (fun i h _ => (hfalse i h).elim) (fun i o _ h => (hfalse i h).elim) ?_
  have : unlisted l.length (Array.replicate l.length false) = List.range l.length := by
    unfold unlisted
    rw [List.filter_eq_self]
    intro i hi
    have : (Array.replicate l.length false).getD i false = false := by
      cases h : (Array.replicate l.length false).getD i false with
      | false => rfl
      | true => exact (hfalse i h).elim
    rw [this]; rfl
  rw [this, List.length_range]
end


end Go.Proofs.Ytjmofmdcegefgaa

namespace Go.Proofs.Ytjmofmdcegefgaa
open Go.RowKit
variable {H : Nat}

/-- How many operations are done. -/
def dn (D : Nat → Bool) : Nat := (List.range 64).countP D
theorem dn_le (D : Nat → Bool) : dn D ≤ 64 := by
  have := List.countP_le_length (p := D) (l := List.range 64)
  simpa [dn] using this
theorem countP_or (D : Nat → Bool) (i : Nat) (hD : D i = false) : ∀ (l : List Nat), l.Nodup → l.countP (fun j => D j || j == i) = l.countP D + (if i ∈ l then 1 else 0)
  | [], _ => rfl
  | a :: l, hl => by
    obtain ⟨h1, h2⟩ := List.nodup_cons.1 hl
    rw [List.countP_cons, List.countP_cons, countP_or D i hD l h2]
    by_cases e : a = i
    · subst e
      simp [hD, h1]
    · have e' : ¬ i = a := fun h => e h.symm
      simp [e, e']
      omega
theorem dn_step (D : Nat → Bool) {i : Nat} (hD : D i = false) (hi : i < 64) : dn (fun j => D j || j == i) = dn D + 1 := by
  unfold dn
  rw [countP_or D i hD _ List.nodup_range]
  simp [hi]

/-- What an operation does to memory. -/
inductive Eff where
  | keep
  | pick
  | put (B : Nat) (o : Obj)

def effS (rb : Nat) : Eff → Nat → Prop
  | .keep, _ => False
  | .pick, b => b = rb
  | .put B _, b => b = B
/-- The blocks that the region turns. -/
def effT (rb : Nat) (E : List Eff) (b : Nat) : Prop := b = rb ∨ ∃ B o, Eff.put B o ∈ E ∧ b = B
/-- The boxes behind the operations in D. -/
def effB (E : List Eff) (wo : World) (D : Nat → Bool) (w' : World) : Prop :=
  ∀ (i B : Nat) (o : Obj), E[i]? = some (.put B o) → w'.heap[B]? = if D i = true then some o else wo.heap[B]?

theorem effS_T {rb : Nat} {E : List Eff} {i : Nat} {e : Eff} (h : E[i]? = some e) {b : Nat} (hb : effS rb e b) : effT rb E b := by
  cases e with
  | keep => exact hb.elim
  | pick => exact .inl hb
  | put B o => exact .inr ⟨B, o, List.mem_of_getElem? h, hb⟩
/-- The boxes lie behind the reader, and no two stores go into one. -/
structure EffOk (H rb L : Nat) (E : List Eff) : Prop where
  lt : ∀ (i B : Nat) (o : Obj), E[i]? = some (Eff.put B o) → H ≤ B ∧ B ≠ rb ∧ B < L
  ne : ∀ (i j B : Nat) (o o' : Obj), i ≠ j → E[i]? = some (Eff.put B o) → E[j]? = some (Eff.put B o') → False

theorem effB_step {rb : Nat} {E : List Eff} {wo w' w'' : World} {D : Nat → Bool} {i : Nat} {e : Eff} (hE : E[i]? = some e) (hok : EffOk H rb wo.heap.size E) (hz : wo.heap.size ≤ w'.heap.size) (hc : Chg (effS rb e) w' w'')
    (hp : ∀ B o, e = Eff.put B o → w''.heap[B]? = some o) (h : effB E wo D w') : effB E wo (fun j => D j || j == i) w'' := by
  intro j B o hj
  by_cases e1 : j = i
  · subst e1
    rw [hE] at hj
    cases hj
    simp [hp B o rfl]
  · have hB := hok.lt j B o hj
    have hb : ¬ effS rb e B := by
      intro hb
      cases e with
      | keep => exact hb
      | pick => have hb' : B = rb := hb; omega
      | put B' o' =>
        have hb' : B = B' := hb
        subst hb'
        exact hok.ne j i B o o' e1 hj hE
    rw [hc.block B (by omega) hb, h j B o hj]
    have e2 : (j == i) = false := by simpa using e1
    simp only [e2, Bool.or_false]

section
variable {P : Program} {l : List Oper} {a : Act} {Q : Exit → Act → World → Prop} (rb m : Nat) (E : List Eff) (φs : List (SP (effT rb E)))

/-- The region, in whatever order: each operation by its word and by what it does to memory. -/
theorem wp_region_dr {id : Nat} {w : World} (hm : P.follows .mixedOrders = true) (hB : freeB l = true) (hl : l.length ≤ 64) (hEl : E.length = l.length) (hr : RdLe H w rb m) (hok : EffOk H rb w.heap.size E)
    (hop : ∀ (i : Nat) (o : Oper) (e : Eff), l[i]? = some o → E[i]? = some e → ∀ V n w', n ≤ 64 → Chg (effT rb E) w w' → RdLe H w' rb (m + n) → (∀ B ob, e = Eff.put B ob → w'.heap[B]? = w.heap[B]?) → (∀ e ∈ o.after, Region.binds .any e = true → Phi φs e.on (V e.on) w') →
      Frees P o (frameOf l a V i).eval w' (fun v w'' => Phi φs i v w'' ∧ Chg (effS rb e) w' w'' ∧ RdLe H w'' rb (m + n + 1) ∧ ∀ B ob, e = Eff.put B ob → w''.heap[B]? = some ob))
    (hend : ∀ V w', Chg (effT rb E) w w' → RdLe H w' rb (m + 64) → (∀ (i B : Nat) (ob : Obj), E[i]? = some (Eff.put B ob) → w'.heap[B]? = some ob) → (∀ i, i < l.length → Phi φs i (V i) w') → Q .normal (frameOf l a V l.length) w') : (Code.region id l.toArray true).wp P Q a w := by
  refine wp_region_set (fun D w' => Chg (effT rb E) w w' ∧ RdLe H w' rb (m + dn D) ∧ effB E w D w') (fun i w' w'' => Chg (effT rb E) w' w'') (fun i v w' => Phi φs i v w') (fun _ => none) hm hB ?_ ⟨(Chg.refl _ _).drew, (hr.kept (bdrew _)).up (by omega), fun i B o hi => rfl⟩ ?_ ?_
  · intro i j v w1 w2 _ _ hc h
    unfold Phi at *
    split
    · rename_i s hs; rw [hs] at h; exact s.st v _ _ hc h
    · trivial
  · intro i o hi V D w' hD _ ⟨h1, h2, h3⟩ hd
    have hil := (List.getElem?_eq_some_iff.1 hi).1
    have hE : E[i]? = some (E[i]'(by omega)) := by simp [hEl, hil]
    generalize E[i]'(by omega) = e at hE
    have := hop i o e hi hE V (dn D) w' (dn_le D) h1 h2 (fun B ob he => by rw [h3 i B ob (by rw [hE, he])]; simp [hD]) (fun e he hb => hd e he hb (.inl rfl))
    have fin : ∀ v w'', (Phi φs i v w'' ∧ Chg (effS rb e) w' w'' ∧ RdLe H w'' rb (m + dn D + 1) ∧ ∀ B ob, e = Eff.put B ob → w''.heap[B]? = some ob) →
        Phi φs i v w'' ∧ Chg (effT rb E) w' w'' ∧ Chg (effT rb E) w w'' ∧ RdLe H w'' rb (m + dn fun j => D j || j == i) ∧ effB E w (fun j => D j || j == i) w'' := by
      rintro v w'' ⟨g1, g2, g3, g4⟩
      have g2' : Chg (effT rb E) w' w'' := g2.mono fun k _ hk => effS_T hE hk
      refine ⟨g1, g2', h1.trans g2', ?_, effB_step hE hok h1.size g2 g4 h3⟩
      rw [dn_step D hD (by omega)]
      exact g3
    unfold Frees at this ⊢
    split at this
    · exact fin _ _ this
    · exact fin _ _ this
    · exact this.mono fun e w'' he => by
        obtain ⟨v, rfl, g⟩ := he
        exact ⟨v, rfl, fin _ _ g⟩
    · exact this
  · intro V D w' hD ⟨h1, h2, h3⟩ hφ
    refine hend V w' h1 (h2.up (by have := dn_le D; omega)) (fun i B ob hi => ?_) (fun i hi => hφ i hi rfl)
    have hil : i < E.length := (List.getElem?_eq_some_iff.1 hi).1
    rw [h3 i B ob hi, if_pos (hD i (by omega))]
end
end Go.Proofs.Ytjmofmdcegefgaa

