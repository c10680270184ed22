/-
  Texts of this claim, laid together: Tby.
-/
import Derived.Test.YtjmofmdcegefgaaQ08
namespace Go.Proofs.Ytjmofmdcegefgaa
open Go.RowKit

def CpPhi (C B0 k : Nat) (L : Nat) (sl inn u : Value) (pc : Option Addr) (row : List Int) (lo : Nat) (nxt : List (List Int)) (i : Nat) (v : Value) (w : World) : Prop :=
  match i with
  | 0 => v = .pointer (some ⟨C, 0, none⟩)
  | 1 => v = sl
  | 2 => (∃ g, v = .slice (some ⟨g, 0, none⟩) 0 0) ∧ OI w L v []
  | 3 => v = .pointer (some ⟨B0, 0, none⟩)
  | 4 => v = inn
  | 5 => v = .int .i64 k
  | 6 => v = .pointer pc
  | 7 => v = u
  | 8 => OI w L v row
  | 9 => ∃ g u8, v = .slice (some ⟨g, 0, none⟩) 1 1 ∧ L ≤ g ∧ w.cell? ⟨g, 0, none⟩ = some u8 ∧ OI w L u8 row
  | 10 => OT w lo w.heap.size v nxt
  | 11 => v = .pointer (some ⟨C, 0, none⟩)
  | _ => True
def CpS (C : Nat) (sl : Value) (j : Nat) (w w' : World) : Prop :=
  if j = 8 then True else if j = 10 then Chg (fun b => sl.ownBlock = some b) w w' else if j = 12 then Chg (fun b => b = C) w w' else Below w.heap.size w w'
def CpC (i : Nat) : Option Nat := if i = 2 then some 8 else none
def CpBad (i j : Nat) : Bool := (j == 8 && (i == 2 || i == 9 || i == 10)) || (j == 10 && (i == 2 || i == 10)) || (j == 12 && i == 2)
theorem cp_stable {C B0 k L : Nat} {sl inn u : Value} {pc : Option Addr} {row : List Int} {lo : Nat} {nxt : List (List Int)} {i j : Nat} {v : Value} {w w' : World} (hij : i ≠ j) (hb : CpBad i j = true → i = j) (hsl : ∀ b, sl.ownBlock = some b → b < L) (hC : C < lo) (hL : lo ≤ L) (hS : CpS C sl j w w') (h : CpPhi C B0 k L sl inn u pc row lo nxt i v w) : CpPhi C B0 k L sl inn u pc row lo nxt i v w' := by
  have hb' : CpBad i j = false := by
    cases hv : CpBad i j with
    | false => rfl
    | true => exact absurd (hb hv) hij
  clear hb
  have hcell : ∀ {S : Nat → Prop} (g : Nat) (u8 : Value), Chg S w w' → ¬ S g → w.cell? ⟨g, 0, none⟩ = some u8 → w'.cell? ⟨g, 0, none⟩ = some u8 := fun g u8 hc hs hu => by
    rw [hc.cell (p := ⟨g, 0, none⟩) (World.block_lt_of_cell? w _ hu) hs]; exact hu
  unfold CpS at hS
  split at hS
  · rename_i hj
    subst hj
    unfold CpPhi at *
    split at h
    all_goals first
      | exact h
      | exact absurd rfl hij
      | (simp [CpBad] at hb'; done)
  · split at hS
    · rename_i hj
      subst hj
      unfold CpPhi at *
      split at h
      all_goals first
        | exact h
        | (simp [CpBad] at hb'; done)
        | exact h.chg hS (fun b hb he hs => by have := hsl b hs; omega)
        | (obtain ⟨g, u8, h1, h2, h3, h4⟩ := h
           exact ⟨g, u8, h1, h2, hcell g u8 hS (fun hs => by have := hsl g hs; omega) h3, h4.chg hS (fun b hb he hs => by have := hsl b hs; omega)⟩)
    · split at hS
      · rename_i hj
        subst hj
        unfold CpPhi at *
        split at h
        all_goals first
          | exact h
          | (simp [CpBad] at hb'; done)
          | exact h.chg hS (fun b hb he hs => by omega)
          | exact (h.chg hS (fun b hb he hs => by omega)).mono hS.size
          | (obtain ⟨g, u8, h1, h2, h3, h4⟩ := h
             exact ⟨g, u8, h1, h2, hcell g u8 hS (fun hs => by omega) h3, h4.chg hS (fun b hb he hs => by omega)⟩)
      · unfold CpPhi at *
        split at h
        all_goals first
          | exact h
          | exact h.below hS
          | exact (h.below hS).mono hS.size
          | exact ⟨h.1, h.2.below hS⟩
          | (obtain ⟨g, u8, h1, h2, h3, h4⟩ := h
             exact ⟨g, u8, h1, h2, cell_later hS h3, h4.below hS⟩)

def CpJ (C lo L : Nat) (wo : World) (sl : Value) (z z' : List (List Int)) (D : Nat → Bool) (w' : World) : Prop :=
  Chg (fun b => sl.ownBlock = some b ∨ b = C) wo w' ∧ (D 12 = false → w'.heap[C]? = some (.cells #[sl] 26)) ∧ (D 10 = false → OT w' lo L sl z) ∧ (D 12 = true → ∃ v, w'.heap[C]? = some (.cells #[v] 26) ∧ OT w' lo w'.heap.size v z')
theorem cpJ_step {C lo L : Nat} {wo : World} {sl : Value} {z z' : List (List Int)} {D : Nat → Bool} {w' w'' : World} {i : Nat} (h12 : i ≠ 12) (h10 : i ≠ 10) (hD : D 12 = false) (hCL : C < L) (hLo : L = wo.heap.size) (hc : Chg (fun b => L ≤ b) w' w'') (h : CpJ C lo L wo sl z z' D w') : CpJ C lo L wo sl z z' (fun j => D j || j == i) w'' := by
  obtain ⟨h1, h2, h3, h4⟩ := h
  have e12 : (12 == i) = false := by simpa using fun h => h12 h.symm
  have e10 : (10 == i) = false := by simpa using fun h => h10 h.symm
  refine ⟨⟨hc.os.trans h1.os, hc.tape.trans h1.tape, hc.output.trans h1.output, Nat.le_trans h1.size hc.size, fun b hb hs => (hc.block b (Nat.lt_of_lt_of_le hb h1.size) (by omega)).trans (h1.block b hb hs)⟩, fun _ => box_chg (h2 hD) hc (by omega), fun hd => ?_, fun hd => ?_⟩
  · simp only [e10, Bool.or_false] at hd
    exact (h3 hd).chg hc (fun b _ hb hs => by omega)
  · simp only [e12, Bool.or_false] at hd
    rw [hD] at hd; cases hd

/-- 'append(out, row)' of an operation of such a region. -/
theorem frees_row {w : World} {o : Oper} {ρ : Operand → Value} {R : Value → World → Prop} (s x : Operand) (ho : o.op = .call { callee := .builtin .append, args := #[s, x], argTypes := #[24, 24] })
    (lo L : Nat) (sl : Value) (xss : List (List Int)) (u8 : Value) (x8 : List Int) (g : Nat) (hO : OT w lo L sl xss) (h8 : OI w L u8 x8) (hL : L ≤ w.heap.size) (hlo : lo ≤ L) (hs : ρ s = sl) (hx : ρ x = .slice (some ⟨g, 0, none⟩) 1 1) (hg : w.cell? ⟨g, 0, none⟩ = some u8) (hn : xss.length ≤ 1000000)
    (h : ∀ v' w', OT w' lo w'.heap.size v' (xss ++ [x8]) → Chg (fun b => sl.ownBlock = some b) w w' → R v' w') : Frees Try.prog o ρ w R := by
  obtain ⟨i0, hi0, hz0, hz1, hz2⟩ := info_parts Try.infoS
  obtain ⟨vs, k1, k2, k3⟩ := hO
  obtain ⟨a8, c8, b8, f8, rfl, -⟩ := h8.ri.open
  refine frees_append s x 24 ho lo 31 i0 (.slice none 0 0) 1 24 Try.underlying24 hi0 hz0 hz1 hz2 rfl (by decide) sl xss.length vs hs k1 ⟨g, 0, none⟩ 1 1 [.slice a8 x8.length c8] hx rfl (fun j u hj => ?_) (fun u hu => by simp at hu; subst hu; rfl) (by simp [maxLen]; omega) (by omega) (by omega) fun v' w' h1 h2 _ => ?_
  · have hj0 : j = 0 := by
      have := (List.getElem?_eq_some_iff.1 hj).1
      simp at this; exact this
    subst hj0
    simp at hj
    subst hj
    simpa [Addr.add] using hg
  · have hc : Chg (fun b => sl.ownBlock = some b) w w' := (Chg.refl _ w).grown h2 (fun b hb => .inr hb)
    refine h v' w' ⟨vs ++ [.slice a8 x8.length c8], by simpa using h1, fun b hb => (h1.lt b hb).2, ?_⟩ hc
    have hin : Inn IntRow w' lo L vs xss := k3.chg2 hc fun k u' b hu' hb1 hb2 => by
      have hk : k < xss.length := by rw [← k3.1]; exact (List.getElem?_eq_some_iff.1 hu').1
      have ho' : OI w lo u' xss[k] := (k3.2.1 k hk u' hu').1
      exact own_apart ho'.1 k1 (by decide) b hb1 hb2
    have h8' : OI w' L (.slice a8 x8.length c8) x8 := h8.chg hc fun b hb _ hs => by have := k2 b hs; omega
    exact hin.snoc (R := IntRow) (u := .slice a8 x8.length c8) (x := x8) (h8'.wide hlo) (fun b hb => h8'.lt b hb) (by have := hc.size; omega)

def CpR (w : World) (t : List (List Int)) (inn : Value) (k : Nat) (wr : World) : Prop :=
  ∃ sl, OT wr (w.heap.size + 1 + 1 + 1) wr.heap.size sl (t.take k) ∧ Below w.heap.size w wr ∧ wr.heap[w.heap.size + 1 + 1]? = some (.cells #[sl] 26) ∧ wr.heap[w.heap.size + 1]? = some (.cells #[.slice none 0 0] 26) ∧ wr.heap[w.heap.size]? = some (.cells #[inn] 26)
theorem cp_start (w : World) (t : List (List Int)) (inn : Value) : CpR w t inn 0 (((w.alloc (.cells #[inn] 26)).alloc (.cells #[.slice none 0 0] 26)).alloc (.cells #[.slice none 0 0] 26)) := by
  obtain ⟨x0, x1⟩ := two_new (w := w) (.cells #[inn] 26) (.cells #[.slice none 0 0] 26) (Below.refl _ _)
  have c := balloc ((w.alloc (.cells #[inn] 26)).alloc (.cells #[.slice none 0 0] 26)) (.cells #[.slice none 0 0] 26)
  refine ⟨.slice none 0 0, ot_nil _ _ _, bup2 (two_below w _ _) c, ?_, box_keep x1 c, box_keep x0 c⟩
  have := heap_alloc_new ((w.alloc (.cells #[inn] 26)).alloc (.cells #[.slice none 0 0] 26)) (.cells #[.slice none 0 0] 26)
  simpa using this

theorem cp_gone {l : List Oper} (hk : ((List.range 13).all fun i => (List.range 13).all fun j => !CpBad i j || gone l CpC i j || i == j) = true) {i j : Nat} (hb : CpBad i j = true) (hg : gone l CpC i j = false) : i = j := by
  have hi : i < 13 ∧ j < 13 := by
    unfold CpBad at hb
    simp only [Bool.or_eq_true, Bool.and_eq_true, beq_iff_eq] at hb
    omega
  have h1 := List.all_eq_true.1 hk i (List.mem_range.2 hi.1)
  have h2 := List.all_eq_true.1 h1 j (List.mem_range.2 hi.2)
  rw [hb, hg] at h2
  simpa using h2

theorem box_set {w : World} {B : Nat} {u : Value} {t : TypeId} (h : w.heap[B]? = some (.cells #[u] t (0, 0))) (v : Value) : (w.setCell ⟨B, 0, none⟩ v).heap[B]? = some (.cells #[v] t (0, 0)) := by
  rw [setCell_eq_setRow _ _ _ _ _ _ _ h, setRow_heap _ _ _ _ _ _ h]
  rfl

set_option maxHeartbeats 4000000 in
theorem copy_any (v : Value) (t : List (List Int)) (lo hi : Nat) (w : World) (h : RT w lo hi v t) (hv : tabVal t = true) :
    Calls Try.prog 82 #[.agg #[v]] w (NewT t w) := by
  obtain ⟨a, cap, b, off, rfl, q1, q2, q3, q4⟩ := h.open
  have h8 := tab_len hv
  obtain rfl := q3 (by omega)
  have Q4 := Lib.hid q4
  have HV := Lib.hid hv
  have H8 := Lib.hid h8
  have hn9 : t.length ≤ 1000 := by omega
  have HS := Lib.hid (cp_start w t (.slice (some ⟨b, off, none⟩) t.length cap))
  clear h q4 q3 hv h8
  go_enter Try.func82, Try.ntmps82
  go_wp2_with fail
  go_loopw [4] (fun i wr => ∃ k : Nat, k ≤ t.length ∧ i = .int .i64 k ∧ CpR w t (.slice (some ⟨b, off, none⟩) t.length cap) k wr) (fun i _ => t.length - (intOf i).toNat)
  case atStart => exact ⟨0, Nat.zero_le _, rfl, HS.out⟩
  case round =>
    obtain ⟨k, hk, rfl, hR⟩ := hrel
    obtain ⟨wo, rfl⟩ : ∃ wo : World, wo = wr := ⟨_, rfl⟩
    clear HS
    obtain ⟨sl, r1, r2, r3, r4, r5⟩ := hR
    have HR := Lib.hid (And.intro r1 (And.intro r2 (And.intro r3 (And.intro r4 r5))))
    obtain ⟨hb0, -⟩ := one_at r5
    have zo := (Array.getElem?_eq_some_iff.1 r3).1
    clear r1 r2 r3 r4 r5
    by_cases hlt : k < t.length
    · obtain ⟨u, hcu, hu⟩ := Q4.out k hlt
      have h6 := tab_row HV.out hlt
      obtain ⟨a2, cap2, b2, off2, rfl, s1, s2, s3, s4⟩ := hu.open
      obtain rfl := s3 (by omega)
      have S4 := Lib.hid s4
      have HW := Lib.hid hu.2
      have HCU := Lib.hid hcu
      have H6 := Lib.hid h6
      have h9 : t[k].length ≤ 9 := by omega
      have HSL : Hid (∀ b, sl.ownBlock = some b → w.heap.size + 1 + 1 + 1 ≤ b ∧ b < wo.heap.size) := by
        obtain ⟨vs, k1, k2, -⟩ := HR.out.1
        exact fun b hb => ⟨(k1.lt b hb).1, k2 b hb⟩
      clear hcu hu h6 s3 s4
      go_wp2_with fail
      refine wp_region_set (CpJ (w.heap.size + 1 + 1) (w.heap.size + 1 + 1 + 1) wo.heap.size wo sl (t.take k) (t.take (k + 1))) (CpS (w.heap.size + 1 + 1) sl) (CpPhi (w.heap.size + 1 + 1) w.heap.size k wo.heap.size sl (.slice (some ⟨b, off, none⟩) t.length cap) (.slice (some ⟨b2, off2, none⟩) t[k].length cap2) (some ⟨b, off + k, none⟩) t[k] (w.heap.size + 1 + 1 + 1) (t.take (k + 1))) CpC (by kernel_rfl) (by kernel_rfl) ?hS ?h0 ?hop ?hend
      case hS =>
        intro i j v w w' hij hg hS h
        exact cp_stable hij (fun hb => cp_gone (by kernel_rfl) hb hg) (fun b hb => (HSL.out b hb).2) (by omega) (by omega) hS h
      case h0 => exact ⟨(Chg.refl _ _).drew, fun _ => HR.out.2.2.1, fun _ => HR.out.1.below (bdrew _), fun h => by cases h⟩
      case hop =>
        intro i o hi V D w' hD hcl hJ hd
        have hi' : i = 0 ∨ i = 1 ∨ i = 2 ∨ i = 3 ∨ i = 4 ∨ i = 5 ∨ i = 6 ∨ i = 7 ∨ i = 8 ∨ i = 9 ∨ i = 10 ∨ i = 11 ∨ i = 12 := by
          have := (List.getElem?_eq_some_iff.1 hi).1
          simp at this
          omega
        have hz := hJ.1.size
        have hB3 : Below w.heap.size w w' := HR.out.2.1.trans (hJ.1.below HR.out.2.1.size (fun i hi he => by rcases he with he | he; have := HSL.out i he; omega; omega))
        rcases hi' with rfl | rfl | rfl | rfl | rfl | rfl | rfl | rfl | rfl | rfl | rfl | rfl | rfl
        all_goals
          simp at hi
          subst hi
          simp [Region.binds, CpPhi, CpC] at hd
        all_goals
          have hD12 : D 12 = false := by
            first
              | exact hD
              | (cases hx : D 12 with
                 | false => rfl
                 | true => exact absurd (hcl 12 hx _ (List.elem_iff.1 (by kernel_rfl))) (by rw [hD]; decide))
        all_goals clear hcl
        · simp [Frees, frameOf, go_sem]
          exact ⟨rfl, Below.refl _ _, cpJ_step (by decide) (by decide) hD12 (by omega) rfl (Chg.refl _ _) hJ⟩
        · obtain ⟨d1, -⟩ := one_at (hJ.2.1 hD12)
          simp [Frees, frameOf, go_sem, hd, d1]
          exact ⟨rfl, Below.refl _ _, cpJ_step (by decide) (by decide) hD12 (by omega) rfl (Chg.refl _ _) hJ⟩
        · simp [Frees, frameOf, go_sem]
          exact ⟨⟨⟨_, rfl⟩, oi_empty _ _ _ hz rfl⟩, balloc _ _, cpJ_step (by decide) (by decide) hD12 (by omega) rfl (below_chg (balloc _ _) _) hJ⟩
        · simp [Frees, frameOf, go_sem]
          exact ⟨rfl, Below.refl _ _, cpJ_step (by decide) (by decide) hD12 (by omega) rfl (Chg.refl _ _) hJ⟩
        · have x0 := box_chg HR.out.2.2.2.2 hJ.1 (fun he => by rcases he with he | he; have := HSL.out _ he; omega; omega)
          obtain ⟨d1, -⟩ := one_at x0
          simp [Frees, frameOf, go_sem, hd, d1]
          exact ⟨rfl, Below.refl _ _, cpJ_step (by decide) (by decide) hD12 (by omega) rfl (Chg.refl _ _) hJ⟩
        · simp [Frees, frameOf, go_sem]
          exact ⟨rfl, Below.refl _ _, cpJ_step (by decide) (by decide) hD12 (by omega) rfl (Chg.refl _ _) hJ⟩
        · obtain ⟨e1, e2⟩ := hd
          simp [Frees, frameOf, go_sem, e1, e2, hlt]
          exact ⟨rfl, Below.refl _ _, cpJ_step (by decide) (by decide) hD12 (by omega) rfl (Chg.refl _ _) hJ⟩
        · have d1 := cell_later hB3 HCU.out
          simp [Frees, frameOf, go_sem, hd, d1]
          exact ⟨rfl, Below.refl _ _, cpJ_step (by decide) (by decide) hD12 (by omega) rfl (Chg.refl _ _) hJ⟩
        · obtain ⟨⟨⟨g, e2⟩, o2⟩, e7⟩ := hd
          obtain ⟨i0, hi0, hz0, hz1, hz2⟩ := info_parts Try.infoInt
          refine frees_append (.tmp 15) (.tmp 20) 31 rfl wo.heap.size 3 i0 (.int .i64 0) 1 8 Try.underlying31 hi0 hz0 hz1 hz2 rfl (by decide) (V 2) 0 [] (by simp [frameOf, Act.put, Act.eval]) o2.1 ⟨b2, off2, none⟩ t[k].length cap2 (t[k].map (Value.int .i64)) (by simp [frameOf, Act.put, Act.eval, e7]) (by simp) (fun j u hj => ?_) (fun u hu => ?_) (by simp [maxLen]; omega) (by omega) hz fun v' w'' h1 h2 _ => ?_
          · obtain ⟨hjl, rfl⟩ := List.getElem?_eq_some_iff.1 hj
            rw [List.getElem_map, show (⟨b2, off2, none⟩ : Addr).add j = ⟨b2, off2 + j, none⟩ from by cases j <;> simp [Addr.add]]
            exact cell_later hB3 (S4.out j (by simpa using hjl))
          · obtain ⟨x, -, rfl⟩ := List.mem_map.1 hu
            rfl
          · exact ⟨⟨by simpa using h1, HW.out⟩, trivial, cpJ_step (by decide) (by decide) hD12 (by omega) rfl ((Chg.refl _ w').grown h2 (fun b hb => .inr (o2.1.lt b hb).1)) hJ⟩
        · obtain ⟨a8, c8, b8, f8, e8, -⟩ := hd.ri.open
          rw [e8] at hd
          simp [Frees, frameOf, go_sem, e8]
          exact ⟨⟨_, _, rfl, hz, (one_at (heap_alloc_new w' _)).1, hd.below (balloc _ _)⟩, balloc _ _, cpJ_step (by decide) (by decide) hD12 (by omega) rfl (below_chg (balloc _ _) _) hJ⟩
        · obtain ⟨e1, ⟨g, e9, hg, u8, hu8, o8⟩, -⟩ := hd
          refine frees_row (.tmp 14) (.tmp 22) rfl (w.heap.size + 1 + 1 + 1) wo.heap.size sl (t.take k) u8 t[k] g (hJ.2.2.1 hD) o8 hz (by omega) (by simp [frameOf, Act.put, Act.eval, e1]) (by simp [frameOf, Act.put, Act.eval, e9]) hu8 (by simp; omega) fun v' w'' ho hc => ?_
          rw [← List.take_succ_eq_append_getElem hlt] at ho
          refine ⟨ho, hc, hJ.1.trans (hc.mono fun b _ hb => .inl hb), fun _ => box_chg (hJ.2.1 hD12) hc (fun he => by have := HSL.out _ he; omega), fun h => by simp at h, fun h => ?_⟩
          simp [hD12] at h
        · simp [Frees, frameOf, go_sem]
          exact ⟨rfl, Below.refl _ _, cpJ_step (by decide) (by decide) hD12 (by omega) rfl (Chg.refl _ _) hJ⟩
        · obtain ⟨e11, o10, -⟩ := hd
          obtain ⟨a10, c10, b10, f10, e10, -⟩ := o10.rt.open
          obtain ⟨d1, d2⟩ := one_at (hJ.2.1 hD)
          have hlk : (t.take (k + 1)).length = k + 1 := by rw [List.length_take]; omega
          rw [hlk] at e10
          rw [e10] at o10
          have hc : Chg (fun b => b = w.heap.size + 1 + 1) w' (w'.setCell ⟨w.heap.size + 1 + 1, 0, none⟩ (.slice a10 (k + 1) c10)) := Chg.setCell (S := fun b => b = w.heap.size + 1 + 1) (Chg.refl _ w') (p := ⟨w.heap.size + 1 + 1, 0, none⟩) (.inr rfl) _
          have hJ3 : CpJ (w.heap.size + 1 + 1) (w.heap.size + 1 + 1 + 1) wo.heap.size wo sl (t.take k) (t.take (k + 1)) (fun j => D j || j == 12) (w'.setCell ⟨w.heap.size + 1 + 1, 0, none⟩ (.slice a10 (k + 1) c10)) := by
            refine ⟨hJ.1.trans (hc.mono fun b _ hb => .inr hb), fun h => by simp at h, fun h => ?_, fun _ => ⟨_, box_set (hJ.2.1 hD) _, (o10.chg hc (fun b hb _ hs => by omega)).mono hc.size⟩⟩
            have h10 : D 10 = false := by simpa using h
            exact (hJ.2.2.1 h10).chg hc (fun b hb _ hs => by omega)
          clear hJ
          simp [Frees, frameOf, go_sem, e11, e10, d1, d2]
          exact ⟨trivial, hc, hJ3⟩
      case hend =>
        intro V D w3 hD hJ hφ
        obtain ⟨v3, xC, hO⟩ := hJ.2.2.2 (hD 12 (by decide))
        have xR := box_chg HR.out.2.2.2.1 hJ.1 (fun he => by rcases he with he | he; have := HSL.out _ he; omega; omega)
        have x0 := box_chg HR.out.2.2.2.2 hJ.1 (fun he => by rcases he with he | he; have := HSL.out _ he; omega; omega)
        have hB3 : Below w.heap.size w w3 := HR.out.2.1.trans (hJ.1.below HR.out.2.1.size (fun i hi he => by rcases he with he | he; have := HSL.out i he; omega; omega))
        have HF : Hid (CpR w t (.slice (some ⟨b, off, none⟩) t.length cap) (k + 1) w3) := Lib.hid ⟨v3, hO, hB3, xC, xR, x0⟩
        clear hφ hJ hO xC xR x0 hB3
        simp [frameOf, Act.put]
        go_wp2_with fail
        go_roundw
        case rel => exact ⟨k + 1, by omega, by go_num, HF.out⟩
        case measure => simp [intOf]; omega
    · obtain ⟨a3, cap3, b3, off3, rfl, -⟩ := HR.out.1.rt.open
      have e : t.take k = t := List.take_of_length_le (by omega)
      replace HR := HR.out
      rw [e] at HR
      replace HR := Lib.hid HR
      obtain ⟨d1, -⟩ := one_at HR.out.2.2.1
      obtain ⟨d2, d3⟩ := one_at HR.out.2.2.2.1
      go_wp2_with fail
      have hc : Chg (fun b => b = w.heap.size + 1) wo (wo.setCell ⟨w.heap.size + 1, 0, none⟩ (.slice a3 t.length cap3)) := Chg.setCell (S := fun b => b = w.heap.size + 1) (Chg.refl _ wo) (p := ⟨w.heap.size + 1, 0, none⟩) (.inr rfl) _
      have hO := HR.out.1.chg hc (fun b hb _ hs => by omega)
      refine bodyPost_ret (v := .agg #[.slice a3 t.length cap3]) (by simp [results, Try.results82, go_sem, d2]) rfl ⟨_, rfl, (hO.wide (by omega)).mono hc.size, HR.out.2.1.trans (hc.below HR.out.2.1.size (fun i hi he => by omega))⟩

end Go.Proofs.Ytjmofmdcegefgaa

