/-
  The walk of impl.cloneTable.
-/
import Derived.Test.YthpcgdkhipcieaaUst
import Derived.Test.YthpcgdkhipcieaaTbw
import Derived.Test.YthpcgdkhipcieaaTbc
import Derived.Laws.CopyOwn
namespace Go.Proofs.Ythpcgdkhipcieaa
open Go.RowKit

/-- 'make' of an operation of a region that draws its order. -/
theorem frees_mk {w : World} {o : Oper} {ρ : Operand → Value} {R : Value → World → Prop} (l c : Operand) (hop : o.op = Op.makeSlice 44 l c) (n : Nat) (hl : ρ l = .int .i64 n) (hc : ρ c = .int .i64 n) (hn : n ≤ 1000000000000)
    (h : ∀ w', OI w' w.heap.size (.slice (some ⟨w.heap.size, 0, none⟩) n n) (List.replicate n 0) → Below w.heap.size w w' → R (.slice (some ⟨w.heap.size, 0, none⟩) n n) w') : Frees Try.prog o ρ w R := by
  obtain ⟨i0, hi0, hz0, hz1, hz2⟩ := info_parts Try.infoInt
  obtain ⟨w', hrun, r1, r2⟩ := run_make_full (P := Try.prog) w w.heap.size 44 3 i0 (.int .i64 0) 1 Try.underlying44 hi0 hz0 hz1 .i64 .i64 n (by rw [hz2]; omega) (by simp [maxLen]; omega) (Nat.le_refl _)
  unfold Frees
  simp [execOp, hop, hl, hc, hrun, Result.andThen]
  have e : (madeCells (Value.int IntKind.i64 0).cells (n * 1)).toList = (List.replicate n (0 : Int)).map (Value.int .i64) := by
    have := toList_madeCells_one (.int .i64 0) n
    simpa [Value.cells] using this
  rw [e] at r1
  exact h w' ⟨by simpa using r1, fun x hx => by simp at hx; rw [hx.2]; unfold I64; omega⟩ ((Below.refl _ _).grown r2 (Nat.le_refl _) (by simp))

/-- 'copy' of a list into a row of the table. -/
theorem cp_row {w : World} {ops : Array Oper} {rest : List Oper} {o : Oper} {a : Act} {Q : Exit → Act → World → Prop} (hgd : o.guard = none) (d s : Operand)
    (ho : o.op = .call { callee := .builtin .copy, args := #[d, s], argTypes := #[44, 44] }) (lo hi : Nat) (v : Value) (xss : List (List Int)) (f : Nat) (hf : f < xss.length) (hown : OT w lo hi v xss)
    (u : Value) (hu : ∀ A cap, v = .slice (some ⟨A, 0, none⟩) xss.length cap → w.cell? ⟨A, f, none⟩ = some u) (hd : a.eval d = u) (u2 : Value) (hs : a.eval s = u2) (xs : List Int) (lo2 hi2 : Nat) (hr : RI w lo2 hi2 u2 xs) (hlen : xs.length = xss[f].length) (hpos : 0 < xs.length)
    (h : ∀ w', OT w' lo hi v (xss.set f xs) → Chg (fun b => lo ≤ b ∧ b < hi ∧ ∃ cur fr, w.heap[b]? = some (.cells cur 3 fr)) w w' → wpList Try.prog ops Q rest (a.put o.dst (goInt xs.length)) w') : wpList Try.prog ops Q (o :: rest) a w := by
  obtain ⟨A, cap, u', hv, -, hcu, ho2, hb, hput⟩ := hown.inner f hf
  have e := hu A cap hv
  rw [hcu] at e
  obtain rfl := Option.some.inj e
  rcases ho2.1.2 with ⟨-, h0⟩ | ⟨g, cap', cur, rfl, hbg, hg, hn, hm, hsz, htk⟩
  · omega
  obtain ⟨a2, cap2, b2, off2, rfl, s1, s2, s3, s4⟩ := hr.open
  obtain rfl := s3 hpos
  have hcl : cur.toList.length = cap' := by rw [Array.length_toList, hsz]; omega
  have hml : (xs.map (Value.int .i64)).length = xs.length := by simp
  have hc : Chg (fun b => (Value.slice (some ⟨g, 0, none⟩) xss[f].length cap').ownBlock = some b) w (w.setRow g (cur.toList.take 0 ++ (xs.map (Value.int .i64) ++ cur.toList.drop (0 + (xs.map (Value.int .i64)).length))).toArray) :=
    ⟨rfl, rfl, rfl, by simp, fun k hk hs => setRow_other w g k _ (by rintro rfl; exact hs rfl)⟩
  refine wpList_copy_own hgd d s 44 44 ho 3 Try.underlying44 (by
      obtain ⟨i0, hi0, hz0, hz1, hz2⟩ := info_parts Try.infoInt
      rw [hi0]; simp [hz1]) g 0 xss[f].length cap' ⟨b2, off2, none⟩ xs.length cap2 hd hs cur 3 hg (xs.map (Value.int .i64)) (by rw [hml, hlen]; exact (Nat.min_self _).symm) (fun j u hj => ?_) (by rw [hml, Nat.zero_add, hsz]; omega) (fun u hu => ?_) ?_
  · obtain ⟨hjl, rfl⟩ := List.getElem?_eq_some_iff.1 hj
    rw [List.getElem_map]
    have := s4 j (by simpa using hjl)
    rw [show (⟨b2, off2, none⟩ : Addr).add j = ⟨b2, off2 + j, none⟩ from by cases j <;> simp [Addr.add]]
    exact this
  · obtain ⟨x, -, rfl⟩ := List.mem_map.1 hu
    rfl
  · have e2 : goInt (xs.map (Value.int .i64)).length = goInt xs.length := by rw [hml]
    rw [e2]
    refine h _ (hput _ xs hc ⟨⟨by simp, .inr ⟨g, cap', _, by rw [hlen], hbg, setRow_heap w g cur _ _ _ hg, by omega, hm, ?_, ?_⟩⟩, hr.2⟩) (hc.mono fun k hk hb2 => ?_)
    · simp [hml]; omega
    · simp
    · have e3 : g = k := Option.some.inj hb2
      subst e3
      exact ⟨(hb g rfl).1, (hb g rfl).2, cur, (0, 0), hg⟩

def CnPhi (C A k n m : Nat) (L : Nat) (u : Value) (i : Nat) (v : Value) (w : World) : Prop :=
  match i with
  | 0 => v = .pointer (some ⟨C, 0, none⟩)
  | 1 => v = .slice (some ⟨A, 0, none⟩) n n
  | 2 => v = .int .i64 k
  | 3 => v = u
  | 4 => v = .int .i64 m
  | 5 => ∃ g, v = .slice (some ⟨g, 0, none⟩) m m ∧ OI w L v (List.replicate m 0)
  | 6 => v = .pointer (some ⟨A, k, none⟩)
  | _ => True
def CnS (A : Nat) (j : Nat) (w w' : World) : Prop := if j = 7 then Chg (fun b => b = A) w w' else Below w.heap.size w w'
theorem cn_stable {C A k n m L : Nat} {u : Value} (hA : A < L) {i j : Nat} {v : Value} {w w' : World} (hS : CnS A j w w') (h : CnPhi C A k n m L u i v w) : CnPhi C A k n m L u i v w' := by
  have hc : Chg (fun b => b = A) w w' := by
    unfold CnS at hS
    split at hS
    · exact hS
    · exact below_chg hS _
  unfold CnPhi at *
  split at h
  all_goals first
    | exact h
    | (obtain ⟨g, hg, ho⟩ := h; exact ⟨g, hg, ho.chg hc fun b hb _ e => by omega⟩)

def CnJ (A lo L : Nat) (wr : World) (v : Value) (z z' : List (List Int)) (D : Nat → Bool) (w' : World) : Prop :=
  Chg (fun b => b = A) wr w' ∧ (D 7 = false → OT w' lo L v z) ∧ (D 7 = true → OT w' lo w'.heap.size v z')
theorem cnJ_step {A lo L : Nat} {wr : World} {v : Value} {z z' : List (List Int)} {D : Nat → Bool} {w' w'' : World} {i : Nat} (hi : i ≠ 7) (hB : Below w'.heap.size w' w'') (h : CnJ A lo L wr v z z' D w') : CnJ A lo L wr v z z' (fun j => D j || j == i) w'' := by
  obtain ⟨h1, h2, h3⟩ := h
  have e : (7 == i) = false := by simpa using fun h => hi h.symm
  refine ⟨h1.trans (below_chg hB _), fun hd => ?_, fun hd => ?_⟩
  · simp only [e, Bool.or_false] at hd
    exact (h2 hd).below hB
  · simp only [e, Bool.or_false] at hd
    exact ((h3 hd).below hB).mono hB.size
def CnR (w w1 : World) (t : List (List Int)) (k : Nat) (wr : World) : Prop :=
  OT wr (w.heap.size + 1 + 1) wr.heap.size (.slice (some ⟨w.heap.size + 1 + 1, 0, none⟩) t.length t.length) (pad t k) ∧ Below w.heap.size w wr ∧
    wr.heap[w1.heap.size]? = some (.cells #[.slice (some ⟨w.heap.size + 1 + 1, 0, none⟩) t.length t.length] 27) ∧ wr.heap[w.heap.size + 1]? = some (.cells #[.slice none 0 0] 27)

theorem cn_start {w w1 : World} {t : List (List Int)} {v0 : Value} (hown : OT w1 ((w.alloc (.cells #[v0] 27)).alloc (.cells #[.slice none 0 0] 27)).heap.size w1.heap.size (.slice (some ⟨((w.alloc (.cells #[v0] 27)).alloc (.cells #[.slice none 0 0] 27)).heap.size, 0, none⟩) t.length t.length) (List.replicate t.length []))
    (hb1 : Below ((w.alloc (.cells #[v0] 27)).alloc (.cells #[.slice none 0 0] 27)).heap.size ((w.alloc (.cells #[v0] 27)).alloc (.cells #[.slice none 0 0] 27)) w1) :
    CnR w w1 t 0 (w1.alloc (.cells #[.slice (some ⟨w.heap.size + 1 + 1, 0, none⟩) t.length t.length] 27)) ∧ w.heap.size + 1 + 1 < w1.heap.size ∧
      (w1.alloc (.cells #[.slice (some ⟨w.heap.size + 1 + 1, 0, none⟩) t.length t.length] 27)).heap[w.heap.size]? = some (.cells #[v0] 27) := by
  obtain ⟨x0, x1⟩ := two_new _ _ hb1
  have c := balloc w1 (.cells #[.slice (some ⟨w.heap.size + 1 + 1, 0, none⟩) t.length t.length] 27)
  have e : ((w.alloc (.cells #[v0] 27)).alloc (.cells #[.slice none 0 0] 27)).heap.size = w.heap.size + 1 + 1 := by simp
  have hbb := bup2 (two_below w _ _) (bup2 hb1 c)
  rw [e] at hown
  have z1 : w.heap.size + 1 + 1 < w1.heap.size := by
    obtain ⟨vs, h1, h2, -⟩ := hown
    exact h2 _ rfl
  exact ⟨⟨by rw [pad_zero]; exact (hown.below c).mono c.size, hbb, heap_alloc_new w1 _, box_keep x1 c⟩, z1, box_keep x0 c⟩

set_option maxHeartbeats 4000000 in
theorem clone_any (v : Value) (t : List (List Int)) (lo hi : Nat) (w : World) (h : RT w lo hi v t) (hv : tabVal t = true) :
    Calls Try.prog 57 #[.agg #[v]] w (NewT t w) := by
  obtain ⟨a, cap, b, off, rfl, q1, q2, q3, q4⟩ := h.open
  have h8 := tab_len hv
  obtain rfl := q3 (by omega)
  have Q4 := Lib.hid q4
  have HV := Lib.hid hv
  have H8 := Lib.hid h8
  have hn9 : t.length ≤ 1000 := by omega
  clear h q4 q3 hv h8
  go_enter Try.func57, Try.ntmps57
  go_wp2_with (refine mk_rows rfl _ _ rfl t.length rfl rfl (by omega) ?_; intro w1 hown hb1; go_loud (have HS := Lib.hid (cn_start hown hb1)); go_loud (have hbx := (one_at HS.out.2.2).1); have z1 := HS.out.2.1; clear hown hb1)
  go_wp2_with fail
  go_loopw [4, 5, 14] (fun _ _ i wr => ∃ k : Nat, k ≤ t.length ∧ i = .int .i64 k ∧ CnR w w1 t k wr) (fun _ _ i _ => t.length - (intOf i).toNat)
  case atStart => exact ⟨0, Nat.zero_le _, rfl, HS.out.1⟩
  case round =>
    obtain ⟨k, hk, rfl, hR⟩ := hrel
    obtain ⟨wo, rfl⟩ : ∃ wo : World, wo = wr := ⟨_, rfl⟩
    clear HS hbx
    have HR := Lib.hid hR
    clear hR
    by_cases hlt : k < t.length
    · obtain ⟨u, hcu, hu⟩ := Q4.out k hlt
      have h6 := tab_row HV.out hlt
      obtain ⟨a2, cap2, b2, off2, rfl, s1, s2, s3, s4⟩ := hu.open
      have hc := cell_later HR.out.2.1 hcu
      have HU := Lib.hid hu
      have H6 := Lib.hid h6
      have h9 : t[k].length ≤ 9 := by omega
      have zo : w1.heap.size < wo.heap.size := (Array.getElem?_eq_some_iff.1 HR.out.2.2.1).1
      clear hcu hu h6 s3 s4
      go_wp2_with fail
      refine wp_region_set (CnJ (w.heap.size + 1 + 1) (w.heap.size + 1 + 1) wo.heap.size wo (.slice (some ⟨w.heap.size + 1 + 1, 0, none⟩) t.length t.length) (pad t k) ((pad t k).set k (List.replicate t[k].length 0))) (CnS (w.heap.size + 1 + 1)) (CnPhi w1.heap.size (w.heap.size + 1 + 1) k t.length t[k].length wo.heap.size (.slice a2 t[k].length cap2)) (fun _ => none) (by kernel_rfl) (by kernel_rfl) ?hS ?h0 ?hop ?hend
      case hS => exact fun i j v w w' _ _ hS h => cn_stable (by omega) hS h
      case h0 => exact ⟨(Chg.refl _ _).drew, fun _ => HR.out.1.below (bdrew _), fun h => by cases h⟩
      case hop =>
        intro i o hi V D w' hD hcl hJ hd
        have hi' : i = 0 ∨ i = 1 ∨ i = 2 ∨ i = 3 ∨ i = 4 ∨ i = 5 ∨ i = 6 ∨ i = 7 := by
          have := (List.getElem?_eq_some_iff.1 hi).1
          simp at this
          omega
        clear hcl
        have hz := hJ.1.size
        rcases hi' with rfl | rfl | rfl | rfl | rfl | rfl | rfl | rfl
        all_goals
          simp at hi
          subst hi
          simp [Region.binds, CnPhi] at hd
        · simp [Frees, frameOf, go_sem]
          exact ⟨rfl, Below.refl _ _, cnJ_step (by decide) (Below.refl _ _) hJ⟩
        · have hbc := (one_at (box_chg HR.out.2.2.1 hJ.1 (by omega))).1
          simp [Frees, frameOf, go_sem, hd, hbc]
          exact ⟨rfl, Below.refl _ _, cnJ_step (by decide) (Below.refl _ _) hJ⟩
        · simp [Frees, frameOf, go_sem]
          exact ⟨rfl, Below.refl _ _, cnJ_step (by decide) (Below.refl _ _) hJ⟩
        · simp [Frees, frameOf, go_sem]
          exact ⟨rfl, Below.refl _ _, cnJ_step (by decide) (Below.refl _ _) hJ⟩
        · simp [Frees, frameOf, go_sem, hd]
          exact ⟨rfl, Below.refl _ _, cnJ_step (by decide) (Below.refl _ _) hJ⟩
        · refine frees_mk (.tmp 23) (.tmp 23) rfl t[k].length (by simp [frameOf, go_sem, hd]) (by simp [frameOf, go_sem, hd]) (by omega) fun w'' ho hb => ?_
          exact ⟨⟨_, rfl, ho.wide hz⟩, hb, cnJ_step (by decide) hb hJ⟩
        · obtain ⟨d1, d2⟩ := hd
          simp [Frees, frameOf, go_sem, d1, d2, hlt]
          exact ⟨rfl, Below.refl _ _, cnJ_step (by decide) (Below.refl _ _) hJ⟩
        · obtain ⟨d6, ⟨⟨g, d5⟩, ho⟩, -⟩ := hd
          obtain ⟨A', cap', e1, -, ⟨u3, hcu3⟩, hf3, -, hput⟩ := (hJ.2.1 hD).row (hi' := w'.heap.size) k (by rw [pad_len _ _ hk]; exact hlt)
          simp only [Value.slice.injEq, Option.some.injEq, Addr.mk.injEq, and_true] at e1
          obtain ⟨rfl, -, -⟩ := e1
          have hp := hput _ _ (ho.wide (by omega)) (fun b hb => ho.lt b hb) hz
          simp [Frees, frameOf, go_sem, d5, d6, hcu3, hf3]
          have hc3 : Chg (fun b => b = w.heap.size + 1 + 1) w' (w'.setCell ⟨w.heap.size + 1 + 1, k, none⟩ (.slice (some ⟨g, 0, none⟩) t[k].length t[k].length)) := Chg.setCell (S := fun b => b = w.heap.size + 1 + 1) (Chg.refl _ w') (p := ⟨w.heap.size + 1 + 1, k, none⟩) (.inr rfl) _
          refine ⟨trivial, hc3, hJ.1.trans hc3, fun h => by simp at h, fun _ => ?_⟩
          rw [d5] at hp
          exact hp.mono hc3.size
      case hend =>
        intro V D w3 hD hJ hφ
        have hO := hJ.2.2 (hD 7 (by decide))
        have hJ1 := hJ.1
        have xC := box_chg HR.out.2.2.1 hJ1 (by omega)
        have xR := box_chg HR.out.2.2.2 hJ1 (by omega)
        have hB3 := HR.out.2.1.trans (hJ1.below HR.out.2.1.size (fun i hi he => by omega))
        have hkl : k < ((pad t k).set k (List.replicate t[k].length 0)).length := by rw [List.length_set, pad_len _ _ hk]; exact hlt
        obtain ⟨A', cap', u4, e1, -, hcu4, ho4, hb4, -⟩ := hO.inner k hkl
        simp only [Value.slice.injEq, Option.some.injEq, Addr.mk.injEq, and_true] at e1
        obtain ⟨rfl, -, -⟩ := e1
        have hl4 : (((pad t k).set k (List.replicate t[k].length 0))[k]'hkl).length = t[k].length := by simp
        obtain ⟨g, cap4, rfl, -, -, -⟩ := own_shape1 ho4.1 (by rw [hl4]; have := H6.out; omega)
        rw [hl4] at hcu4
        have hcc := (one_at xC).1
        have HO := Lib.hid (And.intro hO (And.intro hcu4 (And.intro xC (And.intro xR hB3))))
        have HK := Lib.hid hl4
        have HU3 := Lib.hid (HU.out.below hB3)
        clear hφ hJ hO hJ1 xC xR hB3 hl4 ho4 hb4
        simp [frameOf, Act.put]
        go_wp2_with (refine cp_row rfl _ _ rfl (w.heap.size + 1 + 1) w3.heap.size (.slice (some ⟨w.heap.size + 1 + 1, 0, none⟩) t.length t.length) _ k hkl HO.out.1 (.slice (some ⟨g, 0, none⟩) t[k].length cap4) (fun A cap e => by simp at e; rw [← e.1]; exact HO.out.2.1) rfl (.slice a2 t[k].length cap2) rfl t[k] _ _ HU3.out HK.out.symm (by have := H6.out; omega) ?_; intro w4 o4 c4)
        have HF : Hid (CnR w w1 t (k + 1) w4) := by
          refine ⟨?_, HO.out.2.2.2.2.trans (c4.below HO.out.2.2.2.2.size (fun i hi he => by omega)), box_chg HO.out.2.2.1 c4 (fun h => ?_), box_chg HO.out.2.2.2.1 c4 (fun h => by omega)⟩
          · rw [List.set_set, pad_set t k hlt] at o4
            exact o4.mono c4.size
          · obtain ⟨-, -, cur, fr, he⟩ := h
            rw [HO.out.2.2.1] at he
            simp at he
        clear HO o4 c4
        go_wp2_with fail
        go_roundw
        case rel => exact ⟨k + 1, by omega, by go_num, HF.out⟩
        case measure => simp [intOf]; omega
    · have d1 := one_at HR.out.2.2.1
      have d2 := one_at HR.out.2.2.2
      obtain ⟨d1, -⟩ := d1
      obtain ⟨d2, d3⟩ := d2
      go_wp2_with fail
      have hc : Chg (fun b => b = w.heap.size + 1) wo (wo.setCell ⟨w.heap.size + 1, 0, none⟩ (.slice (some ⟨w.heap.size + 1 + 1, 0, none⟩) t.length t.length)) := Chg.setCell (S := fun b => b = w.heap.size + 1) (Chg.refl _ wo) (p := ⟨w.heap.size + 1, 0, none⟩) (.inr rfl) _
      have hO := HR.out.1.chg hc (fun b hb _ hs => by omega)
      rw [pad_all t k hlt] at hO
      refine bodyPost_ret (v := .agg #[.slice (some ⟨w.heap.size + 1 + 1, 0, none⟩) t.length t.length]) (by simp [results, Try.results57, go_sem, d2]) rfl ⟨_, rfl, (hO.wide (by omega)).mono hc.size, HR.out.2.1.trans (hc.below HR.out.2.1.size (fun i hi he => by omega))⟩

end Go.Proofs.Ythpcgdkhipcieaa
