/-
  Texts of this claim, laid together: Ddw.
-/
import Derived.Test.YtjmofmdcegefgaaQ11
import Derived.Test.YtjmofmdcegefgaaQ17
import Derived.Test.YtjmofmdcegefgaaQ20
import Derived.Test.YtjmofmdcegefgaaQ22
namespace Go.Proofs.Ytjmofmdcegefgaa
open Go.RowKit
set_option linter.unusedSimpArgs false
set_option linter.unusedVariables false
set_option linter.unnecessarySimpa false

/-- A block in new memory. -/
def NewB (b : Bk) (w : World) (e : Ending) (w' : World) : Prop := ∃ s, e = .returned (.agg #[.int .i64 b.wear, s]) ∧ OP w' w.heap.size s b.pages ∧ Below w.heap.size w w'

theorem op_empty (w : World) (lo B : Nat) (hl : lo ≤ w.heap.size) (hB : w.heap.size = B) : OP (w.alloc (.cells #[] 53)) lo (.slice (some ⟨B, 0, none⟩) 0 0) [] := by
  subst hB
  exact ⟨World.ownsRow_lit w #[] 0 hl (by decide) rfl, fun _ h => by simp at h⟩
theorem od_empty (w : World) (lo B : Nat) (hl : lo ≤ w.heap.size) (hB : w.heap.size = B) : OD (w.alloc (.cells #[] 44)) lo (w.alloc (.cells #[] 44)).heap.size (.slice (some ⟨B, 0, none⟩) 0 0) [] := by
  subst hB
  have h : (w.alloc (.cells #[] 44)).ownsRow lo 44 2 (.slice (some ⟨w.heap.size, 0, none⟩) 0 0) 0 [] := World.ownsRow_lit w #[] 0 hl (by decide) rfl
  exact ⟨[], h, fun b hb => (h.lt b hb).2, Inn.nil _ _ _ _, fun _ h => by simp at h⟩
/-- 'append(out, b)' of one block. -/
theorem ap_block {w : World} {ops : Array Oper} {rest : List Oper} {o : Oper} {a : Act} {Q : Exit → Act → World → Prop} (hgd : o.guard = none) (s x : Operand)
    (ho : o.op = .call { callee := .builtin .append, args := #[s, x], argTypes := #[23, 23] }) (lo L : Nat) (sl : Value) (d : List Bk) (u8 : Value) (b : Bk) (hs : a.eval s = sl) (hO : OD w lo L sl d) (h8 : OP w L u8 b.pages) (hw : I64 b.wear) (hL : L ≤ w.heap.size) (hlo : lo ≤ L)
    (hx : a.eval x = .slice (some ⟨w.heap.size, 0, none⟩) 1 1) (hn : d.length ≤ 1000000)
    (h : ∀ v' w', OD w' lo w'.heap.size v' (d ++ [b]) → Chg (fun b => sl.ownBlock = some b) w w' → wpList Try.prog ops Q rest (a.put o.dst v') w') : wpList Try.prog ops Q (o :: rest) a (w.alloc (.cells #[.int .i64 b.wear, u8] 44)) := by
  obtain ⟨i0, hi0, hz0, hz1, hz2⟩ := info_parts Try.infoBk
  obtain ⟨us, k1, k2, k3, k4⟩ := hO
  obtain ⟨a8, c8, b8, f8, rfl, -⟩ := h8.rp.open
  have hl : us.length = d.length := by rw [k3.1, List.length_map]
  have hc2 := (two_at (heap_alloc_new w (.cells #[.int .i64 b.wear, .slice a8 b.pages.length c8] 44))).1
  refine wpList_append_own (w.alloc (.cells #[.int .i64 b.wear, .slice a8 b.pages.length c8] 44)) hgd s x 23 ho lo 44 i0 (.agg #[.int .i64 0, .slice none 0 0]) 2 32 Try.underlying23 hi0 hz0 hz1 hz2 rfl (by decide) sl d.length (bc d us) hs (k1.alloc _) ⟨w.heap.size, 0, none⟩ 1 1 [.int .i64 b.wear, .slice a8 b.pages.length c8] hx rfl (fun j u hj => ?_) (fun u hu => ?_) (by simp [maxLen]; omega) (by omega) (by simp; omega) fun v' w' h1 h2 _ => ?_
  · have hj2 : j = 0 ∨ j = 1 := by
      have := (List.getElem?_eq_some_iff.1 hj).1
      simp at this; omega
    rcases hj2 with rfl | rfl
    · simp at hj; subst hj; simpa [Addr.add] using hc2.1
    · simp at hj; subst hj; simpa [Addr.add] using hc2.2
  · simp at hu
    rcases hu with rfl | rfl <;> rfl
  have hc : Chg (fun b => sl.ownBlock = some b) w w' := ((Chg.refl _ w).alloc _).grown h2 (fun b hb => .inr hb)
  have hin : Inn PgRow w' lo L us (d.map Bk.pages) := k3.chg2 hc fun k u' b hu' hb1 hb2 => by
    have hk : k < (d.map Bk.pages).length := by rw [← k3.1]; exact (List.getElem?_eq_some_iff.1 hu').1
    have ho' : OP w lo u' (d.map Bk.pages)[k] := (k3.2.1 k hk u' hu').1
    exact own_apart ho'.1 k1 (by decide) b hb1 hb2
  have h8' : OP w' L (.slice a8 b.pages.length c8) b.pages := h8.chg hc fun b hb _ hs => by have := k2 b hs; omega
  have hin2 := hin.snoc (R := PgRow) (u := .slice a8 b.pages.length c8) (x := b.pages) (h8'.wide hlo) (fun b hb => h8'.lt b hb) (by have := hc.size; omega)
  refine h v' w' ⟨us ++ [.slice a8 b.pages.length c8], ?_, fun b hb => (h1.lt b hb).2, ?_, fun x hx => ?_⟩ hc
  · rw [bc_append d us b _ hl]
    simpa using h1
  · rw [List.map_append]
    exact hin2
  · rcases List.mem_append.1 hx with hx | hx
    · exact k4 x hx
    · simp at hx; subst hx; exact hw
/-- 'append(out, pages...)' of an operation of a region that draws its order. -/
theorem frees_pgs {w : World} {o : Oper} {ρ : Operand → Value} {R : Value → World → Prop} (s x : Operand) (ho : o.op = .call { callee := .builtin .append, args := #[s, x], argTypes := #[42, 42] })
    (lo lo2 hi2 : Nat) (sl u : Value) (ps0 ps : List Pg) (hO : OP w lo sl ps0) (hr : RP w lo2 hi2 u ps) (hp : 0 < ps.length) (hs : ρ s = sl) (hx : ρ x = u) (hlo : lo ≤ w.heap.size) (hn : ps0.length + ps.length ≤ 1000000)
    (h : ∀ v' w', OP w' lo v' (ps0 ++ ps) → Chg (fun b => sl.ownBlock = some b) w w' → R v' w') : Frees Try.prog o ρ w R := by
  obtain ⟨i0, hi0, hz0, hz1, hz2⟩ := info_parts Try.infoPg
  obtain ⟨⟨hl, a, cap, b, off, rfl, g1, g2, g3, g4⟩, hI⟩ := hr
  obtain ⟨rfl, -, -⟩ := g3 hp
  refine frees_append s x 42 ho lo 53 i0 (.agg #[.bool false, .int .i64 0, .int .i64 0, .int .i64 0, .int .i64 0]) 5 40 Try.underlying42 hi0 hz0 hz1 hz2 rfl (by decide) sl ps0.length (pc ps0) hs hO.1 ⟨b, off, none⟩ ps.length cap (pc ps) hx hl (fun j u hj => ?_) (fun u hu => ?_) (by simp [maxLen]; omega) (by omega) hlo fun v' w' h1 h2 _ => ?_
  · have hjl := (List.getElem?_eq_some_iff.1 hj).1
    rw [pc_len] at hjl
    rw [show (⟨b, off, none⟩ : Addr).add j = ⟨b, off + j, none⟩ from by cases j <;> simp [Addr.add], g4 j hjl, hj]
  · unfold pc at hu
    obtain ⟨p, -, hp2⟩ := List.mem_flatMap.1 hu
    simp [pgc] at hp2
    rcases hp2 with rfl | rfl | rfl | rfl | rfl <;> rfl
  · refine h v' w' ⟨?_, fun p hp2 => ?_⟩ ((Chg.refl _ w).grown h2 (fun b hb => .inr hb))
    · rw [List.length_append, pc_append]
      exact h1
    · rcases List.mem_append.1 hp2 with h | h
      · exact hO.2 p h
      · exact hI p h

set_option maxHeartbeats 1000000 in
theorem specNbk_any (n : Int) (h0 : 0 ≤ n) (h1 : n ≤ 100) (w : World) : Calls Try.prog 78 #[.int .i64 n] w (NewB (B0 n) w) := by
  have HI := Lib.hid (inB_yes h0 h1)
  have X0 := Lib.hid (heap_alloc_new w (.cells #[.int .i64 0, .slice none 0 0] 44))
  have HB0 := Lib.hid (balloc w (.cells #[.int .i64 0, .slice none 0 0] 44))
  go_enter Try.func78, Try.ntmps78
  go_wp2_with fail
  refine (l1In_any _ _ _ _).mono ?_
  rintro e wz ⟨rfl, rfl⟩
  have hin := HI.out
  go_wp2_with (refine mk_pages rfl _ _ rfl 4 rfl rfl (by omega) ?_; intro w1 o1 b1; go_loud (have HO := Lib.hid o1); go_loud (have HB1 := Lib.hid b1); go_loud (obtain ⟨⟨d1, d2⟩, d3, d4⟩ := two_at (box_keep X0.out b1)); clear o1 b1)
  have hc : Chg (fun b => b = w.heap.size) w1 ((w1.setCell ⟨w.heap.size, 0, none⟩ (.int .i64 n)).setCell ⟨w.heap.size, 1, none⟩ (.slice (some ⟨w.heap.size + 1, 0, none⟩) 4 4)) :=
    Chg.setCell (S := fun b => b = w.heap.size) (Chg.setCell (S := fun b => b = w.heap.size) (Chg.refl _ w1) (p := ⟨w.heap.size, 0, none⟩) (.inr rfl) _) (p := ⟨w.heap.size, 1, none⟩) (.inr rfl) _
  have hz : (w.alloc (.cells #[.int .i64 0, .slice none 0 0] 44)).heap.size = w.heap.size + 1 := by simp
  have hO := HO.out
  rw [hz] at hO
  refine bodyPost_ret (v := .agg #[.int .i64 n, .slice (some ⟨w.heap.size + 1, 0, none⟩) 4 4]) (by simp [results, Try.results78, go_sem, d1, d2]) rfl ⟨_, rfl, (hO.chg hc (fun b hb _ hs => by omega)).wide (by omega), (bup2 HB0.out HB1.out).trans (hc.below (bup2 HB0.out HB1.out).size (fun i hi he => by omega))⟩

/-- The device that is being made. -/
def NdR (w : World) (d : List Bk) (v : Value) (wr : World) : Prop := OD wr w.heap.size wr.heap.size v d ∧ Below w.heap.size w wr

set_option maxHeartbeats 2000000 in
theorem specNdv_any (n : Nat) (h0 : 1 ≤ n) (h1 : n ≤ 12) (w : World) : Calls Try.prog 74 #[.int .i64 n] w (NewD (D0 n) w) := by
  have HI := Lib.hid (inB_yes (n := (n : Int)) (lo := 1) (hi := 12) (by omega) (by omega))
  have HS : Hid (NdR w [] (.slice (some ⟨w.heap.size, 0, none⟩) 0 0) (w.alloc (.cells #[] 44))) := Lib.hid ⟨od_empty w _ _ (Nat.le_refl _) rfl, balloc w _⟩
  go_enter Try.func74, Try.ntmps74
  go_wp2_with fail
  go_loopw [3, 4] (fun v i wr => ∃ k : Nat, k ≤ n ∧ i = .int .i64 k ∧ NdR w (D0 k) v wr) (fun _ i _ => n - (intOf i).toNat)
  case atStart => exact ⟨0, by omega, rfl, HS.out⟩
  case round =>
    obtain ⟨k, hk, rfl, hR⟩ := hrel
    obtain ⟨wo, rfl⟩ : ∃ wo : World, wo = wr := ⟨_, rfl⟩
    clear HS
    have HR := Lib.hid hR
    obtain ⟨a, cap, b, off, rfl, -⟩ := hR.1.rd.open
    clear hR
    have hkl : (D0 k).length = k := by simp [D0]
    replace HR := HR.out
    rw [hkl] at HR ⊢
    replace HR := Lib.hid HR
    clear hkl
    by_cases hlt : k < n
    · have hki : (k : Int) < (n : Int) := by omega
      go_wp2_with fail
      refine (l1In_any _ _ _ _).mono ?_
      rintro e wz ⟨rfl, rfl⟩
      have hin := HI.out
      go_wp2_with fail
      refine (specNbk_any 0 (by omega) (by omega) _).mono ?_
      rintro e w1 ⟨s, rfl, o1, b1⟩
      have HO := Lib.hid (And.intro o1 b1)
      obtain ⟨a1, cap1, b1', off1, rfl, -⟩ := o1.rp.open
      clear o1 b1 hin
      have hpl : (B0 0).pages.length = 4 := rfl
      have hwl : (B0 0).wear = 0 := rfl
      replace HO := HO.out
      rw [hpl] at HO ⊢
      rw [hwl]
      replace HO := Lib.hid HO
      clear hpl hwl
      go_wp2_with (at_builtin; refine ap_block rfl _ _ rfl w.heap.size wo.heap.size (.slice a k cap) (D0 k) (.slice a1 4 cap1) (B0 0) rfl (HR.out.1.below HO.out.2) HO.out.1 (by unfold I64 B0; simp) HO.out.2.size HR.out.2.size rfl (by simp [D0]; omega) ?_; intro v' w4 o4 c4; have H4 := Lib.hid (And.intro o4 c4); clear o4 c4)
      have hs : ∀ b, (Value.slice a k cap).ownBlock = some b → w.heap.size ≤ b := fun b hb => by
        obtain ⟨us, k1, -⟩ := HR.out.1
        exact (k1.lt b hb).1
      have HF : Hid (NdR w (D0 (k + 1)) v' w4) := Lib.hid ⟨by rw [← D0_succ]; exact H4.out.1, (bup2 HR.out.2 HO.out.2).trans (H4.out.2.below (bup2 HR.out.2 HO.out.2).size (fun i hi he => by have := hs i he; omega))⟩
      go_roundw
      case rel => exact ⟨k + 1, by omega, by go_num, HF.out⟩
      case measure => simp [intOf]; omega
    · have hki : ¬ (k : Int) < (n : Int) := by omega
      obtain rfl : k = n := by omega
      go_wp2_with fail
      go_ret
      exact ⟨_, rfl, HR.out⟩

set_option maxHeartbeats 2000000 in
set_option maxRecDepth 4000 in
theorem l4Copy_any (v : Value) (b : Bk) (lo hi : Nat) (w : World) (h : RB1 w lo hi v b) (hb : bkOk b = true) : Calls Try.prog 102 #[v] w (NewB b w) := by
  obtain ⟨s, rfl, hw, hp⟩ := h
  obtain ⟨a, cap, b0, off, rfl, -⟩ := hp.open
  have HP := Lib.hid hp
  have h4 := (bkOk_iff.1 hb).2.1
  have hp0 : 0 < b.pages.length := by omega
  have hp9 : b.pages.length ≤ 9 := by omega
  obtain ⟨w1, hw1⟩ : ∃ w1, w1 = (w.alloc (.cells #[.int .i64 b.wear, .slice a b.pages.length cap] 44)).alloc (.cells #[.int .i64 0, .slice none 0 0] 44) := ⟨_, rfl⟩
  have HB0 : Hid (Below w.heap.size w w1) := Lib.hid (by rw [hw1]; exact two_below w _ _)
  have hz1 : w1.heap.size = w.heap.size + 1 + 1 := by rw [hw1]; simp
  have X0 : w1.heap[w.heap.size]? = some (.cells #[.int .i64 b.wear, .slice a b.pages.length cap] 44) := by rw [hw1]; exact box_keep (heap_alloc_new w _) (balloc _ _)
  have e1 : (w.alloc (.cells #[.int .i64 b.wear, .slice a b.pages.length cap] 44)).heap.size = w.heap.size + 1 := by simp
  have X1 : Hid (w1.heap[w.heap.size + 1]? = some (.cells #[.int .i64 0, .slice none 0 0] 44)) := Lib.hid (by have := heap_alloc_new (w.alloc (.cells #[.int .i64 b.wear, .slice a b.pages.length cap] 44)) (.cells #[.int .i64 0, .slice none 0 0] 44); rw [e1] at this; rw [hw1]; exact this)
  obtain ⟨⟨f1, f2⟩, -⟩ := two_at X0
  have HW := Lib.hid hw1
  have HZ := Lib.hid hz1
  have hwz : w.heap.size ≤ w1.drew.heap.size := by show w.heap.size ≤ w1.heap.size; omega
  have hwz2 : w.heap.size ≤ w1.heap.size := by omega
  clear hp h4 hw1 e1 X0 hz1
  go_enter Try.func102, Try.ntmps102
  go_wp2_with fail
  rw [← HW.out]
  have k1 := And.intro f1 (show ¬ w.heap.size = w.heap.size + 1 by omega)
  have k2 := And.intro f2 (show ¬ w.heap.size = w.heap.size + 1 by omega)
  clear f1 f2
  refine region_held_n 8 (S := fun w' => Chg (fun c => c = w.heap.size + 1) w1 w') (by kernel_rfl) (by kernel_rfl) (below_chg (bdrew _) _) (fun hS0 => ?_)
  refine hs_take (fuel := 7) 0 (some 3) (.pointer (some ⟨w.heap.size, 0, none⟩)) rfl rfl (by kernel_rfl) (by kernel_rfl) (by kernel_rfl) (fun _ _ _ h => h) (by rfl) (fun wq hq => ?_) (by assumption) ?_
  · go_simp
  simp only [Act.put, List.setIfInBounds_toArray, List.set_cons_zero, List.set_cons_succ]
  refine hs_take (fuel := 6) 1 (some 4) (.int .i64 b.wear) rfl rfl (by kernel_rfl) (by kernel_rfl) (by kernel_rfl) (fun _ _ _ h => h) (by rfl) (fun wq hq => ?_) (by assumption) ?_
  · have p0 := cell_chg hq k1
    go_simp
  simp only [Act.put, List.setIfInBounds_toArray, List.set_cons_zero, List.set_cons_succ]
  refine hs_take (fuel := 5) 3 (some 6) (.pointer (some ⟨w.heap.size, 1, none⟩)) rfl rfl (by kernel_rfl) (by kernel_rfl) (by kernel_rfl) (fun _ _ _ h => h) (by rfl) (fun wq hq => ?_) (by assumption) ?_
  · go_simp
  simp only [Act.put, List.setIfInBounds_toArray, List.set_cons_zero, List.set_cons_succ]
  refine hs_take (fuel := 4) 4 (some 7) (.slice a b.pages.length cap) rfl rfl (by kernel_rfl) (by kernel_rfl) (by kernel_rfl) (fun _ _ _ h => h) (by rfl) (fun wq hq => ?_) (by assumption) ?_
  · have p0 := cell_chg hq k2
    go_simp
  simp only [Act.put, List.setIfInBounds_toArray, List.set_cons_zero, List.set_cons_succ]
  refine wpAnyH_ready (fuel := 3) (rs := [2]) (by kernel_rfl) (by simp) (AllReadyH.cons rfl (fun K hK => ?_) AllReadyH.nil)
  go_simp
  refine hK.out _ _ ?_ (fun hS => ?_)
  · exact hS0.trans (below_chg (balloc _ _) _)
  refine wpAnyH_ready (fuel := 2) (rs := [5]) (by kernel_rfl) (by simp) (AllReadyH.cons rfl (fun K hK => ?_) AllReadyH.nil)
  rw [if_pos (by rfl)]
  refine Frees.wp (R := fun v' w' => OP w' w1.heap.size v' ([] ++ b.pages) ∧ Chg (fun c => (Value.slice (some ⟨w1.heap.size, 0, none⟩) 0 0).ownBlock = some c) (w1.drew.alloc (.cells #[] 53)) w') (frees_pgs (.tmp 5) (.tmp 7) rfl w1.heap.size lo hi _ _ [] b.pages (op_empty w1.drew w1.heap.size _ (Nat.le_refl _) rfl) (HP.out.below (bup2 HB0.out (bup2 (bdrew w1) (balloc _ _)))) hp0 rfl rfl (by show w1.heap.size ≤ _; simp) (by simp; omega) fun v' w' ho hc => ⟨ho, hc⟩) (fun v2 w2 m2 => ?_)
  obtain ⟨o2, c2⟩ := m2
  rw [List.nil_append] at o2
  obtain ⟨a2, cap2, b2, off2, rfl, -⟩ := o2.rp.open
  have hb2 : Below w1.heap.size w1 w2 := (bup2 (bdrew w1) (balloc w1.drew (.cells #[] 53))).trans (c2.below (bup2 (bdrew w1) (balloc w1.drew (.cells #[] 53))).size (fun i hi he => by have h := Option.some.inj he; simp at h; omega))
  refine hK.out _ _ ?_ (fun hS => ?_)
  · exact below_chg hb2 _
  refine hs_take (fuel := 1) 6 (some 9) (Value.agg #[.int .i64 b.wear, .slice a2 b.pages.length cap2]) rfl rfl (by kernel_rfl) (by kernel_rfl) (by kernel_rfl) (fun _ _ _ h => h) (by rfl) (fun wq hq => ?_) (by assumption) ?_
  · go_simp
  simp only [Act.put, List.setIfInBounds_toArray, List.set_cons_zero, List.set_cons_succ]
  refine wpAnyH_ready (fuel := 0) (rs := [7]) (by kernel_rfl) (by simp) (AllReadyH.cons rfl (fun K hK => ?_) AllReadyH.nil)
  obtain ⟨⟨x0, x1⟩, x2, x3⟩ := two_at (box_keep X1.out hb2)
  go_simp
  refine hK.out _ _ ?_ (fun hS => ?_)
  · exact Chg.setCell (S := fun c => c = w.heap.size + 1) (Chg.setCell (S := fun c => c = w.heap.size + 1) (below_chg hb2 _) (p := ⟨w.heap.size + 1, 0, none⟩) (.inr rfl) _) (p := ⟨w.heap.size + 1, 1, none⟩) (.inr rfl) _
  refine wpAnyH_done (by kernel_rfl) ?_ _
  have hS2 : Chg (fun c => c = w.heap.size + 1) w2 ((w2.setCell ⟨w.heap.size + 1, 0, none⟩ (.int .i64 b.wear)).setCell ⟨w.heap.size + 1, 1, none⟩ (.slice a2 b.pages.length cap2)) := Chg.setCell (S := fun c => c = w.heap.size + 1) (Chg.setCell (S := fun c => c = w.heap.size + 1) (Chg.refl _ w2) (p := ⟨w.heap.size + 1, 0, none⟩) (.inr rfl) _) (p := ⟨w.heap.size + 1, 1, none⟩) (.inr rfl) _
  have hB2 : Below w.heap.size w ((w2.setCell ⟨w.heap.size + 1, 0, none⟩ (.int .i64 b.wear)).setCell ⟨w.heap.size + 1, 1, none⟩ (.slice a2 b.pages.length cap2)) := (bup2 HB0.out hb2).trans (hS2.below (bup2 HB0.out hb2).size (fun i hi he => by omega))
  have HO := Lib.hid (And.intro (o2.chg hS2 (fun c hc _ hs => by have := HZ.out; omega)) hB2)
  clear hS2 hB2 o2 c2 hb2 k1 k2
  go_wp2_with fail
  refine bodyPost_ret (v := .agg #[.int .i64 b.wear, .slice a2 b.pages.length cap2]) (by simp [results, Try.results102, go_sem, x0, x1]) rfl ⟨_, rfl, HO.out.1.wide hwz2, HO.out.2⟩

set_option maxHeartbeats 2000000 in
theorem l5Copy_any (v : Value) (d : List Bk) (lo hi : Nat) (w : World) (h : RD w lo hi v d) (hv : dvOk d = true) : Calls Try.prog 86 #[v] w (NewD d w) := by
  obtain ⟨a0, cap0, b0, off0, rfl, q1, q2, q3, -⟩ := h.open
  have HD := Lib.hid h
  have HV := Lib.hid hv
  have hl12 := (dv_len hv).2
  have HS : Hid (NdR w [] (.slice (some ⟨w.heap.size, 0, none⟩) 0 0) (w.alloc (.cells #[] 44))) := Lib.hid ⟨od_empty w _ _ (Nat.le_refl _) rfl, balloc w _⟩
  clear h hv
  go_enter Try.func86, Try.ntmps86
  go_wp2_with fail
  go_loopw [3, 4] (fun v i wr => ∃ k : Nat, k ≤ d.length ∧ i = .int .i64 k ∧ NdR w (d.take k) v wr) (fun _ i _ => d.length - (intOf i).toNat)
  case atStart => exact ⟨0, by omega, rfl, HS.out⟩
  case round =>
    obtain ⟨k, hk, rfl, hR⟩ := hrel
    obtain ⟨wo, rfl⟩ : ∃ wo : World, wo = wr := ⟨_, rfl⟩
    clear HS
    have HR := Lib.hid hR
    obtain ⟨a, cap, b, off, rfl, -⟩ := hR.1.rd.open
    clear hR
    have hkl : (d.take k).length = k := by simp; omega
    replace HR := HR.out
    rw [hkl] at HR ⊢
    replace HR := Lib.hid HR
    clear hkl
    by_cases hlt : k < d.length
    · have hki : (k : Int) < (d.length : Int) := by omega
      obtain rfl := q3 (by omega)
      obtain ⟨a', cap', b', off', c1, c2, hp, hw, -⟩ := (HD.out.below HR.out.2).at k hlt
      have HC := Lib.hid (l4Copy_any _ d[k] _ _ wo (RB1.mk'' hp hw) (dv_blk HV.out hlt))
      have HL4 := Lib.hid (dv_len4 HV.out hlt)
      have HW := Lib.hid hw
      have hts : d.take (k + 1) = d.take k ++ [d[k]] := List.take_succ_eq_append_getElem hlt
      have HTS := Lib.hid hts
      generalize d[k] = bk at c1 c2 HC HL4 HW HTS
      clear hp hw hts q3
      go_wp2_with fail
      refine HC.out.mono ?_
      rintro e w1 ⟨s, rfl, o1, b1⟩
      have HO := Lib.hid (And.intro o1 b1)
      obtain ⟨a1, cap1, b1', off1, rfl, -⟩ := o1.rp.open
      clear o1 b1 c1 c2 HC
      go_wp2_with (at_builtin; refine ap_block rfl _ _ rfl w.heap.size wo.heap.size (.slice a k cap) (d.take k) (.slice a1 bk.pages.length cap1) bk rfl (HR.out.1.below HO.out.2) HO.out.1 HW.out HO.out.2.size HR.out.2.size rfl (by simp; omega) ?_; intro v' w4 o4 c4; have H4 := Lib.hid (And.intro o4 c4); clear o4 c4)
      have hs : ∀ b, (Value.slice a k cap).ownBlock = some b → w.heap.size ≤ b := fun b hb => by
        obtain ⟨us, k1, -⟩ := HR.out.1
        exact (k1.lt b hb).1
      have HF : Hid (NdR w (d.take (k + 1)) v' w4) := Lib.hid ⟨by rw [HTS.out]; exact H4.out.1, (bup2 HR.out.2 HO.out.2).trans (H4.out.2.below (bup2 HR.out.2 HO.out.2).size (fun i hi he => by have := hs i he; omega))⟩
      go_roundw
      case rel => exact ⟨k + 1, by omega, by go_num, HF.out⟩
      case measure => simp [intOf]; omega
    · have hki : ¬ (k : Int) < (d.length : Int) := by omega
      obtain rfl : k = d.length := by omega
      have hall : d.take d.length = d := List.take_length
      replace HR := HR.out
      rw [hall] at HR
      replace HR := Lib.hid HR
      clear hall
      go_wp2_with fail
      go_ret
      exact ⟨_, rfl, HR.out⟩

/-- A block in new memory and a number. -/
def NewBN (b : Bk) (n : Int) (w : World) (e : Ending) (w' : World) : Prop := ∃ s, e = .returned (.tuple #[.agg #[.int .i64 b.wear, s], .int .i64 n]) ∧ OP w' w.heap.size s b.pages ∧ Below w.heap.size w w'
theorem three_all (w : World) (o1 o2 o3 : Obj) : (((w.alloc o1).alloc o2).alloc o3).heap[w.heap.size]? = some o1 ∧ (((w.alloc o1).alloc o2).alloc o3).heap[w.heap.size + 1]? = some o2 ∧ (((w.alloc o1).alloc o2).alloc o3).heap[w.heap.size + 1 + 1]? = some o3 ∧ Below w.heap.size w (((w.alloc o1).alloc o2).alloc o3) ∧ (((w.alloc o1).alloc o2).alloc o3).heap.size = w.heap.size + 1 + 1 + 1 := by
  have e1 : (w.alloc o1).heap.size = w.heap.size + 1 := by simp
  have e2 : ((w.alloc o1).alloc o2).heap.size = w.heap.size + 1 + 1 := by simp
  have h1 := box_keep (heap_alloc_new w o1) (bup2 (balloc (w.alloc o1) o2) (balloc ((w.alloc o1).alloc o2) o3))
  have h2 := box_keep (heap_alloc_new (w.alloc o1) o2) (balloc ((w.alloc o1).alloc o2) o3)
  have h3 := heap_alloc_new ((w.alloc o1).alloc o2) o3
  rw [e1] at h2
  rw [e2] at h3
  exact ⟨h1, h2, h3, bup2 (two_below w o1 o2) (balloc _ _), by simp⟩

/-- Three boxes of the call's own. -/
def Wb3 (w : World) (o1 o2 o3 : Obj) (wr : World) : Prop := wr.heap[w.heap.size]? = some o1 ∧ wr.heap[w.heap.size + 1]? = some o2 ∧ wr.heap[w.heap.size + 1 + 1]? = some o3 ∧ Below w.heap.size w wr ∧ w.heap.size + 1 + 1 < wr.heap.size
theorem Wb3.below {w wr w' : World} {o1 o2 o3 : Obj} (h : Wb3 w o1 o2 o3 wr) (b : Below wr.heap.size wr w') : Wb3 w o1 o2 o3 w' :=
  ⟨box_keep h.1 b, box_keep h.2.1 b, box_keep h.2.2.1 b, bup2 h.2.2.2.1 b, Nat.lt_of_lt_of_le h.2.2.2.2 b.size⟩
theorem wb3_new (w : World) (o1 o2 o3 : Obj) : Wb3 w o1 o2 o3 (((w.alloc o1).alloc o2).alloc o3) := by
  obtain ⟨h1, h2, h3, h4, h5⟩ := three_all w o1 o2 o3
  exact ⟨h1, h2, h3, h4, by omega⟩
theorem wrb_yes {b : Bk} {n : Nat} {p : Pg} (h : bnext b = n) : wrb b p = ⟨b.wear, b.pages.set n p⟩ := by
  unfold wrb
  rw [h, if_pos (by omega), Int.toNat_natCast]
theorem wrb_no {b : Bk} {p : Pg} (h : bnext b < 0) : wrb b p = b := by
  unfold wrb
  rw [if_neg (by omega)]
theorem five0 {w : World} {B : Nat} {p : Pg} {t : TypeId} (h : w.heap[B]? = some (.cells #[.bool p.full, .int .i64 p.file, .int .i64 p.place, .int .i64 p.value, .int .i64 p.stamp] t (0, 0))) :
    w.cell? ⟨B, 0, none⟩ = some (.bool p.full) ∧ w.cell? ⟨B, 1, none⟩ = some (.int .i64 p.file) ∧ w.cell? ⟨B, 2, none⟩ = some (.int .i64 p.place) ∧ w.cell? ⟨B, 3, none⟩ = some (.int .i64 p.value) ∧ w.cell? ⟨B, 4, none⟩ = some (.int .i64 p.stamp) := by
  have := five_at h
  unfold P5 at this
  simpa using this

set_option maxHeartbeats 4000000 in
set_option maxRecDepth 4000 in
theorem specWrb_any (v : Value) (b : Bk) (p : Pg) (lo hi : Nat) (w : World) (h : RB1 w lo hi v b) (hb : bkOk b = true) (hp : pgOk p = true) (hf : p.full = true) :
    Calls Try.prog 89 #[v, pgv p] w (NewBN (wrb b p) (bnext b) w) := by
  obtain ⟨s, rfl, hw, hps⟩ := h
  obtain ⟨a, cap, b0, off, rfl, -⟩ := hps.open
  have H4 := Lib.hid (bkOk_iff.1 hb).2.1
  have hlp : 0 < b.pages.length := by have := H4.out; omega
  have hlq : b.pages.length ≤ 9 := by have := H4.out; omega
  have HPI := Lib.hid (pgOk_i hp)
  have CP := specPgv_any p
  rw [hp] at CP
  have CB := fun wx hx => specBkv_any (.agg #[.int .i64 b.wear, .slice a b.pages.length cap]) b lo hi wx hx
  rw [hb] at CB
  have CN := Lib.hid (fun wx hx => specNext_any (.agg #[.int .i64 b.wear, .slice a b.pages.length cap]) b lo hi wx hx hb)
  have CC := Lib.hid (fun wx hx => l4Copy_any (.agg #[.int .i64 b.wear, .slice a b.pages.length cap]) b lo hi wx hx hb)
  have HBP := Lib.hid (@bnext_pos b)
  obtain ⟨full, fi, pl, va, st⟩ := p
  simp only at hf
  subst hf
  unfold pgv at CP ⊢
  simp only at CP ⊢
  have HCP := Lib.hid CP
  have HCB := Lib.hid CB
  have HRB := Lib.hid (RB1.mk'' hps hw)
  have hx1 := wb3_new w (.cells #[.int .i64 b.wear, .slice a b.pages.length cap] 44) (.cells #[.bool true, .int .i64 fi, .int .i64 pl, .int .i64 va, .int .i64 st] 53) (.cells #[.int .i64 0, .slice none 0 0] 44)
  obtain ⟨w1, hw1⟩ : ∃ w1, w1 = ((w.alloc (.cells #[.int .i64 b.wear, .slice a b.pages.length cap] 44)).alloc (.cells #[.bool true, .int .i64 fi, .int .i64 pl, .int .i64 va, .int .i64 st] 53)).alloc (.cells #[.int .i64 0, .slice none 0 0] 44) := ⟨_, rfl⟩
  rw [← hw1] at hx1
  have HX := Lib.hid hx1
  have HW := Lib.hid hw1
  clear hps hp CP CB hx1 hw1 hb
  go_enter Try.func89, Try.ntmps89
  go_wp2_with fail
  rw [← HW.out]
  refine (HCB.out _ (RB1.keep HRB.out HX.out.2.2.2.1)).mono ?_
  rintro e w2 ⟨rfl, b2⟩
  replace HX := Lib.hid (HX.out.below b2)
  obtain ⟨y0, y1, y2, y3, y4⟩ := five0 (p := ⟨true, fi, pl, va, st⟩) HX.out.2.1
  clear b2
  go_wp2_with fail
  refine (HCP.out _).mono ?_
  rintro e w3 ⟨rfl, b3⟩
  replace HX := Lib.hid (HX.out.below b3)
  replace y0 := cell_later b3 y0
  obtain ⟨⟨x0, x1⟩, -⟩ := two_at HX.out.1
  clear b3 y1 y2 y3 y4
  go_wp2_with fail
  refine (CC.out _ (RB1.keep HRB.out HX.out.2.2.2.1)).mono ?_
  rintro e w4 ⟨s4, rfl, o4, b4⟩
  obtain ⟨g, cap4, rfl, g1, g2, g3⟩ := own_shape1 o4.1 hlp
  have hz3 := HX.out.2.2.2.2
  replace HX := Lib.hid ((HX.out.below b4).below (balloc w4 (.cells #[.int .i64 b.wear, .slice (some ⟨g, 0, none⟩) b.pages.length cap4] 44)))
  have O4 := Lib.hid (o4.below (balloc w4 (.cells #[.int .i64 b.wear, .slice (some ⟨g, 0, none⟩) b.pages.length cap4] 44)))
  have X6 := Lib.hid (heap_alloc_new w4 (.cells #[.int .i64 b.wear, .slice (some ⟨g, 0, none⟩) b.pages.length cap4] 44))
  have hz4 := b4.size
  obtain ⟨w5, hw5⟩ : ∃ w5, w5 = w4.alloc (.cells #[.int .i64 b.wear, .slice (some ⟨g, 0, none⟩) b.pages.length cap4] 44) := ⟨_, rfl⟩
  rw [← hw5] at HX O4 X6
  obtain ⟨T6, hT6⟩ : ∃ T6, T6 = w4.heap.size := ⟨_, rfl⟩
  rw [← hT6] at X6 hz4 g2
  have HT6 := Lib.hid hT6.symm
  have HW5 := Lib.hid hw5
  obtain ⟨⟨x0, x1⟩, -⟩ := two_at HX.out.1
  rw [hw5] at x0 x1
  clear o4 b4 y0 hw5 hT6
  go_wp2_with fail
  rw [← HW5.out]
  refine (CN.out _ (RB1.keep HRB.out HX.out.2.2.2.1)).mono ?_
  rintro e w6 ⟨rfl, b6⟩
  replace HX := Lib.hid (HX.out.below b6)
  replace O4 := Lib.hid (O4.out.below b6)
  replace X6 := Lib.hid (box_keep X6.out b6)
  obtain ⟨⟨t0, t1⟩, t2, t3⟩ := two_at X6.out
  obtain ⟨⟨r0, r1⟩, r2, r3⟩ := two_at HX.out.2.2.1
  obtain ⟨y0, y1, y2, y3, y4⟩ := five0 (p := ⟨true, fi, pl, va, st⟩) HX.out.2.1
  clear b6 x0 x1
  rw [HT6.out]
  by_cases hn : 0 ≤ bnext b
  · obtain ⟨e1, e2⟩ := HBP.out hn
    have HWy := Lib.hid (wrb_yes (p := ⟨true, fi, pl, va, st⟩) e1)
    obtain ⟨n, hnn⟩ : ∃ n, n = nxt b.pages := ⟨_, rfl⟩
    rw [← hnn] at e1 e2 HWy
    rw [HWy.out, e1]
    obtain ⟨g', cap', eg, -, ⟨⟨u0, k0⟩, ⟨u1, k1⟩, ⟨u2, k2⟩, ⟨u3, k3⟩, ⟨u4, k4⟩⟩, ⟨l0, l1, l2, l3, l4⟩, ⟨hg1, hg2⟩, hput⟩ := O4.out.page n e2
    simp only [Value.slice.injEq, Option.some.injEq, Addr.mk.injEq, and_true, true_and] at eg
    obtain ⟨rfl, rfl⟩ := eg
    have HPut := Lib.hid (hput _ HPI.out)
    have hni : (n : Int) < (b.pages.length : Int) := by omega
    have HE1 := Lib.hid e1
    clear hnn e1 hput hn
    go_wp2_with fail
    rw [HWy.out, HE1.out]
    have hc2 : Chg (fun c => c = w.heap.size + 1 + 1) (((((w6.setCell ⟨g, n * 5, none⟩ (.bool true)).setCell ⟨g, n * 5 + 1, none⟩ (.int .i64 fi)).setCell ⟨g, n * 5 + 2, none⟩ (.int .i64 pl)).setCell ⟨g, n * 5 + 3, none⟩ (.int .i64 va)).setCell ⟨g, n * 5 + 4, none⟩ (.int .i64 st)) (((((((w6.setCell ⟨g, n * 5, none⟩ (.bool true)).setCell ⟨g, n * 5 + 1, none⟩ (.int .i64 fi)).setCell ⟨g, n * 5 + 2, none⟩ (.int .i64 pl)).setCell ⟨g, n * 5 + 3, none⟩ (.int .i64 va)).setCell ⟨g, n * 5 + 4, none⟩ (.int .i64 st)).setCell ⟨w.heap.size + 1 + 1, 0, none⟩ (.int .i64 b.wear)).setCell ⟨w.heap.size + 1 + 1, 1, none⟩ (.slice (some ⟨g, 0, none⟩) b.pages.length cap4)) :=
      Chg.setCell (S := fun c => c = w.heap.size + 1 + 1) (Chg.setCell (S := fun c => c = w.heap.size + 1 + 1) (Chg.refl _ _) (p := ⟨w.heap.size + 1 + 1, 0, none⟩) (.inr rfl) _) (p := ⟨w.heap.size + 1 + 1, 1, none⟩) (.inr rfl) _
    have hc5 : Chg (fun c => w.heap.size ≤ c) w6 (((((w6.setCell ⟨g, n * 5, none⟩ (.bool true)).setCell ⟨g, n * 5 + 1, none⟩ (.int .i64 fi)).setCell ⟨g, n * 5 + 2, none⟩ (.int .i64 pl)).setCell ⟨g, n * 5 + 3, none⟩ (.int .i64 va)).setCell ⟨g, n * 5 + 4, none⟩ (.int .i64 st)) := chg5 (Chg.refl _ w6) (.inr (by show w.heap.size ≤ g; omega)) _ _ _ _ _ _ _ _ _ _
    have hO := HPut.out.chg hc2 (fun c hc _ hs => by omega)
    have hB := below_own HX.out.2.2.2.1 HX.out.2.2.2.1.size (hc5.trans (hc2.mono fun k _ hk => by omega))
    exact bodyPost_ret (v := .tuple #[.agg #[.int .i64 b.wear, .slice (some ⟨g, 0, none⟩) b.pages.length cap4], .int .i64 n]) (by simp [results, Try.results89, go_sem, r0, r1]) rfl ⟨_, rfl, hO.wide (by omega), hB⟩
  · have HWn := Lib.hid (wrb_no (p := ⟨true, fi, pl, va, st⟩) (show bnext b < 0 by omega))
    have hnd : decide (0 ≤ bnext b) = false := by simpa using hn
    clear hn
    go_wp2_with fail
    rw [HWn.out]
    have hc2 : Chg (fun c => c = w.heap.size + 1 + 1) w6 ((w6.setCell ⟨w.heap.size + 1 + 1, 0, none⟩ (.int .i64 b.wear)).setCell ⟨w.heap.size + 1 + 1, 1, none⟩ (.slice (some ⟨g, 0, none⟩) b.pages.length cap4)) :=
      Chg.setCell (S := fun c => c = w.heap.size + 1 + 1) (Chg.setCell (S := fun c => c = w.heap.size + 1 + 1) (Chg.refl _ _) (p := ⟨w.heap.size + 1 + 1, 0, none⟩) (.inr rfl) _) (p := ⟨w.heap.size + 1 + 1, 1, none⟩) (.inr rfl) _
    have hO := O4.out.chg hc2 (fun c hc _ hs => by omega)
    have hB := below_own HX.out.2.2.2.1 HX.out.2.2.2.1.size (hc2.mono fun k _ hk => by omega)
    exact bodyPost_ret (v := .tuple #[.agg #[.int .i64 b.wear, .slice (some ⟨g, 0, none⟩) b.pages.length cap4], .int .i64 (bnext b)]) (by simp [results, Try.results89, go_sem, r0, r1]) rfl ⟨_, rfl, hO.wide (by omega), hB⟩


end Go.Proofs.Ytjmofmdcegefgaa

