/-
  Texts of this claim, laid together: Drc.
-/
import Derived.Test.YtjmofmdcegefgaaQ30
namespace Go.Proofs.Ytjmofmdcegefgaa
open Go.RowKit
set_option linter.unusedSimpArgs false
set_option linter.unusedVariables false
set_option linter.unnecessarySimpa false
variable {H : Nat}

/-- A change of boxes of heads meets no device. -/
theorem OD.chgH {S : Nat → Prop} {w w' : World} {lo hi : Nat} {v : Value} {d : List Bk} (h : OD w lo hi v d) (hk : Chg S w w') (hs : ∀ b, S b → ∃ cur fr, w.heap[b]? = some (.cells cur 36 fr)) : OD w' lo hi v d := by
  obtain ⟨us, h1, h2, h3, h4⟩ := h
  refine ⟨us, own_chg h1 hk fun b _ he hS => ?_, h2, h3.chg2 hk fun k u b hu he hS => ?_, h4⟩
  · obtain ⟨cur, fr, e1⟩ := hs b hS
    obtain ⟨cur2, e2⟩ := own_type h1 he
    rw [e1] at e2
    simp at e2
  · have hk2 : k < (d.map Bk.pages).length := by rw [← h3.1]; exact (List.getElem?_eq_some_iff.1 hu).1
    have ho : OP w lo u (d.map Bk.pages)[k] := (h3.2.1 k hk2 u hu).1
    obtain ⟨cur, fr, e1⟩ := hs b hS
    obtain ⟨cur2, e2⟩ := own_type ho.1 he
    rw [e1] at e2
    simp at e2

theorem OD.re {w : World} {lo hi n cap : Nat} {a : Option Addr} {d : List Bk} (h : OD w lo hi (.slice a d.length cap) d) (hl : d.length = n) : OD w lo hi (.slice a n cap) d := by
  subst hl; exact h

/-- The loops' state: box T holds heads, the device is the call's own. -/
def DvS (H : Nat) (w : World) (rb q T : Nat) (d : List Bk) (v : Value) (h : Hd) (wr : World) : Prop :=
  Dr H w rb q wr ∧ w.heap.size < T ∧ wr.heap[T]? = some (hbox h) ∧ wr.heap[w.heap.size]? = some (.cells #[.int .i64 0, .int .i64 0, .int .i64 0] 36) ∧ OD wr (w.heap.size + 1) wr.heap.size v d
theorem DvS.pick {w wr w' : World} {rb q q' T : Nat} {d : List Bk} {v : Value} {h : Hd} (hs : DvS H w rb q T d v h wr) (c : Chg (· = rb) wr w') (r : RdLe H w' rb q') : DvS H w rb q' T d v h w' := by
  obtain ⟨h1, h2, h3, h4, h5⟩ := hs
  have hrb := h1.2.2
  exact ⟨h1.pick c r, h2, box_chg h3 c (by omega), box_chg h4 c (by omega), (h5.chg c (fun k hk _ hs => by omega)).mono c.size⟩
theorem DvS.below {w wr w' : World} {rb q T : Nat} {d : List Bk} {v : Value} {h : Hd} (hs : DvS H w rb q T d v h wr) (b : Below wr.heap.size wr w') : DvS H w rb q T d v h w' :=
  ⟨hs.1.below b, hs.2.1, box_keep hs.2.2.1 b, box_keep hs.2.2.2.1 b, (hs.2.2.2.2.below b).mono b.size⟩
/-- The heads' box laid anew, another device. -/
theorem DvS.put {w wr : World} {rb q T : Nat} {d d2 : List Bk} {v v2 : Value} {h h2 : Hd} (hs : DvS H w rb q T d v h wr) (o : OD wr (w.heap.size + 1) wr.heap.size v2 d2) :
    DvS H w rb q T d2 v2 h2 (((wr.setCell ⟨T, 0, none⟩ (.int .i64 h2.hot)).setCell ⟨T, 1, none⟩ (.int .i64 h2.warm)).setCell ⟨T, 2, none⟩ (.int .i64 h2.cold)) := by
  obtain ⟨k1, k2, k3, k4, k5⟩ := hs
  have hc : Chg (fun c => c = T) wr (((wr.setCell ⟨T, 0, none⟩ (.int .i64 h2.hot)).setCell ⟨T, 1, none⟩ (.int .i64 h2.warm)).setCell ⟨T, 2, none⟩ (.int .i64 h2.cold)) := Chg.setCell (S := fun c => c = T) (Chg.setCell (S := fun c => c = T) (Chg.setCell (S := fun c => c = T) (Chg.refl _ _) (p := ⟨T, 0, none⟩) (.inr rfl) _) (p := ⟨T, 1, none⟩) (.inr rfl) _) (p := ⟨T, 2, none⟩) (.inr rfl) _
  unfold hbox at k3
  exact ⟨k1.own (hc.mono fun k _ hk => by omega), k2, box3_set k3, box_chg k4 hc (by omega), (o.chgH hc (fun c hs => by rw [hs]; exact ⟨_, _, k3⟩)).mono hc.size⟩

/-- A block's wear set. -/
theorem DvS.setw {w wr : World} {rb q T : Nat} {d : List Bk} {v : Value} {h : Hd} (hs : DvS H w rb q T d v h wr) (k : Nat) (hk : k < d.length) :
    ∃ (a cap : Nat), v = .slice (some ⟨a, 0, none⟩) d.length cap ∧ (∃ u, wr.cell? ⟨a, k * 2, none⟩ = some u) ∧ wr.frozen? ⟨a, k * 2, none⟩ = false ∧
      ∀ x, I64 x → DvS H w rb q T (d.set k ⟨x, d[k].pages⟩) v h (wr.setCell ⟨a, k * 2, none⟩ (.int .i64 x)) := by
  obtain ⟨k1, k2, k3, k4, k5⟩ := hs
  obtain ⟨a, cap, rfl, -, g1, g2, ⟨g3, g4⟩, g5⟩ := k5.setw k hk
  have hT : ¬ T = a := fun e => by
    subst e
    obtain ⟨us, o1, -⟩ := k5
    obtain ⟨cur, e⟩ := own_type o1 rfl
    rw [k3] at e
    simp [hbox] at e
  refine ⟨a, cap, rfl, g1, g2, fun x hx => ?_⟩
  have hc : Chg (fun c => c = a) wr (wr.setCell ⟨a, k * 2, none⟩ (.int .i64 x)) := Chg.setCell (S := fun c => c = a) (Chg.refl _ _) (p := ⟨a, k * 2, none⟩) (.inr rfl) _
  exact ⟨k1.own (hc.mono fun c _ e => by have := k1.size; omega), k2, box_chg k3 hc hT, box_chg k4 hc (by omega), (g5 x hx).mono hc.size⟩

/-- The boxes alone. -/
def DvB (H : Nat) (w : World) (rb q T : Nat) (h : Hd) (wr : World) : Prop :=
  Dr H w rb q wr ∧ w.heap.size < T ∧ wr.heap[T]? = some (hbox h) ∧ wr.heap[w.heap.size]? = some (.cells #[.int .i64 0, .int .i64 0, .int .i64 0] 36)
theorem DvS.b {w wr : World} {rb q T : Nat} {d : List Bk} {v : Value} {h : Hd} (hs : DvS H w rb q T d v h wr) : DvB H w rb q T h wr := ⟨hs.1, hs.2.1, hs.2.2.1, hs.2.2.2.1⟩
theorem DvB.below {w wr w' : World} {rb q T : Nat} {h : Hd} (hs : DvB H w rb q T h wr) (b : Below wr.heap.size wr w') : DvB H w rb q T h w' :=
  ⟨hs.1.below b, hs.2.1, box_keep hs.2.2.1 b, box_keep hs.2.2.2 b⟩
/-- Behind an append to the device. -/
theorem DvS.app {w wr w4 : World} {rb q T : Nat} {d : List Bk} {v : Value} {h : Hd} (hs : DvS H w rb q T d v h wr) (c : Chg (fun b => v.ownBlock = some b) wr w4) : DvB H w rb q T h w4 := by
  obtain ⟨k1, k2, k3, k4, k5⟩ := hs
  obtain ⟨us, o1, -⟩ := k5
  refine ⟨k1.own (c.mono fun k _ hk => ?_), k2, box_chg k3 c fun hT => ?_, box_chg k4 c fun hT => ?_⟩
  · have := (o1.lt k hk).1; omega
  · obtain ⟨cur, e⟩ := own_type o1 hT
    rw [k3] at e
    simp [hbox] at e
  · have := (o1.lt _ hT).1; omega
theorem DvB.s {w wr : World} {rb q T : Nat} {d : List Bk} {v : Value} {h : Hd} (hs : DvB H w rb q T h wr) (o : OD wr (w.heap.size + 1) wr.heap.size v d) : DvS H w rb q T d v h wr := ⟨hs.1, hs.2.1, hs.2.2.1, hs.2.2.2, o⟩

/-- 'append(out, b)' of a block that is only read. -/
theorem ap_blockR {w : World} {ops : Array Oper} {rest : List Oper} {o : Oper} {a : Act} {Q : Exit → Act → World → Prop} (hgd : o.guard = none) (s x : Operand)
    (ho : o.op = .call { callee := .builtin .append, args := #[s, x], argTypes := #[23, 23] }) (lo L hi8 : Nat) (sl : Value) (d : List Bk) (u8 : Value) (b : Bk) (hs : a.eval s = sl) (hO : OD w lo L sl d) (h8 : RP w L hi8 u8 b.pages) (hw : I64 b.wear) (hL : L ≤ w.heap.size) (h8h : hi8 ≤ w.heap.size) (hlo : lo ≤ L)
    (hx : a.eval x = .slice (some ⟨w.heap.size, 0, none⟩) 1 1) (hn : d.length ≤ 1000000)
    (h : ∀ v' w', RD w' lo w'.heap.size v' (d ++ [b]) → Chg (fun b => sl.ownBlock = some b) w w' → wpList Try.prog ops Q rest (a.put o.dst v') w') : wpList Try.prog ops Q (o :: rest) a (w.alloc (.cells #[.int .i64 b.wear, u8] 44)) := by
  obtain ⟨i0, hi0, hz0, hz1, hz2⟩ := info_parts Try.infoBk
  obtain ⟨us, k1, k2, k3, k4⟩ := hO
  obtain ⟨a8, c8, b8, f8, rfl, -⟩ := h8.open
  have hl : us.length = d.length := by rw [k3.1, List.length_map]
  have hc2 := (two_at (heap_alloc_new w (.cells #[.int .i64 b.wear, .slice a8 b.pages.length c8] 44))).1
  refine wpList_append_own (w.alloc (.cells #[.int .i64 b.wear, .slice a8 b.pages.length c8] 44)) hgd s x 23 ho lo 44 i0 (.agg #[.int .i64 0, .slice none 0 0]) 2 32 Try.underlying23 hi0 hz0 hz1 hz2 rfl (by decide) sl d.length (bc d us) hs (k1.alloc _) ⟨w.heap.size, 0, none⟩ 1 1 [.int .i64 b.wear, .slice a8 b.pages.length c8] hx rfl (fun j u hj => ?_) (fun u hu => ?_) (by simp [maxLen]; omega) (by omega) (by simp; omega) fun v' w' h1 h2 _ => ?_
  · have hj2 : j = 0 ∨ j = 1 := by
      have := (List.getElem?_eq_some_iff.1 hj).1
      simp at this; omega
    rcases hj2 with rfl | rfl
    · simp at hj; subst hj; simpa [Addr.add] using hc2.1
    · simp at hj; subst hj; simpa [Addr.add] using hc2.2
  · simp at hu
    rcases hu with rfl | rfl <;> rfl
  have hc : Chg (fun b => sl.ownBlock = some b) w w' := ((Chg.refl _ w).alloc _).grown h2 (fun b hb => .inr hb)
  have hin : Inn PgRow w' lo L us (d.map Bk.pages) := k3.chg2 hc fun k u' b hu' hb1 hb2 => by
    have hk : k < (d.map Bk.pages).length := by rw [← k3.1]; exact (List.getElem?_eq_some_iff.1 hu').1
    have ho' : OP w lo u' (d.map Bk.pages)[k] := (k3.2.1 k hk u' hu').1
    exact own_apart ho'.1 k1 (by decide) b hb1 hb2
  have h8' : RP w' L hi8 (.slice a8 b.pages.length c8) b.pages := h8.chg hc fun g hg1 hg2 hs => by have := k2 g hs; omega
  refine h v' w' ⟨us ++ [.slice a8 b.pages.length c8], by simp [hl], ?_, fun k hk u hu => ?_⟩ hc
  · rw [bc_append d us b _ hl]
    have := reads_own h1
    simpa using this
  · by_cases hkl : k < d.length
    · rw [List.getElem?_append_left (by omega)] at hu
      have hg : (d ++ [b])[k] = d[k] := List.getElem_append_left hkl
      rw [hg]
      have hk' : k < (d.map Bk.pages).length := by rw [List.length_map]; exact hkl
      have ho' : OP w' lo u (d.map Bk.pages)[k] := (hin.2.1 k hk' u hu).1
      rw [List.getElem_map] at ho'
      exact ⟨ho'.rp, k4 _ (List.getElem_mem hkl)⟩
    · have ek : k = d.length := by simp at hk; omega
      have hg : (d ++ [b])[k] = b := by simp [ek]
      rw [hg]
      rw [List.getElem?_append_right (by omega)] at hu
      simp [ek, hl] at hu
      subst hu
      exact ⟨h8'.wide hlo (Nat.le_trans h8h hc.size), hw⟩

/-- The result's box is laid. -/
theorem dev_end {w W : World} {rb q hi T : Nat} {d : List Bk} {v : Value} {h : Hd} (hB : DvB H w rb q T h W) (hr : RD W (w.heap.size + 1) hi v d) (hh : hi ≤ W.heap.size) :
    RD (((W.setCell ⟨w.heap.size, 0, none⟩ (.int .i64 h.hot)).setCell ⟨w.heap.size, 1, none⟩ (.int .i64 h.warm)).setCell ⟨w.heap.size, 2, none⟩ (.int .i64 h.cold)) w.heap.size (((W.setCell ⟨w.heap.size, 0, none⟩ (.int .i64 h.hot)).setCell ⟨w.heap.size, 1, none⟩ (.int .i64 h.warm)).setCell ⟨w.heap.size, 2, none⟩ (.int .i64 h.cold)).heap.size v d ∧
    Dr H w rb q (((W.setCell ⟨w.heap.size, 0, none⟩ (.int .i64 h.hot)).setCell ⟨w.heap.size, 1, none⟩ (.int .i64 h.warm)).setCell ⟨w.heap.size, 2, none⟩ (.int .i64 h.cold)) := by
  have hc : Chg (fun c => c = w.heap.size) W (((W.setCell ⟨w.heap.size, 0, none⟩ (.int .i64 h.hot)).setCell ⟨w.heap.size, 1, none⟩ (.int .i64 h.warm)).setCell ⟨w.heap.size, 2, none⟩ (.int .i64 h.cold)) := Chg.setCell (S := fun c => c = w.heap.size) (Chg.setCell (S := fun c => c = w.heap.size) (Chg.setCell (S := fun c => c = w.heap.size) (Chg.refl _ _) (p := ⟨w.heap.size, 0, none⟩) (.inr rfl) _) (p := ⟨w.heap.size, 1, none⟩) (.inr rfl) _) (p := ⟨w.heap.size, 2, none⟩) (.inr rfl) _
  exact ⟨(hr.chg hc (fun k hk _ hs => by omega)).wide (by omega) (Nat.le_trans hh hc.size), hB.1.own (hc.mono fun k _ hk => by omega)⟩
def slN : Value → Nat
  | .slice _ n _ => n
  | _ => 0

/-- Some device and heads. -/
def DevR (H rb q : Nat) (w : World) (e : Ending) (w' : World) : Prop := ∃ (v : Value) (d : List Bk) (h : Hd), e = .returned (.tuple #[v, hdv h]) ∧ RD w' w.heap.size w'.heap.size v d ∧ d.length ≤ 13 ∧ (∀ b ∈ d, b.pages.length ≤ 4) ∧ HdI h ∧ Dr H w rb (q + 200) w'

set_option maxHeartbeats 8000000 in
set_option maxRecDepth 8000 in
theorem device_any (w : World) (rb q : Nat) (m : Int) (hr : RdLe H w rb q) (hq : q ≤ 5000) (hm1 : 0 ≤ m) (hm : m ≤ 1000) : Calls Try.prog 59 #[.pointer (some ⟨rb, 0, none⟩), .int .i64 m] w (DevR H rb q w) := by
  have D := Lib.hid ((Dr.start hr).below (balloc w (.cells #[.int .i64 0, .int .i64 0, .int .i64 0] 36)))
  have X := Lib.hid (heap_alloc_new w (.cells #[.int .i64 0, .int .i64 0, .int .i64 0] 36))
  have hrbw := hr.lt
  clear hr
  go_enter Try.func59, Try.ntmps59
  go_wp2_with fail
  refine (pick_le _ rb q 4 D.out.1 (by omega) (by omega) (by omega)).mono ?_
  rintro e w1 ⟨x, rfl, x0, x1, r1, c1, -⟩
  replace X := Lib.hid (D.out.box (Nat.le_refl _) c1 X.out)
  replace D := Lib.hid (D.out.pick c1 r1)
  obtain ⟨n, rfl⟩ := Int.eq_ofNat_of_zero_le x0
  clear r1 c1
  have CN := specNdv_any (n + 2) (by omega) (by omega) w1
  rw [show ((n + 2 : Nat) : Int) = 2 + (n : Int) by omega] at CN
  have HCN := Lib.hid CN
  clear CN
  go_wp2_with fail
  refine HCN.out.mono ?_
  rintro e w2 ⟨v2, rfl, o2, b2⟩
  have hz1 := D.out.size
  have hlt1 := (Array.getElem?_eq_some_iff.1 X.out).1
  have HS : Hid (DvS H w rb (q + 1) w2.heap.size (D0 (n + 2)) v2 ⟨-1, -1, -1⟩ (w2.alloc (hbox ⟨-1, -1, -1⟩))) :=
    Lib.hid ⟨D.out.below (bup2 b2 (balloc _ _)), Nat.lt_of_lt_of_le hlt1 b2.size, heap_alloc_new w2 _, box_keep X.out (bup2 b2 (balloc _ _)), ((o2.below (balloc _ _)).wide (by omega)).mono (balloc _ _).size⟩
  have hdk : dvOk (D0 (n + 2)) = true := D0_ok (by omega) (by omega)
  have HK := Lib.hid (And.intro hdk (hd0_ok hdk))
  clear o2 b2 D X hdk HCN
  obtain ⟨T, hT⟩ : ∃ T, T = w2.heap.size := ⟨_, rfl⟩
  rw [← hT] at HS
  have HT := Lib.hid hT.symm
  unfold hbox at HS
  simp only at HS
  clear hT
  go_wp2_with fail
  refine (pick_le _ rb _ 20 HS.out.1.1 (by omega) (by omega) (by omega)).mono ?_
  rintro e w4 ⟨kk, rfl, kk0, kk1, r1, c1, -⟩
  replace HS := Lib.hid (HS.out.pick c1 r1)
  obtain ⟨kn, rfl⟩ := Int.eq_ofNat_of_zero_le kk0
  rw [HT.out]
  clear r1 c1
  go_wp2_with fail
  go_loopw [6, 8, 9, 10, 11, 12] (fun v s i _ _ _ wr => ∃ (j : Nat) (st : Int) (d : List Bk) (h : Hd), j ≤ 19 ∧ i = .int .i64 j ∧ s = .int .i64 st ∧ 1 ≤ st ∧ st + j ≤ 20 ∧ DvS H w rb (q + 2 + 4 * (19 - j)) T d v h wr ∧ dvOk d = true ∧ hdOk d h = true) (fun _ _ i _ _ _ _ => (intOf i).toNat)
  case atStart => exact ⟨kn, 1, _, _, by omega, rfl, rfl, by omega, by omega, ⟨HS.out.1.up (by omega), HS.out.2⟩, HK.out.1, HK.out.2⟩
  case round =>
    obtain ⟨j, st, d0, ⟨A, B, C⟩, hj, rfl, rfl, hs0, hs1, hR, hdv, hdk⟩ := hrel
    obtain ⟨w5, rfl⟩ : ∃ w5 : World, w5 = wr := ⟨_, rfl⟩
    clear HS HK
    have hl12 := dv_len hdv
    obtain ⟨A0, cap0, rfl, hA0, hA1⟩ : ∃ A cap, u6 = .slice (some ⟨A, 0, none⟩) d0.length cap ∧ w.heap.size + 1 ≤ A ∧ d0.length ≤ cap := by
      obtain ⟨us, k1, -⟩ := hR.2.2.2.2
      obtain ⟨A, c, e, x1, -, x3⟩ := own_shape1 k1 (show 0 < d0.length by omega)
      exact ⟨A, c, e, x1, x3⟩
    have hTw : ¬ T = w.heap.size := by have := hR.2.1; omega
    have hTw2 : ¬ w.heap.size = T := by omega
    have HR := Lib.hid hR
    have HD := Lib.hid (And.intro hdv hdk)
    have hx := hR.2.2.1
    unfold hbox at hx
    simp only at hx
    obtain ⟨⟨t0, t1, t2⟩, t3, t4, t5⟩ := three_at hx
    clear hR hdv hdk hx
    by_cases hj0 : 0 < j
    · have hji : decide (0 < (j : Int)) = true := by simpa using hj0
      have hrb5 : rb < w5.heap.size := Nat.lt_of_lt_of_le hrbw HR.out.1.size
      have hz5 := HR.out.1.size
      have hTr : T ≠ rb := by have := HR.out.2.1; omega
      have k0 := And.intro t0 (show ¬ T = rb from hTr)
      have k1 := And.intro t1 (show ¬ T = rb from hTr)
      have k2 := And.intro t2 (show ¬ T = rb from hTr)
      have HRD := Lib.hid HR.out.2.2.2.2.rd
      have rd0 : RdLe H w5.drew rb (q + 2 + 4 * (19 - j)) := HR.out.1.1.kept (bdrew _)
      have HAp := Lib.hid (fun (k : Nat) (p : Pg) (wx : World) (hx : RD wx (w.heap.size + 1) w5.heap.size (.slice (some ⟨A0, 0, none⟩) d0.length cap0) d0) (h3 : k < 3) (hp : pgOk p = true) (hf : p.full = true) => specApp_any (.slice (some ⟨A0, 0, none⟩) d0.length cap0) d0 ⟨A, B, C⟩ k p _ _ wx hx HD.out.2 h3 hp hf)
      unfold hdv at HAp
      simp only at HAp
      clear t0 t1 t2 t3 t4 t5
      go_upto_region 7 with fail
      go_cut [10, 11, 12] (fun s10 s11 s12 wx => ∃ (Bx : Nat) (v6 : Value) (d6 : List Bk) (h6 : Hd) (x6 : Int), s10 = v6 ∧ s11 = .pointer (some ⟨Bx, 0, none⟩) ∧ s12 = .int .i64 x6 ∧ wx.heap[Bx]? = some (hbox h6) ∧ OD wx w5.heap.size wx.heap.size v6 d6 ∧ dvOk d6 = true ∧ d6.length = d0.length ∧ hdOk d6 h6 = true ∧ RdLe H wx rb (q + 2 + 4 * (19 - j) + 4) ∧ Chg (· = rb) w5 wx ∧ w5.heap.size ≤ Bx)
      case first =>
        refine region_held_n 16 (S := fun w' => Chg (· = rb) w5 w') (by kernel_rfl) (by kernel_rfl) (below_chg (bdrew _) _) (fun hS0 => ?_)
        refine hs_take (fuel := 15) 0 (some 26) (.slice (some ⟨A0, 0, none⟩) d0.length cap0) rfl rfl (by kernel_rfl) (by kernel_rfl) (by kernel_rfl) (fun _ _ _ h => h) (by rfl) (fun wq hq => ?_) (by assumption) ?_
        · go_simp
        simp only [Act.put, List.setIfInBounds_toArray, List.set_cons_zero, List.set_cons_succ]
        refine hs_take (fuel := 14) 1 (some 27) (Value.agg #[.int .i64 A, .int .i64 B, .int .i64 C]) rfl rfl (by kernel_rfl) (by kernel_rfl) (by kernel_rfl) (fun _ _ _ h => h) (by rfl) (fun wq hq => ?_) (by assumption) ?_
        · have p0 := cell_chg hq k0
          have p1 := cell_chg hq k1
          have p2 := cell_chg hq k2
          go_simp
        simp only [Act.put, List.setIfInBounds_toArray, List.set_cons_zero, List.set_cons_succ]
        refine hs_take (fuel := 13) 2 (some 28) (.pointer (some ⟨rb, 0, none⟩)) rfl rfl (by kernel_rfl) (by kernel_rfl) (by kernel_rfl) (fun _ _ _ h => h) (by rfl) (fun wq hq => ?_) (by assumption) ?_
        · go_simp
        simp only [Act.put, List.setIfInBounds_toArray, List.set_cons_zero, List.set_cons_succ]
        refine hs_take (fuel := 12) 4 (some 30) (.pointer (some ⟨rb, 0, none⟩)) rfl rfl (by kernel_rfl) (by kernel_rfl) (by kernel_rfl) (fun _ _ _ h => h) (by rfl) (fun wq hq => ?_) (by assumption) ?_
        · go_simp
        simp only [Act.put, List.setIfInBounds_toArray, List.set_cons_zero, List.set_cons_succ]
        refine hs_take (fuel := 11) 5 (some 31) (.int .i64 st) rfl rfl (by kernel_rfl) (by kernel_rfl) (by kernel_rfl) (fun _ _ _ h => h) (by rfl) (fun wq hq => ?_) (by assumption) ?_
        · go_simp
        simp only [Act.put, List.setIfInBounds_toArray, List.set_cons_zero, List.set_cons_succ]
        refine wpAnyH_ready (fuel := 10) (rs := [3, 12]) (by kernel_rfl) (by simp) (AllReadyH.cons rfl (fun K0 hK0 => ?_) (AllReadyH.cons rfl (fun K0 hK0 => ?_) AllReadyH.nil))
        · go_simp
          refine (pick_le _ rb _ 3 rd0 (by omega) (by omega) (by omega)).mono ?_
          rintro e w22 ⟨kk, rfl, kk0, kk1, rd2, ccw22, -⟩
          obtain ⟨k, rfl⟩ := Int.eq_ofNat_of_zero_le kk0
          have hS2 := hS0.trans ccw22
          refine hK0.out _ _ hS2 (fun _ => ?_)

          refine wpAnyH_ready (fuel := 9) (rs := [6, 12]) (by kernel_rfl) (by simp) (AllReadyH.cons rfl (fun K2 hK2 => ?_) (AllReadyH.cons rfl (fun K2 hK2 => ?_) AllReadyH.nil))
          · go_simp
            refine (full_any _ rb _ st rd2 (by omega)).mono ?_
            rintro e w24 ⟨f, p, v, rfl, hf, hp, hv, rd4, ccw24, -⟩
            unfold pgv
            simp only
            have hS4 := hS2.trans ccw24
            refine hK2.out _ _ hS4 (fun _ => ?_)

            refine wpAnyH_ready (fuel := 8) (rs := [7, 12]) (by kernel_rfl) (by simp) (AllReadyH.cons rfl (fun K4 hK4 => ?_) (AllReadyH.cons rfl (fun K4 hK4 => ?_) AllReadyH.nil))
            · go_simp
              refine (HAp.out k ⟨true, f, p, v, st⟩ _ (RD.chg HRD.out (show Chg (· = rb) w5 w24 from by assumption) (fun c hc _ hs => by omega)) (by omega) (by unfold pgOk; simp [inB]; omega) rfl).mono ?_
              rintro e w26 ⟨v6, d6, h6, x6, rfl, o6, dv6, dl6, hk6, b6⟩
              have ccw26 : Chg (· = rb) w24 w26 := below_chg b6 _
              have rd6 := rd4.kept b6
              obtain ⟨a6, cap6, b6', off6, rfl, -⟩ := o6.rd.open
              have hzw : w5.heap.size ≤ w24.heap.size := (show Chg (· = rb) w5 w24 from by assumption).size
              obtain ⟨A6, B6, C6⟩ := h6
              unfold hdv
              simp only
              have hS6 := hS4.trans ccw26
              refine hK4.out _ _ hS6 (fun _ => ?_)
              refine hs_take (fuel := 7) 8 (some 25) (Value.tuple #[Value.slice a6 d6.length cap6, Value.agg #[.int .i64 A6, .int .i64 B6, .int .i64 C6], .int .i64 x6]) rfl rfl (by kernel_rfl) (by kernel_rfl) (by kernel_rfl) (fun _ _ _ h => h) (by rfl) (fun wq hq => ?_) (by assumption) ?_
              · go_simp
              simp only [Act.put, List.setIfInBounds_toArray, List.set_cons_zero, List.set_cons_succ]
              refine hs_take (fuel := 6) 9 (some 34) (Value.slice a6 d6.length cap6) rfl rfl (by kernel_rfl) (by kernel_rfl) (by kernel_rfl) (fun _ _ _ h => h) (by rfl) (fun wq hq => ?_) (by assumption) ?_
              · go_simp
              simp only [Act.put, List.setIfInBounds_toArray, List.set_cons_zero, List.set_cons_succ]
              refine hs_take (fuel := 5) 10 (some 35) (Value.agg #[.int .i64 A6, .int .i64 B6, .int .i64 C6]) rfl rfl (by kernel_rfl) (by kernel_rfl) (by kernel_rfl) (fun _ _ _ h => h) (by rfl) (fun wq hq => ?_) (by assumption) ?_
              · go_simp
              simp only [Act.put, List.setIfInBounds_toArray, List.set_cons_zero, List.set_cons_succ]
              refine hs_take (fuel := 4) 11 (some 36) (.int .i64 x6) rfl rfl (by kernel_rfl) (by kernel_rfl) (by kernel_rfl) (fun _ _ _ h => h) (by rfl) (fun wq hq => ?_) (by assumption) ?_
              · go_simp
              simp only [Act.put, List.setIfInBounds_toArray, List.set_cons_zero, List.set_cons_succ]
              refine wpAnyH_ready (fuel := 3) (rs := [12]) (by kernel_rfl) (by simp) (AllReadyH.cons rfl (fun K6 hK6 => ?_) AllReadyH.nil)
              go_simp
              have hS8 : Chg (· = rb) w5 (w26.alloc (.cells #[.int .i64 0, .int .i64 0, .int .i64 0] 36)) := hS6.trans (below_chg (balloc _ _) _)
              have rd8 := rd6.kept (balloc w26 (.cells #[.int .i64 0, .int .i64 0, .int .i64 0] 36))
              have hpx : (w26.alloc (.cells #[.int .i64 0, .int .i64 0, .int .i64 0] 36)).heap[w26.heap.size]? = some (.cells #[.int .i64 0, .int .i64 0, .int .i64 0] 36) := heap_alloc_new w26 _
              have hBr : rb < w26.heap.size := Nat.lt_of_lt_of_le hrb5 hS6.size
              refine hK6.out _ _ hS8 (fun _ => ?_)
              refine hs_take (fuel := 2) 13 (some 10) (Value.slice a6 d6.length cap6) rfl rfl (by kernel_rfl) (by kernel_rfl) (by kernel_rfl) (fun _ _ _ h => h) (by rfl) (fun wq hq => ?_) (by assumption) ?_
              · go_simp
              simp only [Act.put, List.setIfInBounds_toArray, List.set_cons_zero, List.set_cons_succ]
              have hSm : Chg (· = rb) w5 (w26.alloc (.cells #[.int .i64 A6, .int .i64 B6, .int .i64 C6] 36)) := (show Chg (· = rb) w5 w26 from by assumption).trans (below_chg (balloc _ _) _)
              refine wpAnyH_ready (fuel := 1) (rs := [14]) (by kernel_rfl) (by simp) (AllReadyH.cons rfl (fun K hK => ?_) AllReadyH.nil)
              go_simp
              refine hK.out _ _ ?_ (fun hS => ?_)
              · exact hSm
              refine hs_take (fuel := 0) 15 (some 12) (.int .i64 x6) rfl rfl (by kernel_rfl) (by kernel_rfl) (by kernel_rfl) (fun _ _ _ h => h) (by rfl) (fun wq hq => ?_) (by assumption) ?_
              · go_simp
              simp only [Act.put, List.setIfInBounds_toArray, List.set_cons_zero, List.set_cons_succ]
              refine wpAnyH_done (by kernel_rfl) ?_ _
              go_wp2_with fail
              go_meet
              exact ⟨_, _, d6, ⟨A6, B6, C6⟩, x6, rfl, rfl, rfl, heap_alloc_new w26 _, (((o6.below (balloc _ _)).wide hzw).mono (balloc _ _).size).re dl6, dv6, dl6, hk6, (RdLe.kept (w := w26) (by assumption) (balloc _ _)).up (by omega), hSm, (show Chg (· = rb) w5 w26 from by assumption).size⟩
            · go_simp
              have hS9 : Chg (· = rb) w5 (w24.alloc (.cells #[.int .i64 0, .int .i64 0, .int .i64 0] 36)) := hS4.trans (below_chg (balloc _ _) _)
              have rd9 := rd4.kept (balloc w24 (.cells #[.int .i64 0, .int .i64 0, .int .i64 0] 36))
              have hpx : (w24.alloc (.cells #[.int .i64 0, .int .i64 0, .int .i64 0] 36)).heap[w24.heap.size]? = some (.cells #[.int .i64 0, .int .i64 0, .int .i64 0] 36) := heap_alloc_new w24 _
              have hBr : rb < w24.heap.size := Nat.lt_of_lt_of_le hrb5 hS4.size
              refine hK4.out _ _ hS9 (fun _ => ?_)
              refine wpAnyH_ready (fuel := 7) (rs := [7]) (by kernel_rfl) (by simp) (AllReadyH.cons rfl (fun K9 hK9 => ?_) AllReadyH.nil)
              go_simp
              refine (HAp.out k ⟨true, f, p, v, st⟩ _ (RD.chg HRD.out (show Chg (· = rb) w5 (w24.alloc (.cells #[.int .i64 0, .int .i64 0, .int .i64 0] 36)) from by assumption) (fun c hc _ hs => by omega)) (by omega) (by unfold pgOk; simp [inB]; omega) rfl).mono ?_
              rintro e w31 ⟨v6, d6, h6, x6, rfl, o6, dv6, dl6, hk6, b6⟩
              have ccw31 : Chg (· = rb) (w24.alloc (.cells #[.int .i64 0, .int .i64 0, .int .i64 0] 36)) w31 := below_chg b6 _
              have rd11 := rd9.kept b6
              obtain ⟨a6, cap6, b6', off6, rfl, -⟩ := o6.rd.open
              have hzw : w5.heap.size ≤ (w24.alloc (.cells #[.int .i64 0, .int .i64 0, .int .i64 0] 36)).heap.size := (show Chg (· = rb) w5 (w24.alloc (.cells #[.int .i64 0, .int .i64 0, .int .i64 0] 36)) from by assumption).size
              obtain ⟨A6, B6, C6⟩ := h6
              unfold hdv
              simp only
              have hS11 := hS9.trans ccw31
              replace hpx := box_chg hpx ccw31 (by omega)
              refine hK9.out _ _ hS11 (fun _ => ?_)
              refine hs_take (fuel := 6) 8 (some 25) (Value.tuple #[Value.slice a6 d6.length cap6, Value.agg #[.int .i64 A6, .int .i64 B6, .int .i64 C6], .int .i64 x6]) rfl rfl (by kernel_rfl) (by kernel_rfl) (by kernel_rfl) (fun _ _ _ h => h) (by rfl) (fun wq hq => ?_) (by assumption) ?_
              · go_simp
              simp only [Act.put, List.setIfInBounds_toArray, List.set_cons_zero, List.set_cons_succ]
              refine hs_take (fuel := 5) 9 (some 34) (Value.slice a6 d6.length cap6) rfl rfl (by kernel_rfl) (by kernel_rfl) (by kernel_rfl) (fun _ _ _ h => h) (by rfl) (fun wq hq => ?_) (by assumption) ?_
              · go_simp
              simp only [Act.put, List.setIfInBounds_toArray, List.set_cons_zero, List.set_cons_succ]
              refine hs_take (fuel := 4) 10 (some 35) (Value.agg #[.int .i64 A6, .int .i64 B6, .int .i64 C6]) rfl rfl (by kernel_rfl) (by kernel_rfl) (by kernel_rfl) (fun _ _ _ h => h) (by rfl) (fun wq hq => ?_) (by assumption) ?_
              · go_simp
              simp only [Act.put, List.setIfInBounds_toArray, List.set_cons_zero, List.set_cons_succ]
              refine hs_take (fuel := 3) 11 (some 36) (.int .i64 x6) rfl rfl (by kernel_rfl) (by kernel_rfl) (by kernel_rfl) (fun _ _ _ h => h) (by rfl) (fun wq hq => ?_) (by assumption) ?_
              · go_simp
              simp only [Act.put, List.setIfInBounds_toArray, List.set_cons_zero, List.set_cons_succ]
              refine hs_take (fuel := 2) 13 (some 10) (Value.slice a6 d6.length cap6) rfl rfl (by kernel_rfl) (by kernel_rfl) (by kernel_rfl) (fun _ _ _ h => h) (by rfl) (fun wq hq => ?_) (by assumption) ?_
              · go_simp
              simp only [Act.put, List.setIfInBounds_toArray, List.set_cons_zero, List.set_cons_succ]
              have hc : Chg (fun c => c = w24.heap.size) w31 (((w31.setCell ⟨w24.heap.size, 0, none⟩ (.int .i64 A6)).setCell ⟨w24.heap.size, 1, none⟩ (.int .i64 B6)).setCell ⟨w24.heap.size, 2, none⟩ (.int .i64 C6)) := Chg.setCell (S := fun c => c = w24.heap.size) (Chg.setCell (S := fun c => c = w24.heap.size) (Chg.setCell (S := fun c => c = w24.heap.size) (Chg.refl _ _) (p := ⟨w24.heap.size, 0, none⟩) (.inr rfl) _) (p := ⟨w24.heap.size, 1, none⟩) (.inr rfl) _) (p := ⟨w24.heap.size, 2, none⟩) (.inr rfl) _
              have hBz : w5.heap.size ≤ w24.heap.size := (show Chg (· = rb) w5 w24 from by assumption).size
              have hSm : Chg (· = rb) w5 (((w31.setCell ⟨w24.heap.size, 0, none⟩ (.int .i64 A6)).setCell ⟨w24.heap.size, 1, none⟩ (.int .i64 B6)).setCell ⟨w24.heap.size, 2, none⟩ (.int .i64 C6)) := hS11.own (hc.mono fun k _ hk => by omega)
              refine wpAnyH_ready (fuel := 1) (rs := [14]) (by kernel_rfl) (by simp) (AllReadyH.cons rfl (fun K hK => ?_) AllReadyH.nil)
              obtain ⟨⟨e0, e1, e2⟩, e3, e4, e5⟩ := three_at hpx
              go_simp
              refine hK.out _ _ ?_ (fun hS => ?_)
              · exact hSm
              refine hs_take (fuel := 0) 15 (some 12) (.int .i64 x6) rfl rfl (by kernel_rfl) (by kernel_rfl) (by kernel_rfl) (fun _ _ _ h => h) (by rfl) (fun wq hq => ?_) (by assumption) ?_
              · go_simp
              simp only [Act.put, List.setIfInBounds_toArray, List.set_cons_zero, List.set_cons_succ]
              refine wpAnyH_done (by kernel_rfl) ?_ _
              go_wp2_with fail
              go_meet
              exact ⟨_, _, d6, ⟨A6, B6, C6⟩, x6, rfl, rfl, rfl, box3_set hpx, (((o6.chgH hc (fun c hs => by rw [hs]; exact ⟨_, _, hpx⟩)).wide hzw).mono hc.size).re dl6, dv6, dl6, hk6, (RdLe.chg rd11 hc (fun c hc2 hs => by omega)).up (by omega), hSm, hBz⟩
          · go_simp
            have hS12 : Chg (· = rb) w5 (w22.alloc (.cells #[.int .i64 0, .int .i64 0, .int .i64 0] 36)) := hS2.trans (below_chg (balloc _ _) _)
            have rd12 := rd2.kept (balloc w22 (.cells #[.int .i64 0, .int .i64 0, .int .i64 0] 36))
            have hpx : (w22.alloc (.cells #[.int .i64 0, .int .i64 0, .int .i64 0] 36)).heap[w22.heap.size]? = some (.cells #[.int .i64 0, .int .i64 0, .int .i64 0] 36) := heap_alloc_new w22 _
            have hBr : rb < w22.heap.size := Nat.lt_of_lt_of_le hrb5 hS2.size
            refine hK2.out _ _ hS12 (fun _ => ?_)
            refine wpAnyH_ready (fuel := 8) (rs := [6]) (by kernel_rfl) (by simp) (AllReadyH.cons rfl (fun K12 hK12 => ?_) AllReadyH.nil)
            go_simp
            refine (full_any _ rb _ st rd12 (by omega)).mono ?_
            rintro e w34 ⟨f, p, v, rfl, hf, hp, hv, rd14, ccw34, -⟩
            unfold pgv
            simp only
            have hS14 := hS12.trans ccw34
            replace hpx := box_chg hpx ccw34 (by omega)
            refine hK12.out _ _ hS14 (fun _ => ?_)

            refine wpAnyH_ready (fuel := 7) (rs := [7]) (by kernel_rfl) (by simp) (AllReadyH.cons rfl (fun K14 hK14 => ?_) AllReadyH.nil)
            go_simp
            refine (HAp.out k ⟨true, f, p, v, st⟩ _ (RD.chg HRD.out (show Chg (· = rb) w5 w34 from by assumption) (fun c hc _ hs => by omega)) (by omega) (by unfold pgOk; simp [inB]; omega) rfl).mono ?_
            rintro e w36 ⟨v6, d6, h6, x6, rfl, o6, dv6, dl6, hk6, b6⟩
            have ccw36 : Chg (· = rb) w34 w36 := below_chg b6 _
            have rd16 := rd14.kept b6
            obtain ⟨a6, cap6, b6', off6, rfl, -⟩ := o6.rd.open
            have hzw : w5.heap.size ≤ w34.heap.size := (show Chg (· = rb) w5 w34 from by assumption).size
            obtain ⟨A6, B6, C6⟩ := h6
            unfold hdv
            simp only
            have hS16 := hS14.trans ccw36
            replace hpx := box_chg hpx ccw36 (by omega)
            refine hK14.out _ _ hS16 (fun _ => ?_)
            refine hs_take (fuel := 6) 8 (some 25) (Value.tuple #[Value.slice a6 d6.length cap6, Value.agg #[.int .i64 A6, .int .i64 B6, .int .i64 C6], .int .i64 x6]) rfl rfl (by kernel_rfl) (by kernel_rfl) (by kernel_rfl) (fun _ _ _ h => h) (by rfl) (fun wq hq => ?_) (by assumption) ?_
            · go_simp
            simp only [Act.put, List.setIfInBounds_toArray, List.set_cons_zero, List.set_cons_succ]
            refine hs_take (fuel := 5) 9 (some 34) (Value.slice a6 d6.length cap6) rfl rfl (by kernel_rfl) (by kernel_rfl) (by kernel_rfl) (fun _ _ _ h => h) (by rfl) (fun wq hq => ?_) (by assumption) ?_
            · go_simp
            simp only [Act.put, List.setIfInBounds_toArray, List.set_cons_zero, List.set_cons_succ]
            refine hs_take (fuel := 4) 10 (some 35) (Value.agg #[.int .i64 A6, .int .i64 B6, .int .i64 C6]) rfl rfl (by kernel_rfl) (by kernel_rfl) (by kernel_rfl) (fun _ _ _ h => h) (by rfl) (fun wq hq => ?_) (by assumption) ?_
            · go_simp
            simp only [Act.put, List.setIfInBounds_toArray, List.set_cons_zero, List.set_cons_succ]
            refine hs_take (fuel := 3) 11 (some 36) (.int .i64 x6) rfl rfl (by kernel_rfl) (by kernel_rfl) (by kernel_rfl) (fun _ _ _ h => h) (by rfl) (fun wq hq => ?_) (by assumption) ?_
            · go_simp
            simp only [Act.put, List.setIfInBounds_toArray, List.set_cons_zero, List.set_cons_succ]
            refine hs_take (fuel := 2) 13 (some 10) (Value.slice a6 d6.length cap6) rfl rfl (by kernel_rfl) (by kernel_rfl) (by kernel_rfl) (fun _ _ _ h => h) (by rfl) (fun wq hq => ?_) (by assumption) ?_
            · go_simp
            simp only [Act.put, List.setIfInBounds_toArray, List.set_cons_zero, List.set_cons_succ]
            have hc : Chg (fun c => c = w22.heap.size) w36 (((w36.setCell ⟨w22.heap.size, 0, none⟩ (.int .i64 A6)).setCell ⟨w22.heap.size, 1, none⟩ (.int .i64 B6)).setCell ⟨w22.heap.size, 2, none⟩ (.int .i64 C6)) := Chg.setCell (S := fun c => c = w22.heap.size) (Chg.setCell (S := fun c => c = w22.heap.size) (Chg.setCell (S := fun c => c = w22.heap.size) (Chg.refl _ _) (p := ⟨w22.heap.size, 0, none⟩) (.inr rfl) _) (p := ⟨w22.heap.size, 1, none⟩) (.inr rfl) _) (p := ⟨w22.heap.size, 2, none⟩) (.inr rfl) _
            have hBz : w5.heap.size ≤ w22.heap.size := (show Chg (· = rb) w5 w22 from by assumption).size
            have hSm : Chg (· = rb) w5 (((w36.setCell ⟨w22.heap.size, 0, none⟩ (.int .i64 A6)).setCell ⟨w22.heap.size, 1, none⟩ (.int .i64 B6)).setCell ⟨w22.heap.size, 2, none⟩ (.int .i64 C6)) := hS16.own (hc.mono fun k _ hk => by omega)
            refine wpAnyH_ready (fuel := 1) (rs := [14]) (by kernel_rfl) (by simp) (AllReadyH.cons rfl (fun K hK => ?_) AllReadyH.nil)
            obtain ⟨⟨e0, e1, e2⟩, e3, e4, e5⟩ := three_at hpx
            go_simp
            refine hK.out _ _ ?_ (fun hS => ?_)
            · exact hSm
            refine hs_take (fuel := 0) 15 (some 12) (.int .i64 x6) rfl rfl (by kernel_rfl) (by kernel_rfl) (by kernel_rfl) (fun _ _ _ h => h) (by rfl) (fun wq hq => ?_) (by assumption) ?_
            · go_simp
            simp only [Act.put, List.setIfInBounds_toArray, List.set_cons_zero, List.set_cons_succ]
            refine wpAnyH_done (by kernel_rfl) ?_ _
            go_wp2_with fail
            go_meet
            exact ⟨_, _, d6, ⟨A6, B6, C6⟩, x6, rfl, rfl, rfl, box3_set hpx, (((o6.chgH hc (fun c hs => by rw [hs]; exact ⟨_, _, hpx⟩)).wide hzw).mono hc.size).re dl6, dv6, dl6, hk6, (RdLe.chg rd16 hc (fun c hc2 hs => by omega)).up (by omega), hSm, hBz⟩
        · go_simp
          have hS17 : Chg (· = rb) w5 (w5.drew.alloc (.cells #[.int .i64 0, .int .i64 0, .int .i64 0] 36)) := hS0.trans (below_chg (balloc _ _) _)
          have rd17 := rd0.kept (balloc w5.drew (.cells #[.int .i64 0, .int .i64 0, .int .i64 0] 36))
          have hpx : (w5.drew.alloc (.cells #[.int .i64 0, .int .i64 0, .int .i64 0] 36)).heap[w5.heap.size]? = some (.cells #[.int .i64 0, .int .i64 0, .int .i64 0] 36) := heap_alloc_new w5.drew _
          have hBr : rb < w5.heap.size := Nat.lt_of_lt_of_le hrb5 hS0.size
          refine hK0.out _ _ hS17 (fun _ => ?_)
          refine wpAnyH_ready (fuel := 9) (rs := [3]) (by kernel_rfl) (by simp) (AllReadyH.cons rfl (fun K17 hK17 => ?_) AllReadyH.nil)
          go_simp
          refine (pick_le _ rb _ 3 rd17 (by omega) (by omega) (by omega)).mono ?_
          rintro e w39 ⟨kk, rfl, kk0, kk1, rd19, ccw39, -⟩
          obtain ⟨k, rfl⟩ := Int.eq_ofNat_of_zero_le kk0
          have hS19 := hS17.trans ccw39
          replace hpx := box_chg hpx ccw39 (by omega)
          refine hK17.out _ _ hS19 (fun _ => ?_)

          refine wpAnyH_ready (fuel := 8) (rs := [6]) (by kernel_rfl) (by simp) (AllReadyH.cons rfl (fun K19 hK19 => ?_) AllReadyH.nil)
          go_simp
          refine (full_any _ rb _ st rd19 (by omega)).mono ?_
          rintro e w41 ⟨f, p, v, rfl, hf, hp, hv, rd21, ccw41, -⟩
          unfold pgv
          simp only
          have hS21 := hS19.trans ccw41
          replace hpx := box_chg hpx ccw41 (by omega)
          refine hK19.out _ _ hS21 (fun _ => ?_)

          refine wpAnyH_ready (fuel := 7) (rs := [7]) (by kernel_rfl) (by simp) (AllReadyH.cons rfl (fun K21 hK21 => ?_) AllReadyH.nil)
          go_simp
          refine (HAp.out k ⟨true, f, p, v, st⟩ _ (RD.chg HRD.out (show Chg (· = rb) w5 w41 from by assumption) (fun c hc _ hs => by omega)) (by omega) (by unfold pgOk; simp [inB]; omega) rfl).mono ?_
          rintro e w43 ⟨v6, d6, h6, x6, rfl, o6, dv6, dl6, hk6, b6⟩
          have ccw43 : Chg (· = rb) w41 w43 := below_chg b6 _
          have rd23 := rd21.kept b6
          obtain ⟨a6, cap6, b6', off6, rfl, -⟩ := o6.rd.open
          have hzw : w5.heap.size ≤ w41.heap.size := (show Chg (· = rb) w5 w41 from by assumption).size
          obtain ⟨A6, B6, C6⟩ := h6
          unfold hdv
          simp only
          have hS23 := hS21.trans ccw43
          replace hpx := box_chg hpx ccw43 (by omega)
          refine hK21.out _ _ hS23 (fun _ => ?_)
          refine hs_take (fuel := 6) 8 (some 25) (Value.tuple #[Value.slice a6 d6.length cap6, Value.agg #[.int .i64 A6, .int .i64 B6, .int .i64 C6], .int .i64 x6]) rfl rfl (by kernel_rfl) (by kernel_rfl) (by kernel_rfl) (fun _ _ _ h => h) (by rfl) (fun wq hq => ?_) (by assumption) ?_
          · go_simp
          simp only [Act.put, List.setIfInBounds_toArray, List.set_cons_zero, List.set_cons_succ]
          refine hs_take (fuel := 5) 9 (some 34) (Value.slice a6 d6.length cap6) rfl rfl (by kernel_rfl) (by kernel_rfl) (by kernel_rfl) (fun _ _ _ h => h) (by rfl) (fun wq hq => ?_) (by assumption) ?_
          · go_simp
          simp only [Act.put, List.setIfInBounds_toArray, List.set_cons_zero, List.set_cons_succ]
          refine hs_take (fuel := 4) 10 (some 35) (Value.agg #[.int .i64 A6, .int .i64 B6, .int .i64 C6]) rfl rfl (by kernel_rfl) (by kernel_rfl) (by kernel_rfl) (fun _ _ _ h => h) (by rfl) (fun wq hq => ?_) (by assumption) ?_
          · go_simp
          simp only [Act.put, List.setIfInBounds_toArray, List.set_cons_zero, List.set_cons_succ]
          refine hs_take (fuel := 3) 11 (some 36) (.int .i64 x6) rfl rfl (by kernel_rfl) (by kernel_rfl) (by kernel_rfl) (fun _ _ _ h => h) (by rfl) (fun wq hq => ?_) (by assumption) ?_
          · go_simp
          simp only [Act.put, List.setIfInBounds_toArray, List.set_cons_zero, List.set_cons_succ]
          refine hs_take (fuel := 2) 13 (some 10) (Value.slice a6 d6.length cap6) rfl rfl (by kernel_rfl) (by kernel_rfl) (by kernel_rfl) (fun _ _ _ h => h) (by rfl) (fun wq hq => ?_) (by assumption) ?_
          · go_simp
          simp only [Act.put, List.setIfInBounds_toArray, List.set_cons_zero, List.set_cons_succ]
          have hc : Chg (fun c => c = w5.heap.size) w43 (((w43.setCell ⟨w5.heap.size, 0, none⟩ (.int .i64 A6)).setCell ⟨w5.heap.size, 1, none⟩ (.int .i64 B6)).setCell ⟨w5.heap.size, 2, none⟩ (.int .i64 C6)) := Chg.setCell (S := fun c => c = w5.heap.size) (Chg.setCell (S := fun c => c = w5.heap.size) (Chg.setCell (S := fun c => c = w5.heap.size) (Chg.refl _ _) (p := ⟨w5.heap.size, 0, none⟩) (.inr rfl) _) (p := ⟨w5.heap.size, 1, none⟩) (.inr rfl) _) (p := ⟨w5.heap.size, 2, none⟩) (.inr rfl) _
          have hBz : w5.heap.size ≤ w5.heap.size := Nat.le_refl _
          have hSm : Chg (· = rb) w5 (((w43.setCell ⟨w5.heap.size, 0, none⟩ (.int .i64 A6)).setCell ⟨w5.heap.size, 1, none⟩ (.int .i64 B6)).setCell ⟨w5.heap.size, 2, none⟩ (.int .i64 C6)) := hS23.own (hc.mono fun k _ hk => by omega)
          refine wpAnyH_ready (fuel := 1) (rs := [14]) (by kernel_rfl) (by simp) (AllReadyH.cons rfl (fun K hK => ?_) AllReadyH.nil)
          obtain ⟨⟨e0, e1, e2⟩, e3, e4, e5⟩ := three_at hpx
          go_simp
          refine hK.out _ _ ?_ (fun hS => ?_)
          · exact hSm
          refine hs_take (fuel := 0) 15 (some 12) (.int .i64 x6) rfl rfl (by kernel_rfl) (by kernel_rfl) (by kernel_rfl) (fun _ _ _ h => h) (by rfl) (fun wq hq => ?_) (by assumption) ?_
          · go_simp
          simp only [Act.put, List.setIfInBounds_toArray, List.set_cons_zero, List.set_cons_succ]
          refine wpAnyH_done (by kernel_rfl) ?_ _
          go_wp2_with fail
          go_meet
          exact ⟨_, _, d6, ⟨A6, B6, C6⟩, x6, rfl, rfl, rfl, box3_set hpx, (((o6.chgH hc (fun c hs => by rw [hs]; exact ⟨_, _, hpx⟩)).wide hzw).mono hc.size).re dl6, dv6, dl6, hk6, (RdLe.chg rd23 hc (fun c hc2 hs => by omega)).up (by omega), hSm, hBz⟩

      case rest =>
        obtain ⟨Bx, v6, d6, ⟨A6, B6, C6⟩, x6, rfl, rfl, rfl, xB, oB, dv6, dl6, hk6, rB, cB, hBz⟩ := hcut
        have hl6 : 0 < d6.length := by omega
        obtain ⟨A1, cap1, rfl⟩ : ∃ A1 cap1, u10 = .slice (some ⟨A1, 0, none⟩) d6.length cap1 := by
          obtain ⟨us, k1, -⟩ := oB
          obtain ⟨A, c, e, -⟩ := own_shape1 k1 hl6
          exact ⟨A, c, e⟩
        have HS := Lib.hid (HR.out.pick cB rB)
        have hx := HS.out.2.2.1
        unfold hbox at hx xB
        simp only at hx xB
        obtain ⟨⟨t0, t1, t2⟩, t3, t4, t5⟩ := three_at hx
        obtain ⟨⟨v0, v1, v2⟩, -⟩ := three_at xB
        have hz6 : w.heap.size + 1 ≤ w5.heap.size := by
          have e1 := HR.out.2.1
          have e2 := (Array.getElem?_eq_some_iff.1 HR.out.2.2.1).1
          omega
        have HF := Lib.hid (HS.out.put (h2 := ⟨A6, B6, C6⟩) (oB.wide hz6))
        have HK := Lib.hid (And.intro dv6 hk6)
        obtain ⟨jn, rfl⟩ : ∃ jn, j = jn + 1 := ⟨j - 1, by omega⟩
        clear xB oB dv6 hk6 rB cB k0 k1 k2 hx
        go_wp2_with fail
        go_roundw
        case rel => exact ⟨jn, st + 1, d6, ⟨A6, B6, C6⟩, by omega, by go_num, by go_num, by omega, by omega, ⟨HF.out.1.up (by omega), HF.out.2⟩, HK.out.1, HK.out.2⟩
        case measure => simp [intOf]
    · have hji : decide (0 < (j : Int)) = false := by simpa using hj0
      obtain rfl : j = 0 := by omega
      clear t0 t1 t2 t3 t4 t5
      have hI := Lib.hid (hdOk_i HD.out.2)
      have hP4 : Hid (∀ b ∈ d0, b.pages.length ≤ 4) := Lib.hid (fun b hb => Nat.le_of_eq (bkOk_iff.1 ((dvOk_iff.1 HD.out.1).2.2 b hb)).2.1)
      go_wp2_with fail
      refine (pick_le _ rb _ 3 HR.out.1.1 (by omega) (by omega) (by omega)).mono ?_
      rintro e w6 ⟨k2, rfl, k20, k21, r1, c1, -⟩
      have HS := Lib.hid (HR.out.pick c1 r1)
      obtain ⟨k2n, rfl⟩ := Int.eq_ofNat_of_zero_le k20
      clear r1 c1 HR HD hj0 hji
      generalize hn0 : d0.length = n0 at hl12 hA1
      rw [hn0] at HS
      have HN0 := Lib.hid hn0
      clear hn0
      go_wp2_with fail
      go_loopw [13] (fun i wr => ∃ (j : Nat) (d : List Bk), j ≤ 2 ∧ i = .int .i64 j ∧ d.length = n0 ∧ (∀ b ∈ d, b.pages.length ≤ 4) ∧ DvS H w rb (q + 2 + 4 * 19 + 1 + 3 * (2 - j)) T d (.slice (some ⟨A0, 0, none⟩) n0 cap0) ⟨A, B, C⟩ wr) (fun i _ => (intOf i).toNat)
      case atStart => exact ⟨k2n, d0, by omega, rfl, HN0.out, hP4.out, HS.out.1.up (by omega), HS.out.2⟩
      case round =>
        obtain ⟨j, d, hj, rfl, hdl, hdp, hR⟩ := hrel
        obtain ⟨w7, rfl⟩ : ∃ w7 : World, w7 = wr := ⟨_, rfl⟩
        have HR := Lib.hid hR
        have HDL := Lib.hid hdl
        have HDP := Lib.hid hdp
        clear HS hR hdl hdp hP4 HN0
        by_cases hj0 : 0 < j
        · have hji : decide (0 < (j : Int)) = true := by simpa using hj0
          go_wp2_with fail
          refine (pick_le _ rb _ n0 HR.out.1.1 (by omega) (by omega) (by omega)).mono ?_
          rintro e w8 ⟨k, rfl, k0, k1, r1, c1, -⟩
          replace HR := Lib.hid (HR.out.pick c1 r1)
          obtain ⟨kn2, rfl⟩ := Int.eq_ofNat_of_zero_le k0
          clear r1 c1
          go_wp2_with fail
          refine (pick_le _ rb _ 12 HR.out.1.1 (by omega) (by omega) (by omega)).mono ?_
          rintro e w9 ⟨x, rfl, x00, x01, r1, c1, -⟩
          replace HR := Lib.hid (HR.out.pick c1 r1)
          have X := Lib.hid (heap_alloc_new w9 (.cells #[.int .i64 x, .int .i64 100] 3))
          have hz9 := HR.out.1.size
          replace HR := Lib.hid (HR.out.below (balloc w9 (.cells #[.int .i64 x, .int .i64 100] 3)))
          clear r1 c1
          go_wp2_with fail
          refine (pick_le _ rb _ 9 HR.out.1.1 (by omega) (by omega) (by omega)).mono ?_
          rintro e w10 ⟨y, rfl, y00, y01, r1, c1, -⟩
          replace X := Lib.hid (HR.out.1.box hz9 c1 X.out)
          replace HR := Lib.hid (HR.out.pick c1 r1)
          obtain ⟨yn, rfl⟩ := Int.eq_ofNat_of_zero_le y00
          have hk2 : kn2 < n0 := by omega
          obtain ⟨A', cap', ea, ⟨uo, g1⟩, g2, g3⟩ := HR.out.setw kn2 (by have := HDL.out; omega)
          simp only [Value.slice.injEq, Option.some.injEq, Addr.mk.injEq, and_true] at ea
          obtain ⟨rfl, -, rfl⟩ := ea
          have HPut := Lib.hid g3
          obtain ⟨z, hz, hz3⟩ : ∃ z : Int, w10.cell? ⟨w9.heap.size, yn / 8, none⟩ = some (.int .i64 z) ∧ I64 z := by
            have h7 := X.out
            obtain e | e : yn / 8 = 0 ∨ yn / 8 = 1 := by omega
            · rw [e]; exact ⟨x, by simp [World.cell?, h7], by unfold I64; omega⟩
            · rw [e]; exact ⟨100, by simp [World.cell?, h7], by unfold I64; omega⟩
          have HZ := Lib.hid hz3
          clear r1 c1 g3 hz3 X
          go_wp2_with fail
          have HF := Lib.hid (HPut.out z HZ.out)
          obtain ⟨jn, rfl⟩ : ∃ jn, j = jn + 1 := ⟨j - 1, by omega⟩
          go_roundw
          case rel => exact ⟨jn, _, by omega, by go_num, by rw [List.length_set]; exact HDL.out, fun b hb => (List.mem_or_eq_of_mem_set hb).elim (HDP.out b) (fun e => by rw [e]; exact HDP.out (d[kn2]'(by have := HDL.out; omega)) (List.getElem_mem _)), HF.out.1.up (by omega), HF.out.2⟩
          case measure => simp [intOf]
        · have hji : decide (0 < (j : Int)) = false := by simpa using hj0
          obtain rfl : j = 0 := by omega
          clear hj0
          go_wp2_with fail
          refine (odd_le _ rb _ m HR.out.1.1 (by omega) (by omega) (by omega)).mono ?_
          rintro e w8 ⟨bb, rfl, r1, c1, -⟩
          replace HR := Lib.hid (HR.out.pick c1 r1)
          clear r1 c1
          cases bb
          · skip
            have HB := Lib.hid HR.out.b
            have HRD := Lib.hid HR.out.2.2.2.2.rd
            go_wp2_with fail
            obtain ⟨⟨t0, t1, t2⟩, -⟩ := three_at (show w8.heap[T]? = some (.cells #[.int .i64 A, .int .i64 B, .int .i64 C] 36) from HB.out.2.2.1)
            have k0 := And.intro t0 hTw
            have k1 := And.intro t1 hTw
            have k2 := And.intro t2 hTw
            clear t0 t1 t2
            obtain ⟨⟨r0, r1, r2⟩, r3, r4, r5⟩ := three_at HB.out.2.2.2
            have HE := Lib.hid (dev_end (HB.out.below (bdrew w8)) (HRD.out.below (bdrew w8)) (Nat.le_refl _))
            refine region_held_n 4 (S := fun w' => Chg (fun c => c = w.heap.size) w8 w') (by kernel_rfl) (by kernel_rfl) (below_chg (bdrew _) _) (fun hS0 => ?_)
            refine hs_take (fuel := 3) 0 (some 84) (.slice (some ⟨A0, 0, none⟩) n0 cap0) rfl rfl (by kernel_rfl) (by kernel_rfl) (by kernel_rfl) (fun _ _ _ h => h) (by rfl) (fun wq hq => ?_) (by assumption) ?_
            · go_simp
            simp only [Act.put, List.setIfInBounds_toArray, List.set_cons_zero, List.set_cons_succ]
            refine hs_take (fuel := 2) 1 (some 85) (Value.agg #[.int .i64 A, .int .i64 B, .int .i64 C]) rfl rfl (by kernel_rfl) (by kernel_rfl) (by kernel_rfl) (fun _ _ _ h => h) (by rfl) (fun wq hq => ?_) (by assumption) ?_
            · have p0 := cell_chg hq k0
              have p1 := cell_chg hq k1
              have p2 := cell_chg hq k2
              go_simp
            simp only [Act.put, List.setIfInBounds_toArray, List.set_cons_zero, List.set_cons_succ]
            refine hs_take (fuel := 1) 2 (some 4) (.slice (some ⟨A0, 0, none⟩) n0 cap0) rfl rfl (by kernel_rfl) (by kernel_rfl) (by kernel_rfl) (fun _ _ _ h => h) (by rfl) (fun wq hq => ?_) (by assumption) ?_
            · go_simp
            simp only [Act.put, List.setIfInBounds_toArray, List.set_cons_zero, List.set_cons_succ]
            refine wpAnyH_ready (fuel := 0) (rs := [3]) (by kernel_rfl) (by simp) (AllReadyH.cons rfl (fun K hK => ?_) AllReadyH.nil)
            have r0' := cell_later (bdrew w8) r0
            have r1' := cell_later (bdrew w8) r1
            have r2' := cell_later (bdrew w8) r2
            go_simp
            refine hK.out _ _ ?_ (fun hS => ?_)
            · exact Chg.setCell (S := fun c => c = w.heap.size) (Chg.setCell (S := fun c => c = w.heap.size) (Chg.setCell (S := fun c => c = w.heap.size) (below_chg (bdrew _) _) (p := ⟨w.heap.size, 0, none⟩) (.inr rfl) _) (p := ⟨w.heap.size, 1, none⟩) (.inr rfl) _) (p := ⟨w.heap.size, 2, none⟩) (.inr rfl) _
            refine wpAnyH_done (by kernel_rfl) ?_ _
            go_wp2_with fail
            exact bodyPost_ret (v := .tuple #[.slice (some ⟨A0, 0, none⟩) n0 cap0, Value.agg #[.int .i64 A, .int .i64 B, .int .i64 C]]) (by simp [results, Try.results59, go_sem, r0, r1, r2]) rfl ⟨_, d, ⟨A, B, C⟩, rfl, HE.out.1, by have := HDL.out; omega, HDP.out, hI.out, HE.out.2.up (by omega)⟩
          · go_wp2_with fail
            refine (pick_le _ rb _ 3 HR.out.1.1 (by omega) (by omega) (by omega)).mono ?_
            rintro e w9 ⟨x, rfl, x00, x01, r1, c1, -⟩
            replace HR := Lib.hid (HR.out.pick c1 r1)
            clear r1 c1
            obtain rfl | rfl | rfl : x = 0 ∨ x = 1 ∨ x = 2 := by omega
            · skip
              go_wp2_with fail
              refine (block_any _ rb _ 1 HR.out.1.1 (by omega) (by omega) (by omega)).mono ?_
              rintro e w10 ⟨b, s, rfl, hbw, hbp, hrp, hdr⟩
              obtain ⟨a10, cap10, b10, off10, rfl, -⟩ := hrp.open
              have HR2 := Lib.hid (HR.out.pick hdr.2.1 hdr.1)
              have HO2 := Lib.hid (HR.out.2.2.2.2.chg hdr.2.1 (fun k hk _ hs => by have := HR.out.1.2.2; omega))
              have HW10 := Lib.hid (And.intro hrp (And.intro hbw (And.intro hbp hdr.2.1.size)))
              have hz9 : w.heap.size + 1 ≤ w9.heap.size := (Array.getElem?_eq_some_iff.1 HR.out.2.2.2.1).1
              clear hrp hdr HR hbw hbp
              go_wp2_with (at_builtin; refine ap_blockR rfl _ _ rfl (w.heap.size + 1) w9.heap.size w10.heap.size (.slice (some ⟨A0, 0, none⟩) n0 cap0) d (.slice a10 b.pages.length cap10) b rfl HO2.out HW10.out.1 HW10.out.2.1 HW10.out.2.2.2 (Nat.le_refl _) hz9 rfl (by have := HDL.out; omega) ?_; intro v' w4 o4 c4; have H4 := Lib.hid (And.intro o4 c4); clear o4 c4)
              have HB := Lib.hid (HR2.out.app H4.out.2)
              have HRD := Lib.hid H4.out.1
              go_wp2_with fail
              obtain ⟨⟨t0, t1, t2⟩, -⟩ := three_at (show w4.heap[T]? = some (.cells #[.int .i64 A, .int .i64 B, .int .i64 C] 36) from HB.out.2.2.1)
              have k0 := And.intro t0 hTw
              have k1 := And.intro t1 hTw
              have k2 := And.intro t2 hTw
              clear t0 t1 t2
              obtain ⟨⟨r0, r1, r2⟩, r3, r4, r5⟩ := three_at HB.out.2.2.2
              have HE := Lib.hid (dev_end (HB.out.below (bdrew w4)) (HRD.out.below (bdrew w4)) (Nat.le_refl _))
              refine region_held_n 4 (S := fun w' => Chg (fun c => c = w.heap.size) w4 w') (by kernel_rfl) (by kernel_rfl) (below_chg (bdrew _) _) (fun hS0 => ?_)
              refine hs_take (fuel := 3) 0 (some 84) (v') rfl rfl (by kernel_rfl) (by kernel_rfl) (by kernel_rfl) (fun _ _ _ h => h) (by rfl) (fun wq hq => ?_) (by assumption) ?_
              · go_simp
              simp only [Act.put, List.setIfInBounds_toArray, List.set_cons_zero, List.set_cons_succ]
              refine hs_take (fuel := 2) 1 (some 85) (Value.agg #[.int .i64 A, .int .i64 B, .int .i64 C]) rfl rfl (by kernel_rfl) (by kernel_rfl) (by kernel_rfl) (fun _ _ _ h => h) (by rfl) (fun wq hq => ?_) (by assumption) ?_
              · have p0 := cell_chg hq k0
                have p1 := cell_chg hq k1
                have p2 := cell_chg hq k2
                go_simp
              simp only [Act.put, List.setIfInBounds_toArray, List.set_cons_zero, List.set_cons_succ]
              refine hs_take (fuel := 1) 2 (some 4) (v') rfl rfl (by kernel_rfl) (by kernel_rfl) (by kernel_rfl) (fun _ _ _ h => h) (by rfl) (fun wq hq => ?_) (by assumption) ?_
              · go_simp
              simp only [Act.put, List.setIfInBounds_toArray, List.set_cons_zero, List.set_cons_succ]
              refine wpAnyH_ready (fuel := 0) (rs := [3]) (by kernel_rfl) (by simp) (AllReadyH.cons rfl (fun K hK => ?_) AllReadyH.nil)
              have r0' := cell_later (bdrew w4) r0
              have r1' := cell_later (bdrew w4) r1
              have r2' := cell_later (bdrew w4) r2
              go_simp
              refine hK.out _ _ ?_ (fun hS => ?_)
              · exact Chg.setCell (S := fun c => c = w.heap.size) (Chg.setCell (S := fun c => c = w.heap.size) (Chg.setCell (S := fun c => c = w.heap.size) (below_chg (bdrew _) _) (p := ⟨w.heap.size, 0, none⟩) (.inr rfl) _) (p := ⟨w.heap.size, 1, none⟩) (.inr rfl) _) (p := ⟨w.heap.size, 2, none⟩) (.inr rfl) _
              refine wpAnyH_done (by kernel_rfl) ?_ _
              go_wp2_with fail
              exact bodyPost_ret (v := .tuple #[v', Value.agg #[.int .i64 A, .int .i64 B, .int .i64 C]]) (by simp [results, Try.results59, go_sem, r0, r1, r2]) rfl ⟨_, (d ++ [b]), ⟨A, B, C⟩, rfl, HE.out.1, by have := HDL.out; simp; omega, fun x hx => (List.mem_append.1 hx).elim (HDP.out x) (fun hx => by simp at hx; subst hx; exact HW10.out.2.2.1), hI.out, HE.out.2.up (by omega)⟩
            · skip
              have HB := Lib.hid (HR.out.b.below (balloc w9 (.cells #[] 44)))
              have HRD := Lib.hid (od_empty w9 (w.heap.size + 1) w9.heap.size (Array.getElem?_eq_some_iff.1 HR.out.2.2.2.1).1 rfl).rd
              go_wp2_with fail
              obtain ⟨⟨t0, t1, t2⟩, -⟩ := three_at (show (w9.alloc (.cells #[] 44)).heap[T]? = some (.cells #[.int .i64 A, .int .i64 B, .int .i64 C] 36) from HB.out.2.2.1)
              have k0 := And.intro t0 hTw
              have k1 := And.intro t1 hTw
              have k2 := And.intro t2 hTw
              clear t0 t1 t2
              obtain ⟨⟨r0, r1, r2⟩, r3, r4, r5⟩ := three_at HB.out.2.2.2
              have HE := Lib.hid (dev_end (HB.out.below (bdrew (w9.alloc (.cells #[] 44)))) (HRD.out.below (bdrew (w9.alloc (.cells #[] 44)))) (Nat.le_refl _))
              refine region_held_n 4 (S := fun w' => Chg (fun c => c = w.heap.size) (w9.alloc (.cells #[] 44)) w') (by kernel_rfl) (by kernel_rfl) (below_chg (bdrew _) _) (fun hS0 => ?_)
              refine hs_take (fuel := 3) 0 (some 84) (.slice (some ⟨w9.heap.size, 0, none⟩) 0 0) rfl rfl (by kernel_rfl) (by kernel_rfl) (by kernel_rfl) (fun _ _ _ h => h) (by rfl) (fun wq hq => ?_) (by assumption) ?_
              · go_simp
              simp only [Act.put, List.setIfInBounds_toArray, List.set_cons_zero, List.set_cons_succ]
              refine hs_take (fuel := 2) 1 (some 85) (Value.agg #[.int .i64 A, .int .i64 B, .int .i64 C]) rfl rfl (by kernel_rfl) (by kernel_rfl) (by kernel_rfl) (fun _ _ _ h => h) (by rfl) (fun wq hq => ?_) (by assumption) ?_
              · have p0 := cell_chg hq k0
                have p1 := cell_chg hq k1
                have p2 := cell_chg hq k2
                go_simp
              simp only [Act.put, List.setIfInBounds_toArray, List.set_cons_zero, List.set_cons_succ]
              refine hs_take (fuel := 1) 2 (some 4) (.slice (some ⟨w9.heap.size, 0, none⟩) 0 0) rfl rfl (by kernel_rfl) (by kernel_rfl) (by kernel_rfl) (fun _ _ _ h => h) (by rfl) (fun wq hq => ?_) (by assumption) ?_
              · go_simp
              simp only [Act.put, List.setIfInBounds_toArray, List.set_cons_zero, List.set_cons_succ]
              refine wpAnyH_ready (fuel := 0) (rs := [3]) (by kernel_rfl) (by simp) (AllReadyH.cons rfl (fun K hK => ?_) AllReadyH.nil)
              have r0' := cell_later (bdrew (w9.alloc (.cells #[] 44))) r0
              have r1' := cell_later (bdrew (w9.alloc (.cells #[] 44))) r1
              have r2' := cell_later (bdrew (w9.alloc (.cells #[] 44))) r2
              go_simp
              refine hK.out _ _ ?_ (fun hS => ?_)
              · exact Chg.setCell (S := fun c => c = w.heap.size) (Chg.setCell (S := fun c => c = w.heap.size) (Chg.setCell (S := fun c => c = w.heap.size) (below_chg (bdrew _) _) (p := ⟨w.heap.size, 0, none⟩) (.inr rfl) _) (p := ⟨w.heap.size, 1, none⟩) (.inr rfl) _) (p := ⟨w.heap.size, 2, none⟩) (.inr rfl) _
              refine wpAnyH_done (by kernel_rfl) ?_ _
              go_wp2_with fail
              exact bodyPost_ret (v := .tuple #[.slice (some ⟨w9.heap.size, 0, none⟩) 0 0, Value.agg #[.int .i64 A, .int .i64 B, .int .i64 C]]) (by simp [results, Try.results59, go_sem, r0, r1, r2]) rfl ⟨_, [], ⟨A, B, C⟩, rfl, HE.out.1, by simp, by simp, hI.out, HE.out.2.up (by omega)⟩
            · skip
              go_wp2_with fail
              go_loopw [6, 71, 72, 73] (fun v _ _ _ wr => ∃ (d2 : List Bk), d2.length ≤ 13 ∧ (∀ b ∈ d2, b.pages.length ≤ 4) ∧ DvS H w rb (q + 100) T d2 v ⟨A, B, C⟩ wr) (fun v _ _ _ _ => 13 - slN v)
              case atStart => exact ⟨d, by have := HDL.out; omega, HDP.out, HR.out.1.up (by omega), HR.out.2⟩
              case round =>
                obtain ⟨d2, hl2, hp2, hR⟩ := hrel
                obtain ⟨wo, rfl⟩ : ∃ wo : World, wo = wr := ⟨_, rfl⟩
                have HR2 := Lib.hid hR
                have HP2 := Lib.hid hp2
                obtain ⟨a2, cap2, b2, off2, rfl, -⟩ := hR.2.2.2.2.rd.open
                clear hR hp2 HR
                by_cases hl : d2.length ≤ 12
                · have hli : (d2.length : Int) ≤ 12 := by omega
                  go_wp2_with fail
                  refine (specNbk_any 0 (by omega) (by omega) _).mono ?_
                  rintro e w10 ⟨s, rfl, o1, b1⟩
                  have HO := Lib.hid (And.intro o1 b1)
                  obtain ⟨a1, cap1, b1', off1, rfl, -⟩ := o1.rp.open
                  clear o1 b1
                  have hpl : (B0 0).pages.length = 4 := rfl
                  have hwl : (B0 0).wear = 0 := rfl
                  replace HO := HO.out
                  rw [hpl] at HO ⊢
                  rw [hwl]
                  replace HO := Lib.hid HO
                  clear hpl hwl
                  have hz9 : w.heap.size + 1 ≤ wo.heap.size := (Array.getElem?_eq_some_iff.1 HR2.out.2.2.2.1).1
                  go_wp2_with (at_builtin; refine ap_block rfl _ _ rfl (w.heap.size + 1) wo.heap.size (.slice a2 d2.length cap2) d2 (.slice a1 4 cap1) (B0 0) rfl (HR2.out.2.2.2.2.below HO.out.2) HO.out.1 (by unfold I64 B0; simp) HO.out.2.size hz9 rfl (by omega) ?_; intro v' w4 o4 c4; have H4 := Lib.hid (And.intro o4 c4); clear o4 c4)
                  have HF := Lib.hid (((HR2.out.below HO.out.2).app H4.out.2).s H4.out.1)
                  have HLen : Hid (slN v' = d2.length + 1) := Lib.hid (by obtain ⟨a', c', b', o', e', -⟩ := H4.out.1.rd.open; rw [e']; simp [slN])
                  go_roundw
                  case rel => exact ⟨d2 ++ [B0 0], by simp; omega, fun x hx => (List.mem_append.1 hx).elim (HP2.out x) (fun hx => by simp at hx; subst hx; simp [B0]), HF.out⟩
                  case measure => rw [HLen.out]; simp [slN]; omega
                · have hli : ¬ (d2.length : Int) ≤ 12 := by omega
                  have HB := Lib.hid HR2.out.b
                  have HRD := Lib.hid HR2.out.2.2.2.2.rd
                  go_wp2_with fail
                  obtain ⟨⟨t0, t1, t2⟩, -⟩ := three_at (show wo.heap[T]? = some (.cells #[.int .i64 A, .int .i64 B, .int .i64 C] 36) from HB.out.2.2.1)
                  have k0 := And.intro t0 hTw
                  have k1 := And.intro t1 hTw
                  have k2 := And.intro t2 hTw
                  clear t0 t1 t2
                  obtain ⟨⟨r0, r1, r2⟩, r3, r4, r5⟩ := three_at HB.out.2.2.2
                  have HE := Lib.hid (dev_end (HB.out.below (bdrew wo)) (HRD.out.below (bdrew wo)) (Nat.le_refl _))
                  refine region_held_n 4 (S := fun w' => Chg (fun c => c = w.heap.size) wo w') (by kernel_rfl) (by kernel_rfl) (below_chg (bdrew _) _) (fun hS0 => ?_)
                  refine hs_take (fuel := 3) 0 (some 84) (.slice a2 d2.length cap2) rfl rfl (by kernel_rfl) (by kernel_rfl) (by kernel_rfl) (fun _ _ _ h => h) (by rfl) (fun wq hq => ?_) (by assumption) ?_
                  · go_simp
                  simp only [Act.put, List.setIfInBounds_toArray, List.set_cons_zero, List.set_cons_succ]
                  refine hs_take (fuel := 2) 1 (some 85) (Value.agg #[.int .i64 A, .int .i64 B, .int .i64 C]) rfl rfl (by kernel_rfl) (by kernel_rfl) (by kernel_rfl) (fun _ _ _ h => h) (by rfl) (fun wq hq => ?_) (by assumption) ?_
                  · have p0 := cell_chg hq k0
                    have p1 := cell_chg hq k1
                    have p2 := cell_chg hq k2
                    go_simp
                  simp only [Act.put, List.setIfInBounds_toArray, List.set_cons_zero, List.set_cons_succ]
                  refine hs_take (fuel := 1) 2 (some 4) (.slice a2 d2.length cap2) rfl rfl (by kernel_rfl) (by kernel_rfl) (by kernel_rfl) (fun _ _ _ h => h) (by rfl) (fun wq hq => ?_) (by assumption) ?_
                  · go_simp
                  simp only [Act.put, List.setIfInBounds_toArray, List.set_cons_zero, List.set_cons_succ]
                  refine wpAnyH_ready (fuel := 0) (rs := [3]) (by kernel_rfl) (by simp) (AllReadyH.cons rfl (fun K hK => ?_) AllReadyH.nil)
                  have r0' := cell_later (bdrew wo) r0
                  have r1' := cell_later (bdrew wo) r1
                  have r2' := cell_later (bdrew wo) r2
                  go_simp
                  refine hK.out _ _ ?_ (fun hS => ?_)
                  · exact Chg.setCell (S := fun c => c = w.heap.size) (Chg.setCell (S := fun c => c = w.heap.size) (Chg.setCell (S := fun c => c = w.heap.size) (below_chg (bdrew _) _) (p := ⟨w.heap.size, 0, none⟩) (.inr rfl) _) (p := ⟨w.heap.size, 1, none⟩) (.inr rfl) _) (p := ⟨w.heap.size, 2, none⟩) (.inr rfl) _
                  refine wpAnyH_done (by kernel_rfl) ?_ _
                  go_wp2_with fail
                  exact bodyPost_ret (v := .tuple #[.slice a2 d2.length cap2, Value.agg #[.int .i64 A, .int .i64 B, .int .i64 C]]) (by simp [results, Try.results59, go_sem, r0, r1, r2]) rfl ⟨_, d2, ⟨A, B, C⟩, rfl, HE.out.1, hl2, HP2.out, hI.out, HE.out.2.up (by omega)⟩

end Go.Proofs.Ytjmofmdcegefgaa

