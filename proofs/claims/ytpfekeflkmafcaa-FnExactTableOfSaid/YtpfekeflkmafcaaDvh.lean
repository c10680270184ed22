/-
  The walks of the laws' helpers over devices: to, sz.
-/
import Derived.Test.YtpfekeflkmafcaaDvo
import Derived.Test.YtpfekeflkmafcaaTbh
namespace Go.Proofs.Ytpfekeflkmafcaa
open Go.RowKit

theorem pc_set5 : ∀ (ps : List Pg) (k : Nat) (p : Pg), k < ps.length →
    (((((pc ps).set (k * 5) (.bool p.full)).set (k * 5 + 1) (.int .i64 p.file)).set (k * 5 + 2) (.int .i64 p.place)).set (k * 5 + 3) (.int .i64 p.value)).set (k * 5 + 4) (.int .i64 p.stamp) = pc (ps.set k p)
  | [], k, _, h => by simp at h
  | x :: ps, 0, p, _ => by simp [pc, pgc]
  | x :: ps, k + 1, p, h => by
    have := pc_set5 ps k p (by simpa using h)
    have e : pc (x :: ps) = .bool x.full :: .int .i64 x.file :: .int .i64 x.place :: .int .i64 x.value :: .int .i64 x.stamp :: pc ps := by simp [pc, pgc]
    have e2 : pc ((x :: ps).set (k + 1) p) = .bool x.full :: .int .i64 x.file :: .int .i64 x.place :: .int .i64 x.value :: .int .i64 x.stamp :: pc (ps.set k p) := by simp [pc, pgc]
    rw [e, e2, ← this, show (k + 1) * 5 = k * 5 + 1 + 1 + 1 + 1 + 1 by omega]
    simp
/-- One whole page stored. -/
theorem OP.page {w : World} {lo : Nat} {v : Value} {ps : List Pg} (h : OP w lo v ps) (k : Nat) (hk : k < ps.length) :
    ∃ (g cap : Nat), v = .slice (some ⟨g, 0, none⟩) ps.length cap ∧ ps.length ≤ cap ∧
      ((∃ u, w.cell? ⟨g, k * 5, none⟩ = some u) ∧ (∃ u, w.cell? ⟨g, k * 5 + 1, none⟩ = some u) ∧ (∃ u, w.cell? ⟨g, k * 5 + 2, none⟩ = some u) ∧ (∃ u, w.cell? ⟨g, k * 5 + 3, none⟩ = some u) ∧ ∃ u, w.cell? ⟨g, k * 5 + 4, none⟩ = some u) ∧
      (w.frozen? ⟨g, k * 5, none⟩ = false ∧ w.frozen? ⟨g, k * 5 + 1, none⟩ = false ∧ w.frozen? ⟨g, k * 5 + 2, none⟩ = false ∧ w.frozen? ⟨g, k * 5 + 3, none⟩ = false ∧ w.frozen? ⟨g, k * 5 + 4, none⟩ = false) ∧ (lo ≤ g ∧ g < w.heap.size) ∧
      ∀ p, PgI p → OP (((((w.setCell ⟨g, k * 5, none⟩ (.bool p.full)).setCell ⟨g, k * 5 + 1, none⟩ (.int .i64 p.file)).setCell ⟨g, k * 5 + 2, none⟩ (.int .i64 p.place)).setCell ⟨g, k * 5 + 3, none⟩ (.int .i64 p.value)).setCell ⟨g, k * 5 + 4, none⟩ (.int .i64 p.stamp)) lo v (ps.set k p) := by
  obtain ⟨g, cap, rfl, hb1, hb2, hb3⟩ := own_shape1 h.1 (show 0 < ps.length by omega)
  have hc : ∀ j, j < 5 → ∃ u, w.cell? ⟨g, k * 5 + j, none⟩ = some u := fun j hj => by
    rw [h.1.cellAt _ (by omega), pc_at ps k j hk hj]
    exact ⟨(pgc ps[k])[j]'(by simp [pgc]; omega), by simp [pgc, hj]⟩
  refine ⟨g, cap, rfl, hb3, ⟨hc 0 (by omega), hc 1 (by omega), hc 2 (by omega), hc 3 (by omega), hc 4 (by omega)⟩, ⟨h.1.frozenAt _, h.1.frozenAt _, h.1.frozenAt _, h.1.frozenAt _, h.1.frozenAt _⟩, ⟨hb1, hb2⟩, fun p hp => ?_⟩
  have s0 := (h.1.stored (k * 5) (.bool p.full)).1
  have s1 := (s0.stored (k * 5 + 1) (.int .i64 p.file)).1
  have s2 := (s1.stored (k * 5 + 2) (.int .i64 p.place)).1
  have s3 := (s2.stored (k * 5 + 3) (.int .i64 p.value)).1
  have s4 := (s3.stored (k * 5 + 4) (.int .i64 p.stamp)).1
  rw [pc_set5 ps k p hk] at s4
  refine ⟨by rw [List.length_set]; exact s4, fun q hq => ?_⟩
  rcases List.mem_or_eq_of_mem_set hq with h1 | rfl
  · exact h.2 q h1
  · exact hp
theorem chg5 {S : Nat → Prop} {w0 w : World} (h : Chg S w0 w) {g : Nat} (hg : w0.heap.size ≤ g ∨ S g) (o0 o1 o2 o3 o4 : Nat) (u0 u1 u2 u3 u4 : Value) :
    Chg S w0 (((((w.setCell ⟨g, o0, none⟩ u0).setCell ⟨g, o1, none⟩ u1).setCell ⟨g, o2, none⟩ u2).setCell ⟨g, o3, none⟩ u3).setCell ⟨g, o4, none⟩ u4) :=
  ((((h.setCell (p := ⟨g, o0, none⟩) hg _).setCell (p := ⟨g, o1, none⟩) hg _).setCell (p := ⟨g, o2, none⟩) hg _).setCell (p := ⟨g, o3, none⟩) hg _).setCell (p := ⟨g, o4, none⟩) hg _

/-- The first k, then z. -/
def padG {α : Type} (z : α) (xs : List α) (k : Nat) : List α := xs.take k ++ List.replicate (xs.length - k) z
theorem padG_len {α : Type} (z : α) (xs : List α) (k : Nat) (hk : k ≤ xs.length) : (padG z xs k).length = xs.length := by simp [padG]; omega
theorem padG_zero {α : Type} (z : α) (xs : List α) : padG z xs 0 = List.replicate xs.length z := by simp [padG]
theorem padG_all {α : Type} (z : α) (xs : List α) (k : Nat) (hk : ¬ k < xs.length) : padG z xs k = xs := by
  rw [padG, List.take_of_length_le (by omega), show xs.length - k = 0 by omega]; simp
theorem padG_set {α : Type} (z : α) (xs : List α) (k : Nat) (hk : k < xs.length) : (padG z xs k).set k xs[k] = padG z xs (k + 1) := by
  unfold padG
  rw [List.set_append_right _ _ (by simp; omega), List.take_succ_eq_append_getElem hk]
  have e : k - (xs.take k).length = 0 := by simp; omega
  rw [e, show xs.length - k = (xs.length - (k + 1)) + 1 by omega, List.replicate_succ, List.set_cons_zero, List.append_assoc]
  rfl

theorem made_pages (n : Nat) : (madeCells #[Value.bool false, .int .i64 0, .int .i64 0, .int .i64 0, .int .i64 0] (n * 5)).toList = pc (List.replicate n pg0) := by
  apply List.ext_getElem?
  intro j
  by_cases hj : j < n * 5
  · have hk : j / 5 < (List.replicate n pg0).length := by rw [List.length_replicate]; omega
    have := pc_at (List.replicate n pg0) (j / 5) (j % 5) hk (by omega)
    rw [show j / 5 * 5 + j % 5 = j by omega, List.getElem_replicate] at this
    rw [this]
    have h5 : j % 5 = 0 ∨ j % 5 = 1 ∨ j % 5 = 2 ∨ j % 5 = 3 ∨ j % 5 = 4 := by omega
    rcases h5 with h | h | h | h | h
    all_goals simp [madeCells, hj, h, pgc, pg0]
  · rw [List.getElem?_eq_none (by simp [madeCells]; omega), List.getElem?_eq_none (by rw [pc_len, List.length_replicate]; omega)]
theorem made_blocks (n : Nat) : (madeCells #[Value.int .i64 0, .slice none 0 0] (n * 2)).toList = bc (List.replicate n bk0) (List.replicate n (.slice none 0 0)) := by
  apply List.ext_getElem?
  intro j
  by_cases hj : j < n * 2
  · have hk : j / 2 < (List.replicate n bk0).length := by rw [List.length_replicate]; omega
    obtain ⟨e1, e2⟩ := bc_at (List.replicate n bk0) (List.replicate n (.slice none 0 0)) (j / 2) hk (by simp)
    have h2 : j % 2 = 0 ∨ j % 2 = 1 := by omega
    rcases h2 with h | h
    · rw [show j / 2 * 2 = j by omega, List.getElem_replicate] at e1
      rw [e1]
      simp [madeCells, hj, h, bk0]
    · rw [show j / 2 * 2 + 1 = j by omega, List.getElem?_replicate, if_pos (by omega)] at e2
      rw [e2]
      simp [madeCells, hj, h]
  · rw [List.getElem?_eq_none (by simp [madeCells]; omega), List.getElem?_eq_none (by rw [bc_len _ _ (by simp), List.length_replicate]; omega)]

/-- 'make([]Page, n)'. -/
theorem mk_pages {w : World} {ops : Array Oper} {rest : List Oper} {o : Oper} {a : Act} {Q : Exit → Act → World → Prop} (hgd : o.guard = none) (l c : Operand)
    (hop : o.op = Op.makeSlice 55 l c) (n : Nat) (hl : a.eval l = .int .i64 n) (hc : a.eval c = .int .i64 n) (hn : n ≤ 1000000000000)
    (hK : ∀ w', OP w' w.heap.size (.slice (some ⟨w.heap.size, 0, none⟩) n n) (List.replicate n pg0) → Below w.heap.size w w' → wpList Try.prog ops Q rest (a.put o.dst (.slice (some ⟨w.heap.size, 0, none⟩) n n)) w') :
    wpList Try.prog ops Q (o :: rest) a w := by
  obtain ⟨i0, hi0, hz0, hz1, hz2⟩ := info_parts Try.infoPg
  refine wpList_make_full w hgd l c 55 hop w.heap.size 40 i0 (.agg #[.bool false, .int .i64 0, .int .i64 0, .int .i64 0, .int .i64 0]) 5 Try.underlying55 hi0 hz0 hz1 .i64 .i64 n n n hl hc rfl rfl (by rw [hz2]; omega) (by simp [maxLen]; omega) (Nat.le_refl _) fun w' h1 h2 => ?_
  refine hK w' ⟨?_, fun p hp => by rw [List.eq_of_mem_replicate hp]; exact pg0_i⟩ ((Below.refl _ _).grown h2 (Nat.le_refl _) (by simp))
  rw [List.length_replicate, ← made_pages]
  exact h1
/-- 'make([]Block, n)'. -/
theorem mk_blocks {w : World} {ops : Array Oper} {rest : List Oper} {o : Oper} {a : Act} {Q : Exit → Act → World → Prop} (hgd : o.guard = none) (l c : Operand)
    (hop : o.op = Op.makeSlice 28 l c) (n : Nat) (hl : a.eval l = .int .i64 n) (hc : a.eval c = .int .i64 n) (hn : n ≤ 1000000000000)
    (hK : ∀ w', OD w' w.heap.size w'.heap.size (.slice (some ⟨w.heap.size, 0, none⟩) n n) (List.replicate n bk0) → Below w.heap.size w w' → wpList Try.prog ops Q rest (a.put o.dst (.slice (some ⟨w.heap.size, 0, none⟩) n n)) w') :
    wpList Try.prog ops Q (o :: rest) a w := by
  obtain ⟨i0, hi0, hz0, hz1, hz2⟩ := info_parts Try.infoBk
  refine wpList_make_full w hgd l c 28 hop w.heap.size 57 i0 (.agg #[.int .i64 0, .slice none 0 0]) 2 Try.underlying28 hi0 hz0 hz1 .i64 .i64 n n n hl hc rfl rfl (by rw [hz2]; omega) (by simp [maxLen]; omega) (Nat.le_refl _) fun w' h1 h2 => ?_
  refine hK w' ⟨List.replicate n (.slice none 0 0), ?_, fun b hb => (h1.lt b hb).2, ?_, fun b hb => by rw [List.eq_of_mem_replicate hb]; simp [bk0, I64]⟩ ((Below.refl _ _).grown h2 (Nat.le_refl _) (by simp))
  · rw [List.length_replicate, ← made_blocks]
    exact h1
  · refine ⟨by simp, fun k hk u hu => ?_, fun j k u u' _ hu _ b hb => ?_⟩
    · have hk2 : k < n := by simpa using hk
      have hu' : u = .slice none 0 0 := by simpa [List.getElem?_replicate, hk2] using hu.symm
      subst hu'
      refine ⟨?_, fun b hb => by simp [Value.ownBlock] at hb⟩
      have e : (List.map Bk.pages (List.replicate n bk0))[k] = [] := by simp [bk0]
      rw [e]
      exact op_nil _ _
    · have hjn : j < n := by simpa using (List.getElem?_eq_some_iff.1 hu).1
      have hu' : u = .slice none 0 0 := by simpa [List.getElem?_replicate, hjn] using hu.symm
      subst hu'
      simp [Value.ownBlock] at hb

set_option maxHeartbeats 1000000 in
theorem toPage_any (p : Pg) (w : World) : Calls Try.prog 59 #[pgv p] w fun e w' => e = .returned (pgv p) ∧ Below w.heap.size w w' := by
  obtain ⟨f, fi, pl, va, st⟩ := p
  unfold pgv
  go_enter Try.func59, Try.ntmps59
  go_wp2_with fail
  obtain ⟨e1, -⟩ := three_new (w := w) (.cells #[.bool f, .int .i64 fi, .int .i64 pl, .int .i64 va, .int .i64 st] 90) (.cells #[.bool f, .int .i64 fi, .int .i64 pl, .int .i64 va, .int .i64 st] 40) (.cells #[.bool f, .int .i64 fi, .int .i64 pl, .int .i64 va, .int .i64 st] 40) (Below.refl _ _)
  obtain ⟨s0, s1, s2, s3, s4⟩ := five_at (p := ⟨f, fi, pl, va, st⟩) e1
  simp only [Nat.zero_add] at s1 s2 s3 s4
  refine bodyPost_ret (v := .agg #[.bool f, .int .i64 fi, .int .i64 pl, .int .i64 va, .int .i64 st]) (by simp [results, Try.results59, go_sem, s0, s1, s2, s3, s4]) rfl ⟨rfl, ((balloc w _).trans ((balloc _ _).mono (by simp))).trans ((balloc _ _).mono (by simp; omega))⟩

def NewP (ps : List Pg) (w : World) (e : Ending) (w' : World) : Prop := ∃ v, e = .returned v ∧ OP w' w.heap.size v ps ∧ Below w.heap.size w w'
def NewD (d : List Bk) (w : World) (e : Ending) (w' : World) : Prop := ∃ v, e = .returned v ∧ OD w' w.heap.size w'.heap.size v d ∧ Below w.heap.size w w'

set_option maxHeartbeats 1000000 in
theorem toPageS_any (v : Value) (ps : List Pg) (lo hi : Nat) (w : World) (h : RP w lo hi v ps) (hx : ps.length ≤ 1048576) : Calls Try.prog 46 #[v] w (NewP ps w) := by
  obtain ⟨a, cap, b, off, rfl, q1, q2, q3, q4⟩ := h.open
  have Q4 := Lib.hid (And.intro q4 h.2)
  clear h q4
  go_enter Try.func46, Try.ntmps46
  go_wp2_with (refine mk_pages rfl _ _ rfl ps.length rfl rfl (by omega) ?_; intro w1 hown hb1)
  go_wp2_with fail
  go_loopw [4] (fun i wr => ∃ k : Nat, k ≤ ps.length ∧ i = .int .i64 k ∧ OP wr w.heap.size (.slice (some ⟨w.heap.size, 0, none⟩) ps.length ps.length) (padG pg0 ps k) ∧ Below w.heap.size w wr) (fun i _ => ps.length - (intOf i).toNat)
  case atStart => exact ⟨0, Nat.zero_le _, rfl, by rw [padG_zero]; exact hown, hb1⟩
  case round =>
    clear hown hb1
    obtain ⟨k, hk, rfl, hown, hbr⟩ := hrel
    have HC := Lib.hid (And.intro hown hbr)
    clear hown hbr
    by_cases hlt : k < ps.length
    · obtain rfl := q3 (by omega)
      have hki : (k : Int) < (ps.length : Int) := by omega
      obtain ⟨p, hp⟩ : ∃ p, p = ps[k] := ⟨_, rfl⟩
      have h5 := (Q4.out.1 k hlt).below HC.out.2
      rw [← hp] at h5
      obtain ⟨e0, e1, e2, e3, e4⟩ := h5
      have hpi : PgI p := by rw [hp]; exact Q4.out.2 _ (List.getElem_mem hlt)
      have HP := Lib.hid (And.intro hp hpi)
      clear q3 hp hpi
      go_wp2_with fail
      refine (toPage_any p _).mono ?_
      rintro e w2 ⟨rfl, b2⟩
      obtain ⟨g, cap2, he, -, ⟨⟨u0, x0⟩, ⟨u1, x1⟩, ⟨u2, x2⟩, ⟨u3, x3⟩, ⟨u4, x4⟩⟩, ⟨y0, y1, y2, y3, y4⟩, -, hput⟩ := (HC.out.1.below b2).page k (by rw [padG_len _ _ _ hk]; exact hlt)
      simp only [Value.slice.injEq, Option.some.injEq, Addr.mk.injEq, and_true] at he
      obtain ⟨rfl, -, -⟩ := he
      have hn := hput p HP.out.2
      rw [HP.out.1, padG_set pg0 ps k hlt, ← HP.out.1] at hn
      have hb3 := (bup2 HC.out.2 b2)
      have hc5 := (chg5 (Chg.refl (fun b => w.heap.size ≤ b) w2) (g := w.heap.size) (.inr (Nat.le_refl _)) (k * 5) (k * 5 + 1) (k * 5 + 2) (k * 5 + 3) (k * 5 + 4) (.bool p.full) (.int .i64 p.file) (.int .i64 p.place) (.int .i64 p.value) (.int .i64 p.stamp))
      have HR := Lib.hid (And.intro hn (hb3.trans (hc5.below hb3.size (fun i hi he => by omega))))
      unfold pgv
      clear hn hput hb3 hc5 b2 e0 e1 e2 e3 e4 HC
      go_wp2_with fail
      go_roundw
      case rel => exact ⟨k + 1, by omega, by go_num, HR.out.1, HR.out.2⟩
      case measure => simp [intOf]; omega
    · have hki : ¬ (k : Int) < (ps.length : Int) := by omega
      have HF : Hid (OP wr w.heap.size (.slice (some ⟨w.heap.size, 0, none⟩) ps.length ps.length) ps ∧ Below w.heap.size w wr) := by
        have := HC.out
        rw [padG_all pg0 ps k hlt] at this
        exact Lib.hid this
      go_wp2_with fail
      go_ret
      exact ⟨_, rfl, HF.out⟩

theorem RB1.mk'' {w : World} {lo hi : Nat} {s : Value} {b : Bk} (hp : RP w lo hi s b.pages) (hw : I64 b.wear) : RB1 w lo hi (.agg #[.int .i64 b.wear, s]) b := ⟨_, rfl, hw, hp⟩
set_option maxHeartbeats 1000000 in
theorem toBlock_any (v : Value) (b : Bk) (lo hi : Nat) (w : World) (h : RB1 w lo hi v b) (hx : b.pages.length ≤ 1048576) :
    Calls Try.prog 27 #[v] w fun e w' => ∃ u, e = .returned (.agg #[.int .i64 b.wear, u]) ∧ OP w' w.heap.size u b.pages ∧ Below w.heap.size w w' := by
  obtain ⟨s, rfl, hw, hp⟩ := h
  have HP := Lib.hid hp
  obtain ⟨a, cap, b0, off, rfl, -⟩ := hp.open
  have hb0 := ((balloc w (.cells #[.int .i64 b.wear, .slice a b.pages.length cap] 53)).alloc (by simp) (.cells #[.int .i64 0, .slice none 0 0] 57)).alloc (by simp; omega) (.cells #[.int .i64 b.wear, .slice none 0 0] 57)
  have HB := Lib.hid hb0
  clear hp hb0
  go_enter Try.func27, Try.ntmps27
  go_wp2_with fail
  refine (toPageS_any _ b.pages lo hi _ (HP.out.below HB.out) hx).mono ?_
  rintro e w2 ⟨u, rfl, o2, b2⟩
  obtain ⟨a2, cap2, b2', off2, rfl, -⟩ := o2.rp.open
  have HO := Lib.hid (And.intro o2 (And.intro b2 (bup2 HB.out b2)))
  obtain ⟨e1, e2⟩ := three_new (.cells #[.int .i64 b.wear, .slice a b.pages.length cap] 53) (.cells #[.int .i64 0, .slice none 0 0] 57) (.cells #[.int .i64 b.wear, .slice none 0 0] 57) b2
  obtain ⟨⟨d1, d2⟩, f1, f2⟩ := two_at e1
  obtain ⟨⟨d3, d4⟩, f3, f4⟩ := two_at e2
  clear o2 b2 e1 e2
  go_wp2_with fail
  refine bodyPost_ret (v := .agg #[.int .i64 b.wear, .slice a2 b.pages.length cap2]) (by simp [results, Try.results27, go_sem, d1, d2]) rfl ⟨_, rfl, ?_, ?_⟩
  all_goals have hc : Chg (fun b => b = w.heap.size + 1 + 1 ∨ b = w.heap.size + 1) w2 (((w2.setCell ⟨w.heap.size + 1 + 1, 1, none⟩ (.slice a2 b.pages.length cap2)).setCell ⟨w.heap.size + 1, 0, none⟩ (.int .i64 b.wear)).setCell ⟨w.heap.size + 1, 1, none⟩ (.slice a2 b.pages.length cap2)) :=
    (((Chg.refl _ w2).setCell (p := ⟨w.heap.size + 1 + 1, 1, none⟩) (.inr (.inl rfl)) _).setCell (p := ⟨w.heap.size + 1, 0, none⟩) (.inr (.inr rfl)) _).setCell (p := ⟨w.heap.size + 1, 1, none⟩) (.inr (.inr rfl)) _
  · exact (HO.out.1.chg hc (fun b hb _ hs => by simp at hb; omega)).wide (by simp; omega)
  · exact HO.out.2.2.trans (hc.below HO.out.2.2.size (fun i hi he => by omega))

theorem NewD.put {w wr w2 : World} {n : Nat} {d : List Bk} (k : Nat) (hk : k < d.length) (b : Bk) (h : OD wr w.heap.size wr.heap.size (.slice (some ⟨w.heap.size, 0, none⟩) d.length n) d) (u : Value) (o : OP w2 wr.heap.size u b.pages) (b2 : Below wr.heap.size wr w2) (hw : I64 b.wear) (hz : w.heap.size ≤ wr.heap.size) :
    ((∃ u, w2.cell? ⟨w.heap.size, k * 2, none⟩ = some u) ∧ ∃ u, w2.cell? ⟨w.heap.size, k * 2 + 1, none⟩ = some u) ∧ (w2.frozen? ⟨w.heap.size, k * 2, none⟩ = false ∧ w2.frozen? ⟨w.heap.size, k * 2 + 1, none⟩ = false) ∧
      OD ((w2.setCell ⟨w.heap.size, k * 2, none⟩ (.int .i64 b.wear)).setCell ⟨w.heap.size, k * 2 + 1, none⟩ u) w.heap.size ((w2.setCell ⟨w.heap.size, k * 2, none⟩ (.int .i64 b.wear)).setCell ⟨w.heap.size, k * 2 + 1, none⟩ u).heap.size (.slice (some ⟨w.heap.size, 0, none⟩) d.length n) (d.set k b) ∧
      Below w.heap.size w2 ((w2.setCell ⟨w.heap.size, k * 2, none⟩ (.int .i64 b.wear)).setCell ⟨w.heap.size, k * 2 + 1, none⟩ u) := by
  obtain ⟨g, cap, he, -, x, y, -, hput⟩ := (h.below b2).put (hi' := w2.heap.size) k hk
  simp only [Value.slice.injEq, Option.some.injEq, Addr.mk.injEq, and_true, true_and] at he
  obtain ⟨rfl, rfl⟩ := he
  have hp := hput u b (o.wide hz) hw (fun g hg => o.lt g hg) b2.size
  exact ⟨x, y, hp.mono (by simp [World.setCell]), ((Below.refl _ w2).setCell (p := ⟨w.heap.size, k * 2, none⟩) (Nat.le_refl _) _).setCell (p := ⟨w.heap.size, k * 2 + 1, none⟩) (Nat.le_refl _) _⟩

/-- How much a device weighs. -/
def dsz (d : List Bk) : Nat := d.length + (d.map fun b => b.pages.length).sum
theorem dsz_row {d : List Bk} (h : dsz d ≤ 1048576) : d.length ≤ 1048576 ∧ ∀ k (hk : k < d.length), d[k].pages.length ≤ 1048576 := by
  unfold dsz at h
  refine ⟨by omega, fun k hk => ?_⟩
  have : ∀ (l : List Nat) k (hk : k < l.length), l[k] ≤ l.sum := by
    intro l
    induction l with
    | nil => intro k hk; simp at hk
    | cons a l ih =>
      intro k hk
      cases k with
      | zero => simp
      | succ k => have := ih k (by simpa using hk); simp only [List.getElem_cons_succ, List.sum_cons]; omega
  have := this (d.map fun b => b.pages.length) k (by simpa using hk)
  simp only [List.getElem_map] at this
  omega

set_option maxHeartbeats 1000000 in
theorem toBlockS_any (v : Value) (d : List Bk) (lo hi : Nat) (w : World) (h : RD w lo hi v d) (hx : dsz d ≤ 1048576) : Calls Try.prog 7 #[v] w (NewD d w) := by
  have H := Lib.hid h
  obtain ⟨a, cap, b, off, rfl, q1, q2, q3, -⟩ := h.open
  obtain ⟨hx1, hx2⟩ := dsz_row hx
  have HX := Lib.hid hx2
  clear h hx hx2
  go_enter Try.func7, Try.ntmps7
  go_wp2_with (refine mk_blocks rfl _ _ rfl d.length rfl rfl (by omega) ?_; intro w1 hown hb1)
  go_wp2_with fail
  go_loopw [4] (fun i wr => ∃ k : Nat, k ≤ d.length ∧ i = .int .i64 k ∧ OD wr w.heap.size wr.heap.size (.slice (some ⟨w.heap.size, 0, none⟩) d.length d.length) (padG bk0 d k) ∧ Below w.heap.size w wr) (fun i _ => d.length - (intOf i).toNat)
  case atStart => exact ⟨0, Nat.zero_le _, rfl, by rw [padG_zero]; exact hown, hb1⟩
  case round =>
    clear hown hb1
    obtain ⟨k, hk, rfl, hown, hbr⟩ := hrel
    have HC := Lib.hid (And.intro hown hbr)
    clear hown hbr
    by_cases hlt : k < d.length
    · obtain rfl := q3 (by omega)
      have hki : (k : Int) < (d.length : Int) := by omega
      obtain ⟨a', cap', b', off', c1, c2, hp, hw, r1, r2, -⟩ := (H.out.below HC.out.2).at k hlt
      have hxk := HX.out k hlt
      have HP := Lib.hid (And.intro (RB1.mk'' hp hw) hw)
      clear q3 hp hw
      go_wp2_with fail
      refine (toBlock_any _ d[k] _ _ _ HP.out.1 hxk).mono ?_
      rintro e w2 ⟨u, rfl, o2, b2⟩
      obtain ⟨a2, cap2, b2', off2, rfl, -⟩ := o2.rp.open
      have hl := padG_len bk0 d k hk
      have hown := HC.out.1
      obtain ⟨⟨⟨u0, x0⟩, u1, x1⟩, ⟨y0, y1⟩, hn, hc⟩ := NewD.put (n := d.length) k (by rw [hl]; exact hlt) d[k] (by rw [hl]; exact hown) _ o2 b2 HP.out.2 HC.out.2.size
      rw [padG_set bk0 d k hlt, hl] at hn
      have HR := Lib.hid (And.intro hn ((bup2 HC.out.2 b2).trans hc))
      clear hn hc o2 b2 hown hl c1 c2
      go_wp2_with fail
      go_roundw
      case rel => exact ⟨k + 1, by omega, by go_num, HR.out.1, HR.out.2⟩
      case measure => simp [intOf]; omega
    · have hki : ¬ (k : Int) < (d.length : Int) := by omega
      have HF : Hid (OD wr w.heap.size wr.heap.size (.slice (some ⟨w.heap.size, 0, none⟩) d.length d.length) d ∧ Below w.heap.size w wr) := by
        have := HC.out
        rw [padG_all bk0 d k hlt] at this
        exact Lib.hid this
      go_wp2_with fail
      go_ret
      exact ⟨_, rfl, HF.out⟩

end Go.Proofs.Ytpfekeflkmafcaa
