/-
  Texts of this claim, laid together: Rdh.
-/
import Derived.Deep.QuietTactic
import Derived.BigQuiet
import Derived.Laws.Bits64
import Derived.Test.YtjmofmdcegefgaaQ01
namespace Go.Proofs.Ytjmofmdcegefgaa
open Go.RowKit

/-- Block rb is a reader at place p. -/
def Rd (H : Nat) (w : World) (rb p : Nat) : Prop := H ≤ rb ∧ ∃ (v : Value) (bs : List Int), w.heap[rb]? = some (.cells #[v, .int .i64 p] 90 (0, 0)) ∧ RB w 0 H v bs ∧ bs.length ≤ 2000
variable {H : Nat}

theorem Rd.lt {w : World} {rb p : Nat} (h : Rd H w rb p) : rb < w.heap.size := by
  obtain ⟨-, v, bs, h1, _⟩ := h
  exact (Array.getElem?_eq_some_iff.1 h1).1

theorem Rd.kept {w w' : World} {rb p : Nat} (h : Rd H w rb p) (hk : Below w.heap.size w w') : Rd H w' rb p := by
  have hlt := h.lt
  obtain ⟨hH, v, bs, h1, h2, h3⟩ := h
  exact ⟨hH, v, bs, (hk.block rb hlt).trans h1, h2.below hk, h3⟩

/-- What pick answers. -/
def PickPost (H rb p : Nat) (m : Int) (w : World) (e : Ending) (w' : World) : Prop :=
  ∃ k : Int, e = .returned (.int .i64 k) ∧ 0 ≤ k ∧ (1 ≤ m → k < m) ∧ Rd H w' rb (p + 1) ∧ Chg (· = rb) w w' ∧ w'.heap.size = w.heap.size

theorem xor_i64 (a b : Nat) (ha : a < 9223372036854775808) (hb : b < 9223372036854775808) : bits .xor .i64 (a : Int) (b : Int) = ((a ^^^ b : Nat) : Int) := by
  have hx : a ^^^ b < 2 ^ 63 := Nat.xor_lt_two_pow (by omega) (by omega)
  have h1 : (BitVec.ofInt 64 (a : Int)).toNat = a := by
    rw [BitVec.ofInt_natCast, BitVec.toNat_ofNat]; exact Nat.mod_eq_of_lt (by omega)
  have h2 : (BitVec.ofInt 64 (b : Int)).toNat = b := by
    rw [BitVec.ofInt_natCast, BitVec.toNat_ofNat]; exact Nat.mod_eq_of_lt (by omega)
  show IntKind.i64.wrap ((BitVec.ofInt 64 (a : Int) ^^^ BitVec.ofInt 64 (b : Int)).toNat : Int) = _
  rw [BitVec.toNat_xor, h1, h2, IntKind.wrap_i64]
  omega

theorem xor_bd (a b : Int) (ha : 0 ≤ a) (ha' : a < 4611686018427387904) (hb : 0 ≤ b) (hb' : b < 4611686018427387904) :
    0 ≤ bits .xor .i64 a b ∧ bits .xor .i64 a b < 4611686018427387904 := by
  obtain ⟨a, rfl⟩ := Int.eq_ofNat_of_zero_le ha
  obtain ⟨b, rfl⟩ := Int.eq_ofNat_of_zero_le hb
  rw [xor_i64 a b (by omega) (by omega)]
  have hx : a ^^^ b < 2 ^ 62 := Nat.xor_lt_two_pow (by omega) (by omega)
  omega

theorem rd_step {w : World} {rb p : Nat} {v : Value} {bs : List Int} (h1 : w.heap[rb]? = some (.cells #[v, .int .i64 p] 90 (0, 0))) (h2 : RB w 0 H v bs) (h3 : bs.length ≤ 2000) (hH : H ≤ rb) (n : Nat) :
    Rd H ((w.setCell ⟨rb, 1, none⟩ (.int .i64 ((p : Int) + 1))).drewN n) rb (p + 1) ∧ Chg (· = rb) w ((w.setCell ⟨rb, 1, none⟩ (.int .i64 ((p : Int) + 1))).drewN n) ∧ ((w.setCell ⟨rb, 1, none⟩ (.int .i64 ((p : Int) + 1))).drewN n).heap.size = w.heap.size := by
  have hc : Chg (· = rb) w ((w.setCell ⟨rb, 1, none⟩ (.int .i64 ((p : Int) + 1))).drewN n) := (Chg.setCell (Chg.refl (· = rb) w) (p := ⟨rb, 1, none⟩) (.inr rfl) _).drewN n
  refine ⟨⟨hH, v, bs, ?_, h2.chg hc (fun b _ hb => by show ¬ b = rb; omega), h3⟩, hc, by simp [World.setCell, World.drewN]⟩
  show (w.setCell ⟨rb, 1, none⟩ (.int .i64 ((p : Int) + 1))).heap[rb]? = _
  rw [heap_setCell_same w rb 1 _ _ _ h1]
  simp

set_option maxHeartbeats 400000 in
theorem pick_any (w : World) (rb p : Nat) (m : Int) (hr : Rd H w rb p) (hp : p ≤ 1000000) (hm1 : -1000000 ≤ m) (hm : m ≤ 1000000) :
    Calls Try.prog 54 #[.pointer (some ⟨rb, 0, none⟩), .int .i64 m] w (PickPost H rb p m w) := by
  obtain ⟨hH, v, bs, h1, h2, h3⟩ := hr
  have hst := rd_step h1 h2 h3 hH
  have Hst := Lib.hid hst
  clear hst
  obtain ⟨a, cap, b, off, rfl, q1, q2, q3, q4⟩ := h2.open
  have hby := h2.2
  have c0 : w.cell? ⟨rb, 0, none⟩ = some (.slice a bs.length cap) := by simp [World.cell?, h1]
  have c1 : w.cell? ⟨rb, 1, none⟩ = some (.int .i64 p) := by simp [World.cell?, h1]
  have f1 : w.frozen? ⟨rb, 1, none⟩ = false := by simp [World.frozen?, h1]
  have H1 := Lib.hid h1
  clear h1 h2
  by_cases hz : m < 1
  · go_enter Try.func54, Try.ntmps54
    go_wp2
    go_ret
    exact ⟨0, rfl, by omega, by omega, Hst.out 0⟩
  · have hz' : 1 ≤ m := by omega
    clear hz
    by_cases hl : bs.length = 0
    · have hl' : (((bs.length : Nat) : Int) == 0) = true := by simp [hl]
      go_enter Try.func54, Try.ntmps54
      go_wp2
      go_ret
      exact ⟨0, rfl, by omega, by omega, Hst.out 0⟩
    · have hl' : (((bs.length : Nat) : Int) == 0) = false := by simp; intro h; simp [h] at hl
      have hl0 : 0 < bs.length := by omega
      obtain ⟨rfl, hb⟩ := q3 hl0
      have hne : b ≠ rb := by omega
      clear hl
      by_cases hk : p < bs.length
      · have hc := q4 p hk
        have hbb := hby bs[p] (List.getElem_mem hk)
        clear q4 hby
        go_enter Try.func54, Try.ntmps54
        go_wp2
        go_ret
        exact ⟨_, rfl, Int.emod_nonneg _ (by omega), fun _ => Int.emod_lt_of_pos _ (by omega), Hst.out 0⟩
      · have i1 : p % bs.length < bs.length := Nat.mod_lt _ hl0
        have i2 : (p * 7 + 3) % bs.length < bs.length := Nat.mod_lt _ hl0
        have hc1 := q4 _ i1
        have hc2 := q4 _ i2
        have hb1 := hby _ (List.getElem_mem i1)
        have hb2 := hby _ (List.getElem_mem i2)
        clear q4 hby
        have e2 : ((p : Int) * 7 + 3) % (bs.length : Int) = (((p * 7 + 3) % bs.length : Nat) : Int) := by simp
        have j0 : 0 ≤ ((p : Int) * 7 + 3) % (bs.length : Int) := by omega
        have j1 : ((p : Int) * 7 + 3) % (bs.length : Int) < (bs.length : Int) := by omega
        have e3 : (((p : Int) * 7 + 3) % (bs.length : Int)).toNat = (p * 7 + 3) % bs.length := by omega
        clear e2
        have hd0 : 0 ≤ (p : Int) / (bs.length : Int) := Int.ediv_nonneg (by omega) (by omega)
        have hd1 : (p : Int) / (bs.length : Int) ≤ p := Int.ediv_le_self _ (by omega)
        go_enter Try.func54, Try.ntmps54
        go_wp2
        go_quiet (fail)
        go_wp2
        go_ret
        have x1 := xor_bd (bs[p % bs.length] * 131 + bs[(p * 7 + 3) % bs.length] * 1117 + (p : Int) * 29 + (p : Int) / (bs.length : Int) * 53) ((bs[p % bs.length] * 131 + bs[(p * 7 + 3) % bs.length] * 1117 + (p : Int) * 29 + (p : Int) / (bs.length : Int) * 53) / 64) (by omega) (by omega) (by omega) (by omega)
        exact ⟨_, rfl, Int.tmod_nonneg _ x1.1, fun _ => Int.tmod_lt_of_pos _ (by omega), Hst.out _⟩
/-- Block rb is a reader that has come to place m at most. -/
def RdLe (H : Nat) (w : World) (rb m : Nat) : Prop := ∃ p, p ≤ m ∧ Rd H w rb p
theorem RdLe.kept {w w' : World} {rb m : Nat} (h : RdLe H w rb m) (hk : Below w.heap.size w w') : RdLe H w' rb m := by
  obtain ⟨p, h1, h2⟩ := h
  exact ⟨p, h1, h2.kept hk⟩
theorem RdLe.lt {w : World} {rb m : Nat} (h : RdLe H w rb m) : rb < w.heap.size := by
  obtain ⟨p, h1, h2⟩ := h
  exact h2.lt
theorem RdLe.up {w : World} {rb m m' : Nat} (h : RdLe H w rb m) (hm : m ≤ m') : RdLe H w rb m' := by
  obtain ⟨p, h1, h2⟩ := h
  exact ⟨p, by omega, h2⟩

theorem RdLe.chg {S : Nat → Prop} {w w' : World} {rb m : Nat} (h : RdLe H w rb m) (hk : Chg S w w') (hs : ∀ k, k ≤ rb → ¬ S k) : RdLe H w' rb m := by
  have hlt := h.lt
  obtain ⟨p, h1, hH, v, bs, g1, g2, g3⟩ := h
  exact ⟨p, h1, hH, v, bs, (hk.block rb hlt (hs rb (Nat.le_refl _))).trans g1, g2.chg hk (fun b _ hb => hs b (by omega)), g3⟩
theorem RdLe.chg2 {S : Nat → Prop} {w w' : World} {rb m : Nat} (h : RdLe H w rb m) (hk : Chg S w w') (h0 : ¬ S rb) (hs : ∀ k, k < H → ¬ S k) : RdLe H w' rb m := by
  have hlt := h.lt
  obtain ⟨p, h1, hH, v, bs, g1, g2, g3⟩ := h
  exact ⟨p, h1, hH, v, bs, (hk.block rb hlt h0).trans g1, g2.chg hk (fun b _ hb => hs b hb), g3⟩

/-- A number below m was drawn. -/
def PickR (H rb q : Nat) (m : Int) (w : World) (e : Ending) (w' : World) : Prop :=
  ∃ k : Int, e = .returned (.int .i64 k) ∧ 0 ≤ k ∧ k < m ∧ RdLe H w' rb (q + 1) ∧ Chg (· = rb) w w' ∧ w'.heap.size = w.heap.size

theorem pick_le (w : World) (rb q : Nat) (m : Int) (hr : RdLe H w rb q) (hq : q ≤ 1000000) (hm1 : 1 ≤ m) (hm : m ≤ 1000000) :
    Calls Try.prog 54 #[.pointer (some ⟨rb, 0, none⟩), .int .i64 m] w (PickR H rb q m w) := by
  obtain ⟨p, hp, hr⟩ := hr
  refine (pick_any w rb p m hr (by omega) (by omega) hm).mono ?_
  rintro e w' ⟨k, rfl, h1, h2, h3, h4, h5⟩
  exact ⟨k, rfl, h1, h2 hm1, ⟨p + 1, by omega, h3⟩, h4, h5⟩

/-- Some bool was drawn. -/
def OddR (H rb q : Nat) (w : World) (e : Ending) (w' : World) : Prop :=
  ∃ b : Bool, e = .returned (.bool b) ∧ RdLe H w' rb (q + 1) ∧ Chg (· = rb) w w' ∧ w'.heap.size = w.heap.size

set_option maxHeartbeats 400000 in
theorem odd_le (w : World) (rb q : Nat) (m : Int) (hr : RdLe H w rb q) (hq : q ≤ 1000000) (hm1 : 0 ≤ m) (hm : m ≤ 1000000) :
    Calls Try.prog 71 #[.pointer (some ⟨rb, 0, none⟩), .int .i64 m] w (OddR H rb q w) := by
  have HR := Lib.hid hr
  clear hr
  by_cases h0 : 0 < m
  · go_enter Try.func71, Try.ntmps71
    go_wp2_with fail
    refine (pick_le _ rb q m HR.out hq (by omega) hm).mono ?_
    rintro e w' ⟨k, rfl, k0, k1, r1, c1, s1⟩
    have HF := Lib.hid (And.intro r1 (And.intro c1 s1))
    clear r1 c1 s1
    go_wp2_with fail
    all_goals (go_ret; exact ⟨_, rfl, HF.out.1, HF.out.2.1, HF.out.2.2⟩)
  · have hd : decide (0 < m) = false := by simpa using h0
    go_enter Try.func71, Try.ntmps71
    go_wp2_with fail
    all_goals (go_ret; exact ⟨_, rfl, HR.out.up (by omega), Chg.refl _ _, rfl⟩)

/-- A reader in new memory. -/
def OpenR (H : Nat) (w : World) (e : Ending) (w' : World) : Prop := ∃ rb, e = .returned (.pointer (some ⟨rb, 0, none⟩)) ∧ w.heap.size ≤ rb ∧ RdLe H w' rb 0 ∧ Below w.heap.size w w'

set_option maxHeartbeats 400000 in
theorem open_any (w : World) (v : Value) (bs : List Int) (h : RB w 0 H v bs) (hHw : H ≤ w.heap.size) : Calls Try.prog 48 #[v] w (OpenR H w) := by
  have hb := h
  obtain ⟨⟨hl, a, cap, b, off, rfl, h1, h2, h3, h4⟩, hw⟩ := h
  have h2' : cap ≤ 9223372036854775807 := by simpa [maxLen] using h2
  by_cases hn : bs.length ≤ 2000
  · have HF : Hid (RdLe H (w.alloc (.cells #[.slice a bs.length cap, .int .i64 0] 90)) w.heap.size 0) := by
      refine ⟨0, Nat.le_refl _, hHw, .slice a bs.length cap, bs, heap_alloc_new w _, hb.below ((Below.refl _ _).alloc (Nat.le_refl _) _), hn⟩
    clear hb h4 h3
    go_enter Try.func48, Try.ntmps48
    go_wp2
    go_ret
    exact ⟨w.heap.size, rfl, Nat.le_refl _, HF.out, (Below.refl _ _).alloc (Nat.le_refl _) _⟩
  · obtain ⟨rfl, -, hbs⟩ := h3 (by omega)
    have HF : Hid (RdLe H (w.alloc (.cells #[.slice (some ⟨b, off, none⟩) 2000 cap, .int .i64 0] 90)) w.heap.size 0) := by
      refine ⟨0, Nat.le_refl _, hHw, .slice (some ⟨b, off, none⟩) 2000 cap, bs.take 2000, heap_alloc_new w _, ?_, by simp; omega⟩
      have hlt : (bs.take 2000).length = 2000 := by simp; omega
      have : RB w 0 H (.slice (some ⟨b, off, none⟩) 2000 cap) (bs.take 2000) := by
        refine ⟨⟨by simp, some ⟨b, off, none⟩, cap, b, off, by rw [hlt], by omega, h2, fun _ => ⟨rfl, Nat.zero_le _, hbs⟩, fun j hj => ?_⟩, fun x hx => hw x (List.mem_of_mem_take hx)⟩
        rw [h4 j (by omega), List.map_take, List.getElem?_take, if_pos (by omega)]
      exact this.below ((Below.refl _ _).alloc (Nat.le_refl _) _)
    clear hb h4 h3
    go_enter Try.func48, Try.ntmps48
    go_wp2
    go_ret
    exact ⟨w.heap.size, rfl, Nat.le_refl _, HF.out, (Below.refl _ _).alloc (Nat.le_refl _) _⟩
end Go.Proofs.Ytjmofmdcegefgaa

