/-
  The walks of the laws' marks over devices.
-/
import Derived.Test.YtpfekeflkmafcaaDvi
namespace Go.Proofs.Ytpfekeflkmafcaa
open Go.RowKit

def MarkP (v : Value) (ps : List Pg) (lo : Nat) (k : Nat) (w : World) (e : Ending) (w' : World) : Prop :=
  e = .returned (.int .i64 ((k + 5 * ps.length : Nat) : Int)) ∧ ∃ ps' : List Pg, ps'.length = ps.length ∧ OP w' lo v ps' ∧ Chg (fun b => v.ownBlock = some b) w w'

theorem chg5' {S : Nat → Prop} {w0 w : World} {g : Nat} (h : Chg S w0 w) (hg : S g) (a0 a1 a2 a3 a4 : Nat) (v0 v1 v2 v3 v4 : Value) :
    Chg S w0 (((((w.setCell ⟨g, a0, none⟩ v0).setCell ⟨g, a1, none⟩ v1).setCell ⟨g, a2, none⟩ v2).setCell ⟨g, a3, none⟩ v3).setCell ⟨g, a4, none⟩ v4) :=
  ((((h.setCell (p := ⟨g, a0, none⟩) (.inr hg) _).setCell (p := ⟨g, a1, none⟩) (.inr hg) _).setCell (p := ⟨g, a2, none⟩) (.inr hg) _).setCell (p := ⟨g, a3, none⟩) (.inr hg) _).setCell (p := ⟨g, a4, none⟩) (.inr hg) _

set_option maxHeartbeats 2000000 in
set_option maxRecDepth 4000 in
theorem markPageS_any (v : Value) (ps : List Pg) (lo : Nat) (k : Nat) (w : World) (h : OP w lo v ps) (hx : ps.length ≤ 1048576) (hk : k ≤ 1125899906842624) :
    Calls Try.prog 32 #[v, .int .i64 k] w (MarkP v ps lo k w) := by
  obtain ⟨a, cap, b, off, rfl, q1, q2, q3, -⟩ := h.rp.open
  have H := Lib.hid h
  clear h
  go_enter Try.func32, Try.ntmps32
  go_wp2_with fail
  go_loopw [1, 5] (fun m i wr => ∃ (j : Nat) (qs : List Pg), j ≤ ps.length ∧ i = .int .i64 j ∧ m = .int .i64 ((k + 5 * j : Nat) : Int) ∧ qs.length = ps.length ∧ OP wr lo (.slice a ps.length cap) qs ∧ Chg (fun b => (Value.slice a ps.length cap).ownBlock = some b) w wr) (fun _ i _ => ps.length - (intOf i).toNat)
  case atStart => exact ⟨0, ps, Nat.zero_le _, rfl, rfl, rfl, H.out, Chg.refl _ _⟩
  case round =>
    obtain ⟨j, qs, hj, rfl, rfl, hl, ho, hc⟩ := hrel
    by_cases hlt : j < ps.length
    · have hji : (j : Int) < (ps.length : Int) := by omega
      obtain ⟨g, cap2, he, -, ⟨⟨u0, x0⟩, ⟨u1, x1⟩, ⟨u2, x2⟩, ⟨u3, x3⟩, ⟨u4, x4⟩⟩, ⟨y0, y1, y2, y3, y4⟩, -, hput⟩ := ho.page j (by omega)
      simp only [Value.slice.injEq] at he
      obtain ⟨rfl, -, -⟩ := he
      obtain ⟨m, hm⟩ : ∃ m, m = k + 5 * j := ⟨_, rfl⟩
      have hm1 : m ≤ 2251799813685248 := by omega
      have hn := hput ⟨(m : Int) % 3 == 0, (m : Int) + 1, (m : Int) + 1 + 1, (m : Int) + 1 + 1 + 1, (m : Int) + 1 + 1 + 1 + 1⟩ (by unfold PgI I64; simp only; omega)
      have hc5 := chg5' hc (g := g) (by rfl) (j * 5) (j * 5 + 1) (j * 5 + 2) (j * 5 + 3) (j * 5 + 4) (.bool ((m : Int) % 3 == 0)) (.int .i64 ((m : Int) + 1)) (.int .i64 ((m : Int) + 1 + 1)) (.int .i64 ((m : Int) + 1 + 1 + 1)) (.int .i64 ((m : Int) + 1 + 1 + 1 + 1))
      have HR := Lib.hid (And.intro hn hc5)
      rw [← hm]
      have HM := Lib.hid hm
      clear hn hc5 ho hc hput hm q3
      go_wp2_with fail
      go_roundw
      case rel => exact ⟨j + 1, _, by omega, by go_num, by rw [show k + 5 * (j + 1) = m + 1 + 1 + 1 + 1 + 1 by have := HM.out; omega]; go_num, by rw [List.length_set]; exact hl, HR.out.1, HR.out.2⟩
      case measure => simp [intOf]; omega
    · have hji : ¬ (j : Int) < (ps.length : Int) := by omega
      obtain rfl : j = ps.length := by omega
      have HF := Lib.hid (And.intro hl (And.intro ho hc))
      clear hl ho hc q3
      go_wp2_with fail
      go_ret
      exact ⟨rfl, qs, HF.out.1, HF.out.2.1, HF.out.2.2⟩

def MarkD (v : Value) (lo hi : Nat) (k : Nat) (w : World) (e : Ending) (w' : World) : Prop :=
  (∃ k' : Nat, e = .returned (.int .i64 k') ∧ k ≤ k' ∧ k' ≤ k + 6291456) ∧ (∃ d' : List Bk, OD w' lo hi v d') ∧ Chg (fun b => lo ≤ b ∧ b < hi) w w'

theorem map_len_set {d e : List Bk} (h : e.map (fun b => b.pages.length) = d.map fun b => b.pages.length) {j : Nat} (hj : j < e.length) (x : Int) (ps : List Pg) (hp : ps.length = e[j].pages.length) :
    (e.set j ⟨x, ps⟩).map (fun b => b.pages.length) = d.map fun b => b.pages.length := by
  rw [List.map_set, ← h]
  show ((e.map fun b => b.pages.length).set j ps.length) = _
  rw [hp]
  apply List.ext_getElem?
  intro i
  by_cases e1 : j = i
  · subst e1; rw [List.getElem?_set_self (by simpa using hj)]; simp [hj]
  · rw [List.getElem?_set_ne e1]

theorem bsum_drop_le (d : List Bk) (j : Nat) : bsum (d.drop j) ≤ bsum d := by
  have h : bsum d = bsum (d.take j) + bsum (d.drop j) := by
    unfold bsum
    rw [← List.sum_append, ← List.map_append, List.take_append_drop]
  omega

set_option maxHeartbeats 2000000 in
set_option maxRecDepth 4000 in
theorem markBlockS_any (v : Value) (d : List Bk) (lo hi : Nat) (k : Nat) (w : World) (h : OD w lo hi v d) (hx : dsz d ≤ 1048576) (hk : k ≤ 562949953421312) :
    Calls Try.prog 11 #[v, .int .i64 k] w (MarkD v lo hi k w) := by
  obtain ⟨a, cap, b, off, rfl, q1, q2, q3, -⟩ := h.rd.open
  have H := Lib.hid h
  have hxx : d.length + bsum d ≤ 1048576 := hx
  clear h hx
  go_enter Try.func11, Try.ntmps11
  go_wp2_with fail
  go_loopw [1, 5] (fun m i wr => ∃ (j n : Nat) (e : List Bk), j ≤ d.length ∧ i = .int .i64 j ∧ m = .int .i64 (n : Int) ∧ n + 5 * bsum (d.drop j) = k + j + 5 * bsum d ∧ e.map (fun b => b.pages.length) = d.map (fun b => b.pages.length) ∧ OD wr lo hi (.slice a d.length cap) e ∧ Chg (fun b => lo ≤ b ∧ b < hi) w wr) (fun _ i _ => d.length - (intOf i).toNat)
  case atStart => exact ⟨0, k, d, Nat.zero_le _, rfl, rfl, by simp, rfl, H.out, Chg.refl _ _⟩
  case round =>
    obtain ⟨j, n, e, hj, rfl, rfl, hn, hl, ho, hc⟩ := hrel
    have hel : e.length = d.length := by have := congrArg List.length hl; simpa using this
    by_cases hlt : j < d.length
    · have hji : (j : Int) < (d.length : Int) := by omega
      have hje : j < e.length := by omega
      have hbd := bsum_drop d j hlt
      have hpl : e[j].pages.length = d[j].pages.length := by
        have h1 : (e.map fun b => b.pages.length)[j]? = (d.map fun b => b.pages.length)[j]? := by rw [hl]
        simpa [hje, hlt] using h1
      obtain ⟨g, cap2, he, -, ⟨u0, x0⟩, y0, ⟨g1, g2⟩, hset⟩ := ho.setw j hje
      simp only [Value.slice.injEq] at he
      obtain ⟨rfl, -, -⟩ := he
      have ho1 := hset (n : Int) (by unfold I64; omega)
      have hc1 : Chg (fun b => lo ≤ b ∧ b < hi) w (wr.setCell ⟨g, j * 2, none⟩ (.int .i64 n)) := hc.setCell (p := ⟨g, j * 2, none⟩) (.inr ⟨g1, g2⟩) _
      have hl1 := map_len_set hl hje (n : Int) e[j].pages rfl
      have hset' : j < (e.set j ⟨(n : Int), e[j].pages⟩).length := by rw [List.length_set]; exact hje
      obtain ⟨g', cap3, u, he, -, hcu, hop, hub, hin⟩ := ho1.inner j hset'
      simp only [Value.slice.injEq, Option.some.injEq, Addr.mk.injEq, and_true] at he
      obtain ⟨rfl, -, rfl⟩ := he
      simp only [List.getElem_set_self] at hop hin
      have hpx : e[j].pages.length ≤ 1048576 := by have := bsum_drop_le d j; omega
      have hmk := markPageS_any u e[j].pages lo (n + 1) (wr.setCell ⟨g, j * 2, none⟩ (.int .i64 n)) hop hpx (by omega)
      obtain ⟨au, capu, bu, offu, rfl, -⟩ := hop.rp.open
      rw [show (((n + 1 : Nat) : Int)) = (n : Int) + 1 by omega] at hmk
      have HM := Lib.hid hmk
      have HI := Lib.hid hin
      have HC := Lib.hid (And.intro hc1 hub)
      have HL := Lib.hid (And.intro hl1 hset')
      have hnn : n ≤ 1125899906842624 := by omega
      have HN := Lib.hid (And.intro hbd (And.intro hpl hn))
      clear hc1 hub hmk hin hop ho1 hset ho hc hl hl1 hset' hbd hn q3 hpl hpx
      go_wp2_with fail
      refine HM.out.mono ?_
      rintro ex w2 ⟨rfl, ps', hps, hop2, hc2⟩
      have HO := Lib.hid (And.intro (HI.out w2 ps' hc2 hop2) (HC.out.1.trans (hc2.mono fun b _ hb => HC.out.2 b hb)))
      have HQ := Lib.hid hps
      clear hc2 hop2 hps
      go_wp2_with fail
      go_roundw
      case rel =>
        refine ⟨j + 1, n + 1 + 5 * e[j].pages.length, _, by omega, by go_num, rfl, ?_, ?_, HO.out.1, HO.out.2⟩
        · have := HN.out.1; have := HN.out.2.1; have := HN.out.2.2; omega
        · exact map_len_set HL.out.1 HL.out.2 _ _ (by rw [List.getElem_set_self]; exact HQ.out)
      case measure => simp [intOf]; omega
    · have hji : ¬ (j : Int) < (d.length : Int) := by omega
      have hbe := bsum_end d j hlt
      have HF := Lib.hid (And.intro ho hc)
      have hn2 : k ≤ n ∧ n ≤ k + 6291456 := by omega
      clear ho hc hl hn hbe q3
      go_wp2_with fail
      go_ret
      exact ⟨⟨n, rfl, hn2⟩, ⟨e, HF.out.1⟩, HF.out.2⟩

end Go.Proofs.Ytpfekeflkmafcaa
