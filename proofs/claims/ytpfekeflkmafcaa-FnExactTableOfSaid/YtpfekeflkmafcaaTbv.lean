/-
  TableValid, of the program and of the reference.
-/
import Derived.Test.YtpfekeflkmafcaaTab
import Derived.Test.YtpfekeflkmafcaaTbp
namespace Go.Proofs.Ytpfekeflkmafcaa
open Go.RowKit

theorem Try.infoB : (Try.prog.info? 4).map (fun i => (i.zero, i.size, i.bytes)) = some (some (.bool false), 1, 1) := by kernel_rfl

theorem one_at {w : World} {B : Nat} {u : Value} {t : TypeId} (h : w.heap[B]? = some (.cells #[u] t (0, 0))) : w.cell? ⟨B, 0, none⟩ = some u ∧ w.frozen? ⟨B, 0, none⟩ = false := by
  simp [World.cell?, World.frozen?, h]
theorem pageNumber_any (n : Int) (w : World) : Calls Try.prog 42 #[.int .i64 n] w fun e w' => e = .returned (.bool (inB n (-1) 47)) ∧ w = w' := by
  by_cases h : -1 ≤ n
  · by_cases h2 : n ≤ 47
    · rw [inB_yes h h2]
      go_enter Try.func42, Try.ntmps42
      go_wp2
      go_ret
      exact ⟨by first | rfl | (simp; omega), rfl⟩
    · rw [inB_no (by omega)]
      go_enter Try.func42, Try.ntmps42
      go_wp2
      go_ret
      exact ⟨by first | rfl | (simp; omega), rfl⟩
  · rw [inB_no (by omega)]
    have h' : decide (-1 ≤ n) = false := by simp; omega
    go_enter Try.func42, Try.ntmps42
    go_wp2
    go_ret
    exact ⟨by first | rfl | (simp; omega), rfl⟩

/-- 48 marks: the pages that have come. -/
def Seen (w : World) (B : Nat) (P : List Int) : Prop := ∀ m : Nat, m < 48 → w.cell? ⟨B, m, none⟩ = some (.bool (decide ((m : Int) ∈ P))) ∧ w.frozen? ⟨B, m, none⟩ = false
theorem Seen.step {w : World} {B : Nat} {P : List Int} (h : Seen w B P) (m : Nat) : Seen (w.setCell ⟨B, m, none⟩ (.bool true)) B (P ++ [(m : Int)]) := by
  intro j hj
  obtain ⟨c1, f1⟩ := h j hj
  refine ⟨?_, by rw [World.frozen?_setCell]; exact f1⟩
  by_cases e : m = j
  · subst e
    rw [World.cell?_setCell_same (h := c1)]; simp
  · rw [World.cell?_setCell_other (h := (show (⟨B, m, none⟩ : Addr) ≠ ⟨B, j, none⟩ from fun h => e (by cases h; rfl))), c1]
    have : ((j : Int) ∈ P ++ [(m : Int)]) ↔ (j : Int) ∈ P := by simp; omega
    simp only [this]
theorem Seen.skip {w : World} {B : Nat} {P : List Int} (h : Seen w B P) {x : Int} (hx : x < 0) : Seen w B (P ++ [x]) := by
  intro j hj
  obtain ⟨c1, f1⟩ := h j hj
  refine ⟨?_, f1⟩
  have : ((j : Int) ∈ P ++ [x]) ↔ (j : Int) ∈ P := by simp; omega
  simp only [this]; exact c1

theorem seen_new (w : World) (t : TypeId) (cs : Array Value) (B : Nat) (hB : w.heap.size = B) (h : cs = Array.replicate 48 (.bool false)) : Seen (w.alloc (.cells cs t)) B [] := by
  subst h; subst hB
  intro m hm
  simp only [World.cell?, World.frozen?, heap_alloc_new]
  simp [hm]

set_option maxHeartbeats 4000000 in
theorem implTbv_any (v : Value) (t : List (List Int)) (lo hi : Nat) (w : World) (h : RT w lo hi v t) :
    Calls Try.prog 22 #[.agg #[v]] w fun e w' => e = .returned (.bool (tabVal t)) ∧ Below w.heap.size w w' := by
  obtain ⟨a, cap, b, off, rfl, q1, q2, q3, q4⟩ := h.open
  have Q4 := Lib.hid q4
  clear h q4
  by_cases h8 : t.length = 8
  · have hb8 : (((t.length : Nat) : Int) != 8) = false := by simp [h8]
    obtain rfl := q3 (by omega)
    generalize hR : tabVal t = R
    have HR := Lib.hid hR
    have H8 := Lib.hid h8
    clear hR h8 q3
    go_enter Try.func22, Try.ntmps22
    go_wp2_with fail
    go_loopw [5, 7, 15] (fun _ _ i wr => ∃ f : Nat, f ≤ t.length ∧ i = .int .i64 f ∧ Below w.heap.size w wr ∧ w.heap.size + 1 < wr.heap.size ∧ Hid (Seen wr (w.heap.size + 1) ((t.take f).flatten) ∧ okP ((t.take f).flatten) = true ∧ ∀ j (hj : j < t.length), j < f → t[j].length = 6)) (fun _ _ i _ => t.length - (intOf i).toNat)
    case atStart => exact ⟨0, Nat.zero_le _, rfl, ((Below.refl _ _).alloc (Nat.le_refl _) _).alloc (by simp) _, by simp, Lib.hid ⟨seen_new _ _ _ _ (by simp) rfl, by simpa using okP_nil, fun j hj h => absurd h (Nat.not_lt_zero _)⟩⟩
    case round =>
      obtain ⟨wo, rfl⟩ : ∃ wo : World, wo = wr := ⟨_, rfl⟩
      obtain ⟨f, hf, rfl, hbr, hz, HS⟩ := hrel
      have HB := Lib.hid hbr
      clear hbr
      by_cases hlt : f < t.length
      · obtain ⟨u, hcu, hu⟩ := Q4.out f hlt
        have c1 := cell_later HB.out hcu
        obtain ⟨a2, cap2, b2, off2, rfl, s1, s2, s3, s4⟩ := hu.open
        have S4 := Lib.hid s4
        clear hcu hu s4
        by_cases h6 : t[f].length = 6
        · have hb6 : (((t[f].length : Nat) : Int) != 6) = false := by simp [h6]
          have H6 := Lib.hid h6
          obtain rfl := s3 (by omega)
          clear s3 h6
          go_wp2_with fail
          go_loopw [7, 24] (fun _ i wr => ∃ p : Nat, p ≤ t[f].length ∧ i = .int .i64 p ∧ Below w.heap.size w wr ∧ w.heap.size + 1 < wr.heap.size ∧ Hid (Seen wr (w.heap.size + 1) (pre t f p) ∧ okP (pre t f p) = true)) (fun _ i _ => t[f].length - (intOf i).toNat)
          case atStart => exact ⟨0, Nat.zero_le _, rfl, HB.out, hz, Lib.hid ⟨by rw [pre_zero]; exact HS.out.1, by rw [pre_zero]; exact HS.out.2.1⟩⟩
          case round =>
            obtain ⟨p, hp, rfl, hbq, hzq, HP⟩ := hrel
            have HBQ := Lib.hid hbq
            clear hbq
            by_cases hpl : p < t[f].length
            · have hc := cell_later HBQ.out (S4.out p hpl)
              have HPS := Lib.hid (pre_succ hlt hpl)
              have HNO := Lib.hid (fun h => tab_no_at (p := p + 1) hlt h)
              obtain ⟨x, hx⟩ : ∃ x, x = t[f][p] := ⟨_, rfl⟩
              rw [← hx] at hc HPS
              clear hx
              by_cases hin : -1 ≤ x ∧ x ≤ 47
              · have hib := inB_yes hin.1 hin.2
                by_cases h0 : 0 ≤ x
                · obtain ⟨m, rfl⟩ := Int.eq_ofNat_of_zero_le h0
                  have hm : m < 48 := by omega
                  obtain ⟨d1, d2⟩ := HP.out.1 m hm
                  clear hin h0
                  by_cases hse : (m : Int) ∈ pre t f p
                  · have hd : decide ((m : Int) ∈ pre t f p) = true := by simpa using hse
                    have HF := Lib.hid (show R = false by
                      rw [← HR.out]; refine HNO.out ?_
                      rw [HPS.out]
                      cases hv : okP (pre t f p ++ [(m : Int)]) with
                      | false => rfl
                      | true => exact absurd ⟨by omega, hse⟩ (okP_snoc.1 hv).2.2)
                    clear hse
                    go_wp2_with (go_at_call 42; refine (pageNumber_any _ _).mono ?_; rintro e w' ⟨rfl, rfl⟩)
                    go_ret
                    exact ⟨ret_bool (by rw [HF.out]), HBQ.out⟩
                  · have hd : decide ((m : Int) ∈ pre t f p) = false := by simpa using hse
                    have HN : Hid (Seen (wr.setCell ⟨w.heap.size + 1, m, none⟩ (.bool true)) (w.heap.size + 1) (pre t f (p + 1)) ∧ okP (pre t f (p + 1)) = true) := Lib.hid (by
                      rw [HPS.out]
                      exact ⟨HP.out.1.step m, okP_snoc.2 ⟨HP.out.2, by omega, fun h => hse h.2⟩⟩)
                    have HB3 := Lib.hid (HBQ.out.setCell (p := ⟨w.heap.size + 1, m, none⟩) (by show w.heap.size ≤ w.heap.size + 1; omega) (.bool true))
                    clear hse
                    go_wp2_with (go_at_call 42; refine (pageNumber_any _ _).mono ?_; rintro e w' ⟨rfl, rfl⟩)
                    go_roundw
                    case rel => exact ⟨p + 1, by omega, by go_num, HB3.out, by simp [World.setCell]; omega, HN⟩
                    case measure => simp [intOf]; omega
                · have hd : decide (0 ≤ x) = false := by simp; omega
                  have HN : Hid (Seen wr (w.heap.size + 1) (pre t f (p + 1)) ∧ okP (pre t f (p + 1)) = true) := Lib.hid (by
                    rw [HPS.out]
                    exact ⟨HP.out.1.skip (by omega), okP_snoc.2 ⟨HP.out.2, hin, fun h => h0 h.1⟩⟩)
                  go_wp2_with (go_at_call 42; refine (pageNumber_any _ _).mono ?_; rintro e w' ⟨rfl, rfl⟩)
                  go_roundw
                  case rel => exact ⟨p + 1, by omega, by go_num, HBQ.out, hzq, HN⟩
                  case measure => simp [intOf]; omega
              · have hib : inB x (-1) 47 = false := inB_no (by omega)
                have HF := Lib.hid (show R = false by
                  rw [← HR.out]; refine HNO.out ?_
                  rw [HPS.out]
                  cases hv : okP (pre t f p ++ [x]) with
                  | false => rfl
                  | true => exact absurd (okP_snoc.1 hv).2.1 hin)
                clear hin
                go_wp2_with (go_at_call 42; refine (pageNumber_any _ _).mono ?_; rintro e w' ⟨rfl, rfl⟩)
                go_ret
                exact ⟨ret_bool (by rw [HF.out]), HBQ.out⟩
            · have HN : Hid (Seen wr (w.heap.size + 1) ((t.take (f + 1)).flatten) ∧ okP ((t.take (f + 1)).flatten) = true ∧ ∀ j (hj : j < t.length), j < f + 1 → t[j].length = 6) := Lib.hid (by
                have := HP.out
                rw [pre_row hlt p (by omega)] at this
                refine ⟨this.1, this.2, fun j hj hjf => ?_⟩
                by_cases e : j = f
                · subst e; exact H6.out
                · exact HS.out.2.2 j hj (by omega))
              go_wp2_with fail
              go_roundw
              case rel => exact ⟨f + 1, by omega, by go_num, HBQ.out, hzq, HN⟩
              case measure => simp [intOf]; omega
        · have hb6 : (((t[f].length : Nat) : Int) != 6) = true := by rw [bne_iff_ne]; omega
          have HF := Lib.hid (show R = false by rw [← HR.out]; exact tab_no_row hlt h6)
          clear h6 s3
          go_wp2_with fail
          go_ret
          exact ⟨ret_bool (by rw [HF.out]), HB.out⟩
      · have HT := Lib.hid (show R = true by
          rw [← HR.out]
          have h8 := H8.out
          refine tab_yes h8 (fun j hj => HS.out.2.2 j hj (by omega)) ?_
          have := HS.out.2.1
          rwa [show f = 8 by omega] at this)
        go_wp2_with fail
        go_ret
        exact ⟨ret_bool (by rw [HT.out]), HB.out⟩
  · have hf : tabVal t = false := tab_no_len h8
    have hb8 : (((t.length : Nat) : Int) != 8) = true := by rw [bne_iff_ne]; omega
    rw [hf]
    clear h8 hf q3
    go_enter Try.func22, Try.ntmps22
    go_wp2_with fail
    go_ret
    exact ⟨rfl, (Below.refl _ _).alloc (Nat.le_refl _) _⟩



end Go.Proofs.Ytpfekeflkmafcaa
