/-
  Texts of this claim, laid together: Tbv.
-/
import Derived.Test.YtjmofmdcegefgaaQ01
import Derived.Test.YtjmofmdcegefgaaQ04
namespace Go.Proofs.Ytjmofmdcegefgaa
open Go.RowKit

theorem Try.infoB : (Try.prog.info? 4).map (fun i => (i.zero, i.size, i.bytes)) = some (some (.bool false), 1, 1) := by kernel_rfl

theorem one_at {w : World} {B : Nat} {u : Value} {t : TypeId} (h : w.heap[B]? = some (.cells #[u] t (0, 0))) : w.cell? ⟨B, 0, none⟩ = some u ∧ w.frozen? ⟨B, 0, none⟩ = false := by
  simp [World.cell?, World.frozen?, h]
theorem pageNumber_any (n : Int) (w : World) : Calls Try.prog 64 #[.int .i64 n] w fun e w' => e = .returned (.bool (inB n (-1) 47)) ∧ w = w' := by
  by_cases h : -1 ≤ n
  · by_cases h2 : n ≤ 47
    · rw [inB_yes h h2]
      go_enter Try.func64, Try.ntmps64
      go_wp2
      go_ret
      exact ⟨by first | rfl | (simp; omega), rfl⟩
    · rw [inB_no (by omega)]
      go_enter Try.func64, Try.ntmps64
      go_wp2
      go_ret
      exact ⟨by first | rfl | (simp; omega), rfl⟩
  · rw [inB_no (by omega)]
    have h' : decide (-1 ≤ n) = false := by simp; omega
    go_enter Try.func64, Try.ntmps64
    go_wp2
    go_ret
    exact ⟨by first | rfl | (simp; omega), rfl⟩

/-- 48 marks: the pages that have come. -/
def Seen (w : World) (B : Nat) (P : List Int) : Prop := ∀ m : Nat, m < 48 → w.cell? ⟨B, m, none⟩ = some (.bool (decide ((m : Int) ∈ P))) ∧ w.frozen? ⟨B, m, none⟩ = false
theorem Seen.step {w : World} {B : Nat} {P : List Int} (h : Seen w B P) (m : Nat) : Seen (w.setCell ⟨B, m, none⟩ (.bool true)) B (P ++ [(m : Int)]) := by
  intro j hj
  obtain ⟨c1, f1⟩ := h j hj
  refine ⟨?_, by rw [World.frozen?_setCell]; exact f1⟩
  by_cases e : m = j
  · subst e
    rw [World.cell?_setCell_same (h := c1)]; simp
  · rw [World.cell?_setCell_other (h := (show (⟨B, m, none⟩ : Addr) ≠ ⟨B, j, none⟩ from fun h => e (by cases h; rfl))), c1]
    have : ((j : Int) ∈ P ++ [(m : Int)]) ↔ (j : Int) ∈ P := by simp; omega
    simp only [this]
theorem Seen.skip {w : World} {B : Nat} {P : List Int} (h : Seen w B P) {x : Int} (hx : x < 0) : Seen w B (P ++ [x]) := by
  intro j hj
  obtain ⟨c1, f1⟩ := h j hj
  refine ⟨?_, f1⟩
  have : ((j : Int) ∈ P ++ [x]) ↔ (j : Int) ∈ P := by simp; omega
  simp only [this]; exact c1

theorem seen_new (w : World) (t : TypeId) (cs : Array Value) (B : Nat) (hB : w.heap.size = B) (h : cs = Array.replicate 48 (.bool false)) : Seen (w.alloc (.cells cs t)) B [] := by
  subst h; subst hB
  intro m hm
  simp only [World.cell?, World.frozen?, heap_alloc_new]
  simp [hm]

set_option maxHeartbeats 4000000 in
theorem implTbv_any (v : Value) (t : List (List Int)) (lo hi : Nat) (w : World) (h : RT w lo hi v t) :
    Calls Try.prog 32 #[.agg #[v]] w fun e w' => e = .returned (.bool (tabVal t)) ∧ Below w.heap.size w w' := by
  obtain ⟨a, cap, b, off, rfl, q1, q2, q3, q4⟩ := h.open
  have Q4 := Lib.hid q4
  clear h q4
  by_cases h8 : t.length = 8
  · have hb8 : (((t.length : Nat) : Int) != 8) = false := by simp [h8]
    obtain rfl := q3 (by omega)
    generalize hR : tabVal t = R
    have HR := Lib.hid hR
    have H8 := Lib.hid h8
    clear hR h8 q3
    go_enter Try.func32, Try.ntmps32
    go_wp2_with fail
    go_loopw [5, 7, 15] (fun _ _ i wr => ∃ f : Nat, f ≤ t.length ∧ i = .int .i64 f ∧ Below w.heap.size w wr ∧ w.heap.size + 1 < wr.heap.size ∧ Hid (Seen wr (w.heap.size + 1) ((t.take f).flatten) ∧ okP ((t.take f).flatten) = true ∧ ∀ j (hj : j < t.length), j < f → t[j].length = 6)) (fun _ _ i _ => t.length - (intOf i).toNat)
    case atStart => exact ⟨0, Nat.zero_le _, rfl, ((Below.refl _ _).alloc (Nat.le_refl _) _).alloc (by simp) _, by simp, Lib.hid ⟨seen_new _ _ _ _ (by simp) rfl, by simpa using okP_nil, fun j hj h => absurd h (Nat.not_lt_zero _)⟩⟩
    case round =>
      obtain ⟨wo, rfl⟩ : ∃ wo : World, wo = wr := ⟨_, rfl⟩
      obtain ⟨f, hf, rfl, hbr, hz, HS⟩ := hrel
      have HB := Lib.hid hbr
      clear hbr
      by_cases hlt : f < t.length
      · obtain ⟨u, hcu, hu⟩ := Q4.out f hlt
        have c1 := cell_later HB.out hcu
        obtain ⟨a2, cap2, b2, off2, rfl, s1, s2, s3, s4⟩ := hu.open
        have S4 := Lib.hid s4
        clear hcu hu s4
        by_cases h6 : t[f].length = 6
        · have hb6 : (((t[f].length : Nat) : Int) != 6) = false := by simp [h6]
          have H6 := Lib.hid h6
          obtain rfl := s3 (by omega)
          clear s3 h6
          go_wp2_with fail
          go_loopw [7, 24] (fun _ i wr => ∃ p : Nat, p ≤ t[f].length ∧ i = .int .i64 p ∧ Below w.heap.size w wr ∧ w.heap.size + 1 < wr.heap.size ∧ Hid (Seen wr (w.heap.size + 1) (pre t f p) ∧ okP (pre t f p) = true)) (fun _ i _ => t[f].length - (intOf i).toNat)
          case atStart => exact ⟨0, Nat.zero_le _, rfl, HB.out, hz, Lib.hid ⟨by rw [pre_zero]; exact HS.out.1, by rw [pre_zero]; exact HS.out.2.1⟩⟩
          case round =>
            obtain ⟨p, hp, rfl, hbq, hzq, HP⟩ := hrel
            have HBQ := Lib.hid hbq
            clear hbq
            by_cases hpl : p < t[f].length
            · have hc := cell_later HBQ.out (S4.out p hpl)
              have HPS := Lib.hid (pre_succ hlt hpl)
              have HNO := Lib.hid (fun h => tab_no_at (p := p + 1) hlt h)
              obtain ⟨x, hx⟩ : ∃ x, x = t[f][p] := ⟨_, rfl⟩
              rw [← hx] at hc HPS
              clear hx
              by_cases hin : -1 ≤ x ∧ x ≤ 47
              · have hib := inB_yes hin.1 hin.2
                by_cases h0 : 0 ≤ x
                · obtain ⟨m, rfl⟩ := Int.eq_ofNat_of_zero_le h0
                  have hm : m < 48 := by omega
                  obtain ⟨d1, d2⟩ := HP.out.1 m hm
                  clear hin h0
                  by_cases hse : (m : Int) ∈ pre t f p
                  · have hd : decide ((m : Int) ∈ pre t f p) = true := by simpa using hse
                    have HF := Lib.hid (show R = false by
                      rw [← HR.out]; refine HNO.out ?_
                      rw [HPS.out]
                      cases hv : okP (pre t f p ++ [(m : Int)]) with
                      | false => rfl
                      | true => exact absurd ⟨by omega, hse⟩ (okP_snoc.1 hv).2.2)
                    clear hse
                    go_wp2_with (go_at_call 64; refine (pageNumber_any _ _).mono ?_; rintro e w' ⟨rfl, rfl⟩)
                    go_ret
                    exact ⟨ret_bool (by rw [HF.out]), HBQ.out⟩
                  · have hd : decide ((m : Int) ∈ pre t f p) = false := by simpa using hse
                    have HN : Hid (Seen (wr.setCell ⟨w.heap.size + 1, m, none⟩ (.bool true)) (w.heap.size + 1) (pre t f (p + 1)) ∧ okP (pre t f (p + 1)) = true) := Lib.hid (by
                      rw [HPS.out]
                      exact ⟨HP.out.1.step m, okP_snoc.2 ⟨HP.out.2, by omega, fun h => hse h.2⟩⟩)
                    have HB3 := Lib.hid (HBQ.out.setCell (p := ⟨w.heap.size + 1, m, none⟩) (by show w.heap.size ≤ w.heap.size + 1; omega) (.bool true))
                    clear hse
                    go_wp2_with (go_at_call 64; refine (pageNumber_any _ _).mono ?_; rintro e w' ⟨rfl, rfl⟩)
                    go_roundw
                    case rel => exact ⟨p + 1, by omega, by go_num, HB3.out, by simp [World.setCell]; omega, HN⟩
                    case measure => simp [intOf]; omega
                · have hd : decide (0 ≤ x) = false := by simp; omega
                  have HN : Hid (Seen wr (w.heap.size + 1) (pre t f (p + 1)) ∧ okP (pre t f (p + 1)) = true) := Lib.hid (by
                    rw [HPS.out]
                    exact ⟨HP.out.1.skip (by omega), okP_snoc.2 ⟨HP.out.2, hin, fun h => h0 h.1⟩⟩)
                  go_wp2_with (go_at_call 64; refine (pageNumber_any _ _).mono ?_; rintro e w' ⟨rfl, rfl⟩)
                  go_roundw
                  case rel => exact ⟨p + 1, by omega, by go_num, HBQ.out, hzq, HN⟩
                  case measure => simp [intOf]; omega
              · have hib : inB x (-1) 47 = false := inB_no (by omega)
                have HF := Lib.hid (show R = false by
                  rw [← HR.out]; refine HNO.out ?_
                  rw [HPS.out]
                  cases hv : okP (pre t f p ++ [x]) with
                  | false => rfl
                  | true => exact absurd (okP_snoc.1 hv).2.1 hin)
                clear hin
                go_wp2_with (go_at_call 64; refine (pageNumber_any _ _).mono ?_; rintro e w' ⟨rfl, rfl⟩)
                go_ret
                exact ⟨ret_bool (by rw [HF.out]), HBQ.out⟩
            · have HN : Hid (Seen wr (w.heap.size + 1) ((t.take (f + 1)).flatten) ∧ okP ((t.take (f + 1)).flatten) = true ∧ ∀ j (hj : j < t.length), j < f + 1 → t[j].length = 6) := Lib.hid (by
                have := HP.out
                rw [pre_row hlt p (by omega)] at this
                refine ⟨this.1, this.2, fun j hj hjf => ?_⟩
                by_cases e : j = f
                · subst e; exact H6.out
                · exact HS.out.2.2 j hj (by omega))
              go_wp2_with fail
              go_roundw
              case rel => exact ⟨f + 1, by omega, by go_num, HBQ.out, hzq, HN⟩
              case measure => simp [intOf]; omega
        · have hb6 : (((t[f].length : Nat) : Int) != 6) = true := by rw [bne_iff_ne]; omega
          have HF := Lib.hid (show R = false by rw [← HR.out]; exact tab_no_row hlt h6)
          clear h6 s3
          go_wp2_with fail
          go_ret
          exact ⟨ret_bool (by rw [HF.out]), HB.out⟩
      · have HT := Lib.hid (show R = true by
          rw [← HR.out]
          have h8 := H8.out
          refine tab_yes h8 (fun j hj => HS.out.2.2 j hj (by omega)) ?_
          have := HS.out.2.1
          rwa [show f = 8 by omega] at this)
        go_wp2_with fail
        go_ret
        exact ⟨ret_bool (by rw [HT.out]), HB.out⟩
  · have hf : tabVal t = false := tab_no_len h8
    have hb8 : (((t.length : Nat) : Int) != 8) = true := by rw [bne_iff_ne]; omega
    rw [hf]
    clear h8 hf q3
    go_enter Try.func32, Try.ntmps32
    go_wp2_with fail
    go_ret
    exact ⟨rfl, (Below.refl _ _).alloc (Nat.le_refl _) _⟩

/-- 'make([]bool, 48)'. -/
theorem mk_seen {w : World} {ops : Array Oper} {rest : List Oper} {o : Oper} {a : Act} {Q : Exit → Act → World → Prop} (hgd : o.guard = none) (l c : Operand)
    (hop : o.op = Op.makeSlice 86 l c) (hl : a.eval l = .int .i64 48) (hc : a.eval c = .int .i64 48)
    (hK : ∀ w', Seen w' w.heap.size [] → Below w.heap.size w w' → w.heap.size < w'.heap.size → wpList Try.prog ops Q rest (a.put o.dst (.slice (some ⟨w.heap.size, 0, none⟩) 48 48)) w') :
    wpList Try.prog ops Q (o :: rest) a w := by
  obtain ⟨i0, hi0, hz0, hz1, hz2⟩ := info_parts Try.infoB
  refine wpList_make_full w hgd l c 86 hop w.heap.size 4 i0 (.bool false) 1 Try.underlying86 hi0 hz0 hz1 .i64 .i64 48 48 48 hl hc rfl rfl (by rw [hz2]; omega) (by simp [maxLen]) (Nat.le_refl _) fun w' h1 h2 => ?_
  refine hK w' (fun m hm => ?_) ((Below.refl _ _).grown h2 (Nat.le_refl _) (by simp)) ?_
  · have e : (madeCells (Value.bool false).cells 48).toList = List.replicate 48 (.bool false) := by simpa [Value.cells] using toList_madeCells_one (.bool false) 48
    rw [Nat.mul_one, e] at h1
    refine ⟨?_, h1.frozenAt m⟩
    rw [h1.cellAt m (by omega), List.getElem?_replicate, if_pos hm]; rfl
  · exact (h1.lt w.heap.size rfl).2

set_option maxHeartbeats 4000000 in
theorem specTbv_any (v : Value) (t : List (List Int)) (lo hi : Nat) (w : World) (h : RT w lo hi v t) :
    Calls Try.prog 42 #[.agg #[v]] w fun e w' => e = .returned (.bool (tabVal t)) ∧ Below w.heap.size w w' := by
  obtain ⟨a, cap, b, off, rfl, q1, q2, q3, q4⟩ := h.open
  have hb0 : Below w.heap.size w (w.alloc (.cells #[.slice a t.length cap] 26)) := (Below.refl _ _).alloc (Nat.le_refl _) _
  have HB0 := Lib.hid hb0
  have Q4 := Lib.hid (show ∀ f (hf : f < t.length), ∃ u, (w.alloc (.cells #[.slice a t.length cap] 26)).cell? ⟨b, off + f, none⟩ = some u ∧ RI (w.alloc (.cells #[.slice a t.length cap] 26)) lo hi u t[f] from fun f hf => by
    obtain ⟨u, h1, h2⟩ := q4 f hf
    exact ⟨u, cell_later hb0 h1, h2.below hb0⟩)
  have HBX := Lib.hid (one_at (heap_alloc_new w (.cells #[.slice a t.length cap] 26)))
  clear h q4 hb0
  generalize hR : tabVal t = R
  have HR := Lib.hid hR
  clear hR
  go_enter Try.func42, Try.ntmps42
  go_wp2_with (at_make; refine mk_seen rfl _ _ rfl rfl rfl ?_; intro w1 hse1 hb1 hz1)
  have HS0 : Hid (Seen w1 (w.heap.size + 1) ((t.take 0).flatten) ∧ okP ((t.take 0).flatten) = true ∧ ∀ j (hj : j < t.length), j < 0 → t[j].length = 6) := Lib.hid ⟨by simpa using hse1, by simpa using okP_nil, fun j hj h => absurd h (Nat.not_lt_zero _)⟩
  have HB1 := Lib.hid hb1
  have hz1' : w.heap.size + 1 < w1.heap.size := by simpa using hz1
  obtain ⟨W0, hW0⟩ : ∃ W0, W0 = w.alloc (.cells #[.slice a t.length cap] 26) := ⟨_, rfl⟩
  have hWs : W0.heap.size = w.heap.size + 1 := by rw [hW0]; simp
  rw [← hW0] at HB1 HB0 Q4 HBX
  clear hse1 hb1 hz1 hW0
  go_loopw [4, 5, 6] (fun i _ _ wr => ∃ f : Nat, f ≤ t.length ∧ i = .int .i64 f ∧ Below W0.heap.size W0 wr ∧ w.heap.size + 1 < wr.heap.size ∧ Hid (Seen wr (w.heap.size + 1) ((t.take f).flatten) ∧ okP ((t.take f).flatten) = true ∧ ∀ j (hj : j < t.length), j < f → t[j].length = 6)) (fun i _ _ _ => t.length - (intOf i).toNat)
  case atStart => exact ⟨0, Nat.zero_le _, rfl, HB1.out, hz1', HS0⟩
  case round =>
    obtain ⟨wo, rfl⟩ : ∃ wo : World, wo = wr := ⟨_, rfl⟩
    obtain ⟨f, hf, rfl, hbr, hz, HS⟩ := hrel
    have HB := Lib.hid hbr
    have hbx := cell_later HB.out HBX.out.1
    clear hbr HS0 HB1
    by_cases hlt : f < t.length
    · obtain ⟨u, hcu, hu⟩ := Q4.out f hlt
      have c1 := cell_later HB.out hcu
      have CU := Lib.hid hcu
      obtain ⟨a2, cap2, b2, off2, rfl, s1, s2, s3, s4⟩ := hu.open
      have S4 := Lib.hid s4
      obtain rfl := q3 (by omega)
      clear hcu hu s4 q3
      go_wp2_with fail
      go_loopw [5, 6] (fun i _ wr => ∃ p : Nat, p ≤ t[f].length ∧ i = .int .i64 p ∧ Below W0.heap.size W0 wr ∧ w.heap.size + 1 < wr.heap.size ∧ Hid (Seen wr (w.heap.size + 1) (pre t f p) ∧ okP (pre t f p) = true)) (fun i _ _ => t[f].length - (intOf i).toNat)
      case atStart => exact ⟨0, Nat.zero_le _, rfl, HB.out, hz, Lib.hid ⟨by rw [pre_zero]; exact HS.out.1, by rw [pre_zero]; exact HS.out.2.1⟩⟩
      case round =>
        obtain ⟨p, hp, rfl, hbq, hzq, HP⟩ := hrel
        have HBQ := Lib.hid hbq
        have hbx' := cell_later HBQ.out HBX.out.1
        have c1' := cell_later HBQ.out CU.out
        clear hbq
        by_cases hpl : p < t[f].length
        · obtain rfl := s3 (by omega)
          have hc := cell_later HBQ.out (S4.out p hpl)
          have HPS := Lib.hid (pre_succ hlt hpl)
          have HNO := Lib.hid (fun h => tab_no_at (p := p + 1) hlt h)
          obtain ⟨x, hx⟩ : ∃ x, x = t[f][p] := ⟨_, rfl⟩
          rw [← hx] at hc HPS
          clear hx s3
          by_cases hin : -1 ≤ x ∧ x ≤ 47
          · have hib := inB_yes hin.1 hin.2
            by_cases h0 : 0 ≤ x
            · obtain ⟨m, rfl⟩ := Int.eq_ofNat_of_zero_le h0
              have hm : m < 48 := by omega
              obtain ⟨d1, d2⟩ := HP.out.1 m hm
              clear hin h0
              by_cases hse : (m : Int) ∈ pre t f p
              · have hd : decide ((m : Int) ∈ pre t f p) = true := by simpa using hse
                have HF := Lib.hid (show R = false by
                  rw [← HR.out]; refine HNO.out ?_
                  rw [HPS.out]
                  cases hv : okP (pre t f p ++ [(m : Int)]) with
                  | false => rfl
                  | true => exact absurd ⟨by omega, hse⟩ (okP_snoc.1 hv).2.2)
                clear hse
                go_wp2_with (go_at_call 56; refine (l1In_any _ _ _ _).mono ?_; rintro e w' ⟨rfl, rfl⟩)
                go_ret
                exact ⟨ret_bool (by rw [HF.out]), HB0.out.trans (HBQ.out.mono (by omega))⟩
              · have hd : decide ((m : Int) ∈ pre t f p) = false := by simpa using hse
                have HN : Hid (Seen (wr.setCell ⟨w.heap.size + 1, m, none⟩ (.bool true)) (w.heap.size + 1) (pre t f (p + 1)) ∧ okP (pre t f (p + 1)) = true) := Lib.hid (by
                  rw [HPS.out]
                  exact ⟨HP.out.1.step m, okP_snoc.2 ⟨HP.out.2, by omega, fun h => hse h.2⟩⟩)
                have HB3 := Lib.hid (HBQ.out.setCell (p := ⟨w.heap.size + 1, m, none⟩) (by show W0.heap.size ≤ w.heap.size + 1; omega) (.bool true))
                clear hse
                go_wp2_with (go_at_call 56; refine (l1In_any _ _ _ _).mono ?_; rintro e w' ⟨rfl, rfl⟩)
                go_roundw
                case rel => exact ⟨p + 1, by omega, by go_num, HB3.out, by simp [World.setCell]; omega, HN⟩
                case measure => simp [intOf]; omega
            · have hd : decide (0 ≤ x) = false := by simp; omega
              have HN : Hid (Seen wr (w.heap.size + 1) (pre t f (p + 1)) ∧ okP (pre t f (p + 1)) = true) := Lib.hid (by
                rw [HPS.out]
                exact ⟨HP.out.1.skip (by omega), okP_snoc.2 ⟨HP.out.2, hin, fun h => h0 h.1⟩⟩)
              go_wp2_with (go_at_call 56; refine (l1In_any _ _ _ _).mono ?_; rintro e w' ⟨rfl, rfl⟩)
              go_roundw
              case rel => exact ⟨p + 1, by omega, by go_num, HBQ.out, hzq, HN⟩
              case measure => simp [intOf]; omega
          · have hib : inB x (-1) 47 = false := inB_no (by omega)
            have HF := Lib.hid (show R = false by
              rw [← HR.out]; refine HNO.out ?_
              rw [HPS.out]
              cases hv : okP (pre t f p ++ [x]) with
              | false => rfl
              | true => exact absurd (okP_snoc.1 hv).2.1 hin)
            clear hin
            go_wp2_with (go_at_call 56; refine (l1In_any _ _ _ _).mono ?_; rintro e w' ⟨rfl, rfl⟩)
            go_ret
            exact ⟨ret_bool (by rw [HF.out]), HB0.out.trans (HBQ.out.mono (by omega))⟩
        · have HPR := Lib.hid (show Seen wr (w.heap.size + 1) ((t.take (f + 1)).flatten) ∧ okP ((t.take (f + 1)).flatten) = true by
            have := HP.out
            rwa [pre_row hlt p (by omega)] at this)
          by_cases h6 : t[f].length = 6
          · have hb6 : (((t[f].length : Nat) : Int) != 6) = false := by simp [h6]
            have HN : Hid (Seen wr (w.heap.size + 1) ((t.take (f + 1)).flatten) ∧ okP ((t.take (f + 1)).flatten) = true ∧ ∀ j (hj : j < t.length), j < f + 1 → t[j].length = 6) := Lib.hid ⟨HPR.out.1, HPR.out.2, fun j hj hjf => by
              by_cases e : j = f
              · subst e; exact h6
              · exact HS.out.2.2 j hj (by omega)⟩
            clear h6
            go_wp2_with fail
            go_roundw
            case rel => exact ⟨f + 1, by omega, by go_num, HBQ.out, hzq, HN⟩
            case measure => simp [intOf]; omega
          · have hb6 : (((t[f].length : Nat) : Int) != 6) = true := by rw [bne_iff_ne]; omega
            have HF := Lib.hid (show R = false by rw [← HR.out]; exact tab_no_row hlt h6)
            clear h6
            go_wp2_with fail
            go_ret
            exact ⟨ret_bool (by rw [HF.out]), HB0.out.trans (HBQ.out.mono (by omega))⟩
    · have HT := Lib.hid (show R = (((t.length : Nat) : Int) == 8) by
        rw [← HR.out]
        by_cases h8 : t.length = 8
        · have e : (((t.length : Nat) : Int) == 8) = true := by simp [h8]
          rw [e]
          refine tab_yes h8 (fun j hj => HS.out.2.2 j hj (by omega)) ?_
          have := HS.out.2.1
          rwa [show f = 8 by omega] at this
        · have e : (((t.length : Nat) : Int) == 8) = false := by rw [beq_eq_false_iff_ne]; omega
          rw [e]
          exact tab_no_len h8)
      go_wp2_with fail
      go_ret
      exact ⟨ret_bool (by rw [HT.out]), HB0.out.trans (HB.out.mono (by omega))⟩

end Go.Proofs.Ytjmofmdcegefgaa

