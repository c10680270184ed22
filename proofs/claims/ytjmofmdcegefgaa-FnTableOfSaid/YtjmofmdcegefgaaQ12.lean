/-
  Texts of this claim, laid together: Dvv.
-/
import Derived.Test.YtjmofmdcegefgaaQ02
import Derived.Test.YtjmofmdcegefgaaQ05
import Derived.Test.YtjmofmdcegefgaaQ11
namespace Go.Proofs.Ytjmofmdcegefgaa
open Go.RowKit

set_option maxHeartbeats 1000000 in
theorem implPgv_any (p : Pg) (w : World) : Calls Try.prog 63 #[pgv p] w fun e w' => e = .returned (.bool (pgOk p)) ∧ Below w.heap.size w w' := by
  obtain ⟨f, fi, pl, va, st⟩ := p
  have HB := Lib.hid (balloc w (.cells #[.bool f, .int .i64 fi, .int .i64 pl, .int .i64 va, .int .i64 st] 53))
  unfold pgv
  cases f
  · generalize hR : pgOk ⟨false, fi, pl, va, st⟩ = R
    have HR := Lib.hid hR.symm
    clear hR
    go_enter Try.func63, Try.ntmps63
    go_wp2_with fail
    all_goals (go_ret; exact ⟨ret_bool (by rw [HR.out]; first | (simp [pgOk]; omega) | (simp [pgOk]; intros; omega) | simp [pgOk, *]), balloc w _⟩)
  · generalize hR : pgOk ⟨true, fi, pl, va, st⟩ = R
    have HR := Lib.hid hR.symm
    clear hR
    go_enter Try.func63, Try.ntmps63
    go_wp2_with fail
    all_goals (go_ret; exact ⟨ret_bool (by rw [HR.out, Bool.eq_iff_iff]; simp [pgOk, inB]; omega), HB.out⟩)

set_option maxHeartbeats 1000000 in
theorem specPgv_any (p : Pg) (w : World) : Calls Try.prog 81 #[pgv p] w fun e w' => e = .returned (.bool (pgOk p)) ∧ Below w.heap.size w w' := by
  obtain ⟨f, fi, pl, va, st⟩ := p
  have HB := Lib.hid (balloc w (.cells #[.bool f, .int .i64 fi, .int .i64 pl, .int .i64 va, .int .i64 st] 53))
  unfold pgv
  cases f
  · generalize hR : pgOk ⟨false, fi, pl, va, st⟩ = R
    have HR := Lib.hid hR.symm
    clear hR
    go_enter Try.func81, Try.ntmps81
    go_wp2_with fail
    all_goals (go_ret; exact ⟨ret_bool (by rw [HR.out]; first | (simp [pgOk]; omega) | (simp [pgOk]; intros; omega) | simp [pgOk, *]), balloc w _⟩)
  · have HR : Hid (pgOk ⟨true, fi, pl, va, st⟩ = (inB fi 0 7 && inB pl 0 5 && inB va 0 9999 && inB st 1 1000000)) := Lib.hid rfl
    generalize pgOk ⟨true, fi, pl, va, st⟩ = R at HR ⊢
    go_enter Try.func81, Try.ntmps81
    go_wp2_with fail
    refine (l1In_any fi 0 7 _).mono ?_
    rintro e w1 ⟨rfl, rfl⟩
    generalize inB fi 0 7 = b1 at HR ⊢
    cases b1
    · go_wp2_with fail
      all_goals (go_ret; exact ⟨ret_bool (by rw [HR.out]; simp), HB.out⟩)
    · go_wp2_with fail
      refine (l1In_any pl 0 5 _).mono ?_
      rintro e w1 ⟨rfl, rfl⟩
      generalize inB pl 0 5 = b2 at HR ⊢
      cases b2
      · go_wp2_with fail
        all_goals (go_ret; exact ⟨ret_bool (by rw [HR.out]; simp), HB.out⟩)
      · go_wp2_with fail
        refine (l1In_any va 0 9999 _).mono ?_
        rintro e w1 ⟨rfl, rfl⟩
        generalize inB va 0 9999 = b3 at HR ⊢
        cases b3
        · go_wp2_with fail
          all_goals (go_ret; exact ⟨ret_bool (by rw [HR.out]; simp), HB.out⟩)
        · go_wp2_with fail
          refine (l1In_any st 1 1000000 _).mono ?_
          rintro e w1 ⟨rfl, rfl⟩
          generalize inB st 1 1000000 = b4 at HR ⊢
          go_wp2_with fail
          all_goals (go_ret; exact ⟨ret_bool (by rw [HR.out]; simp), HB.out⟩)

theorem RB1.mk' {w : World} {lo hi : Nat} {s : Value} {b : Bk} (hp : RP w lo hi s b.pages) (hw : I64 b.wear) : RB1 w lo hi (.agg #[.int .i64 b.wear, s]) b := ⟨_, rfl, hw, hp⟩

set_option maxHeartbeats 2000000 in
theorem implBkv_any (v : Value) (b : Bk) (lo hi : Nat) (w : World) (h : RB1 w lo hi v b) : Calls Try.prog 53 #[v] w fun e w' => e = .returned (.bool (bkOk b)) ∧ Below w.heap.size w w' := by
  obtain ⟨s, rfl, hw, hp⟩ := h
  obtain ⟨a, cap, b0, off, rfl, q1, q2, q3, q4⟩ := hp.open
  have HB0 := Lib.hid (balloc w (.cells #[.int .i64 b.wear, .slice a b.pages.length cap] 44))
  have X0 := Lib.hid (heap_alloc_new w (.cells #[.int .i64 b.wear, .slice a b.pages.length cap] 44))
  have Q4 := Lib.hid q4
  obtain ⟨R, hR⟩ : ∃ R, R = bkOk b := ⟨_, rfl⟩
  rw [← hR]
  have HR := Lib.hid hR
  clear hp q4 hR
  by_cases hok : (0 ≤ b.wear ∧ b.wear ≤ 100) ∧ b.pages.length = 4
  · obtain ⟨⟨h0, h1⟩, h4⟩ := hok
    obtain rfl := q3 (by omega)
    have H4 := Lib.hid h4
    rw [h4] at q1 X0 HB0 ⊢
    have hd0 : decide (b.wear < 0) = false := by simpa using h0
    have hd1 : decide (100 < b.wear) = false := by simpa using h1
    clear h4 q3 h0 h1
    go_enter Try.func53, Try.ntmps53
    go_wp2_with fail
    go_loopw [3, 4, 22] (fun _ _ i wr => ∃ k : Nat, k ≤ 4 ∧ i = .int .i64 k ∧ pgsUp b.pages k = true ∧ Below w.heap.size w wr ∧ wr.heap[w.heap.size]? = some (.cells #[.int .i64 b.wear, .slice (some ⟨b0, off, none⟩) 4 cap] 44)) (fun _ _ i _ => 4 - (intOf i).toNat)
    case atStart => exact ⟨0, by omega, rfl, rfl, HB0.out, X0.out⟩
    case round =>
      obtain ⟨k, hk, rfl, hup, hbr, hx⟩ := hrel
      have HU := Lib.hid (And.intro hup (And.intro hbr hx))
      obtain ⟨⟨d1, d2⟩, -⟩ := two_at hx
      clear HB0 X0 hup hbr hx
      by_cases hk4 : k < 4
      · have hkl : k < b.pages.length := by rw [H4.out]; exact hk4
        obtain ⟨p, hp⟩ : ∃ p, p = b.pages[k] := ⟨_, rfl⟩
        have h5 := (Q4.out k hkl).below HU.out.2.1
        rw [← hp] at h5
        obtain ⟨e0, e1, e2, e3, e4⟩ := h5
        have HA : Hid (pgAt b.pages k = (pgOk p && (decide (k = 0) || !p.full || (b.pages.getD (k - 1) pg0).full))) := Lib.hid (by unfold pgAt; rw [hp]; simp [hkl])
        have hno : pgAt b.pages k = false → R = false := fun h => by
          rw [HR.out]
          cases hv : bkOk b with
          | false => rfl
          | true => rw [pgsUp_at (bkOk_iff.1 hv).2.2 hkl] at h; cases h
        have HNO := Lib.hid hno
        have HX : Hid (P5 (wr.alloc (.cells #[.bool p.full, .int .i64 p.file, .int .i64 p.place, .int .i64 p.value, .int .i64 p.stamp] 53)) wr.heap.size 0 p ∧ Below wr.heap.size wr (wr.alloc (.cells #[.bool p.full, .int .i64 p.file, .int .i64 p.place, .int .i64 p.value, .int .i64 p.stamp] 53))) := Lib.hid ⟨five_at (heap_alloc_new _ _), balloc _ _⟩
        clear hp hno
        go_wp2_with fail
        refine (implPgv_any p _).mono ?_
        rintro e w2 ⟨rfl, b2⟩
        obtain ⟨x0, -⟩ := HX.out.1.below b2
        have HB2 := Lib.hid (bup2 HX.out.2 b2)
        have hb2 := HB2.out
        obtain ⟨⟨y1, y2⟩, -⟩ := two_at (box_keep HU.out.2.2 hb2)
        obtain ⟨q, hq⟩ : ∃ q, q = pgOk p := ⟨_, rfl⟩
        rw [← hq]
        have HQ := Lib.hid hq
        clear b2 hb2 hq e0 e1 e2 e3 e4 d1 d2
        cases q
        · go_wp2_with fail
          go_ret
          exact ⟨ret_bool (HNO.out (by rw [HA.out, ← HQ.out]; rfl)).symm, bup HU.out.2.1 (Nat.le_refl _) HB2.out⟩
        · obtain ⟨pf, hpf⟩ : ∃ pf, pf = p.full := ⟨_, rfl⟩
          rw [← hpf] at x0
          have HPF := Lib.hid hpf
          clear hpf
          rcases k with _ | j
          · have HF : Hid (pgsUp b.pages (0 + 1) = true ∧ Below w.heap.size w w2 ∧ w2.heap[w.heap.size]? = some (.cells #[.int .i64 b.wear, .slice (some ⟨b0, off, none⟩) 4 cap] 44)) :=
              Lib.hid ⟨by rw [pgsUp_succ, HU.out.1, HA.out, ← HQ.out]; simp, bup HU.out.2.1 (Nat.le_refl _) HB2.out, box_keep HU.out.2.2 HB2.out⟩
            go_wp2_with fail
            go_roundw
            case rel => exact ⟨1, by omega, by go_num, HF.out⟩
            case measure => simp [intOf]
          · have hjl : j < b.pages.length := by omega
            obtain ⟨z0, -⟩ := ((Q4.out j hjl).below HU.out.2.1).below HB2.out
            have hg : (b.pages.getD (j + 1 - 1) pg0).full = b.pages[j].full := by simp [hjl]
            obtain ⟨pv, hpv⟩ : ∃ pv, pv = b.pages[j].full := ⟨_, rfl⟩
            rw [← hpv] at z0 hg
            have HG := Lib.hid hg
            have hi1 : ((j : Int) + 1 - 1) = j := by omega
            have hi2 : (0 : Int) < (j : Int) + 1 := by omega
            have hj3 : (j : Int) < 4 := by omega
            clear hpv hg
            cases pf
            · have HF : Hid (pgsUp b.pages (j + 1 + 1) = true ∧ Below w.heap.size w w2 ∧ w2.heap[w.heap.size]? = some (.cells #[.int .i64 b.wear, .slice (some ⟨b0, off, none⟩) 4 cap] 44)) :=
                Lib.hid ⟨by rw [pgsUp_succ, HU.out.1, HA.out, ← HQ.out, ← HPF.out]; simp, bup HU.out.2.1 (Nat.le_refl _) HB2.out, box_keep HU.out.2.2 HB2.out⟩
              go_wp2_with fail
              go_roundw
              case rel => exact ⟨j + 1 + 1, by omega, by go_num, HF.out⟩
              case measure => simp [intOf]; omega
            · cases pv
              · go_wp2_with fail
                go_ret
                exact ⟨ret_bool (HNO.out (by rw [HA.out, ← HQ.out, ← HPF.out, HG.out]; simp)).symm, bup HU.out.2.1 (Nat.le_refl _) HB2.out⟩
              · have HF : Hid (pgsUp b.pages (j + 1 + 1) = true ∧ Below w.heap.size w w2 ∧ w2.heap[w.heap.size]? = some (.cells #[.int .i64 b.wear, .slice (some ⟨b0, off, none⟩) 4 cap] 44)) :=
                  Lib.hid ⟨by rw [pgsUp_succ, HU.out.1, HA.out, ← HQ.out, HG.out]; simp, bup HU.out.2.1 (Nat.le_refl _) HB2.out, box_keep HU.out.2.2 HB2.out⟩
                go_wp2_with fail
                go_roundw
                case rel => exact ⟨j + 1 + 1, by omega, by go_num, HF.out⟩
                case measure => simp [intOf]; omega
      · obtain rfl : k = 4 := by omega
        go_wp2_with fail
        go_ret
        refine ⟨ret_bool ?_, HU.out.2.1⟩
        rw [HR.out]
        refine (bkOk_iff.2 ⟨?_, H4.out, by rw [H4.out]; exact HU.out.1⟩).symm
        simp at hd0 hd1
        omega
  · have hR0 : R = false := by
      rw [HR.out]
      cases hv : bkOk b with
      | false => rfl
      | true => exact absurd ⟨(bkOk_iff.1 hv).1, (bkOk_iff.1 hv).2.1⟩ hok
    subst hR0
    have key : b.wear < 0 ∨ (0 ≤ b.wear ∧ 100 < b.wear) ∨ (0 ≤ b.wear ∧ b.wear ≤ 100 ∧ b.pages.length ≠ 4) := by omega
    clear hok HR
    rcases key with k1 | ⟨k1, k2⟩ | ⟨k1, k2, k3⟩
    · go_enter Try.func53, Try.ntmps53
      go_wp2_with fail
      all_goals (go_ret; exact ⟨rfl, HB0.out⟩)
    · have hd0 : decide (b.wear < 0) = false := by simpa using k1
      clear k1
      go_enter Try.func53, Try.ntmps53
      go_wp2_with fail
      all_goals (go_ret; exact ⟨rfl, HB0.out⟩)
    · have hd0 : decide (b.wear < 0) = false := by simpa using k1
      have hd1 : decide (100 < b.wear) = false := by simpa using k2
      have hd2 : (((b.pages.length : Nat) : Int) != 4) = true := by simp; omega
      clear k1 k2 k3
      go_enter Try.func53, Try.ntmps53
      go_wp2_with fail
      all_goals (go_ret; exact ⟨rfl, HB0.out⟩)

set_option maxHeartbeats 2000000 in
theorem specBkv_any (v : Value) (b : Bk) (lo hi : Nat) (w : World) (h : RB1 w lo hi v b) : Calls Try.prog 68 #[v] w fun e w' => e = .returned (.bool (bkOk b)) ∧ Below w.heap.size w w' := by
  obtain ⟨s, rfl, hw, hp⟩ := h
  obtain ⟨a, cap, b0, off, rfl, q1, q2, q3, q4⟩ := hp.open
  have HB0 := Lib.hid (balloc w (.cells #[.int .i64 b.wear, .slice a b.pages.length cap] 44))
  have X0 := Lib.hid (heap_alloc_new w (.cells #[.int .i64 b.wear, .slice a b.pages.length cap] 44))
  have Q4 := Lib.hid q4
  obtain ⟨R, hR⟩ : ∃ R, R = bkOk b := ⟨_, rfl⟩
  rw [← hR]
  have HR := Lib.hid hR
  clear hp q4 hR
  go_enter Try.func68, Try.ntmps68
  go_wp2_with fail
  go_loopw [3] (fun i wr => ∃ k : Nat, k ≤ b.pages.length ∧ i = .int .i64 k ∧ pgsUp b.pages k = true ∧ Below w.heap.size w wr ∧ wr.heap[w.heap.size]? = some (.cells #[.int .i64 b.wear, .slice a b.pages.length cap] 44)) (fun i _ => b.pages.length - (intOf i).toNat)
  case atStart => exact ⟨0, by omega, rfl, rfl, HB0.out, X0.out⟩
  case round =>
    obtain ⟨k, hk, rfl, hup, hbr, hx⟩ := hrel
    have HU := Lib.hid (And.intro hup (And.intro hbr hx))
    obtain ⟨⟨d1, d2⟩, -⟩ := two_at hx
    clear HB0 X0 hup hbr hx
    by_cases hkl : k < b.pages.length
    · obtain rfl := q3 (by omega)
      have hki : (k : Int) < (b.pages.length : Int) := by omega
      obtain ⟨p, hp⟩ : ∃ p, p = b.pages[k] := ⟨_, rfl⟩
      have h5 := (Q4.out k hkl).below HU.out.2.1
      rw [← hp] at h5
      have H5 := Lib.hid h5
      obtain ⟨e0, e1, e2, e3, e4⟩ := h5
      have HA : Hid (pgAt b.pages k = (pgOk p && (decide (k = 0) || !p.full || (b.pages.getD (k - 1) pg0).full))) := Lib.hid (by unfold pgAt; rw [hp]; simp [hkl])
      have hno : pgAt b.pages k = false → R = false := fun h => by
        rw [HR.out]
        cases hv : bkOk b with
        | false => rfl
        | true => rw [pgsUp_at (bkOk_iff.1 hv).2.2 hkl] at h; cases h
      have HNO := Lib.hid hno
      clear hp hno q3
      go_wp2_with fail
      refine (specPgv_any p _).mono ?_
      rintro e w2 ⟨rfl, b2⟩
      obtain ⟨x0, -⟩ := H5.out.below b2
      have HB2 := Lib.hid b2
      obtain ⟨⟨y1, y2⟩, -⟩ := two_at (box_keep HU.out.2.2 b2)
      obtain ⟨q, hq⟩ : ∃ q, q = pgOk p := ⟨_, rfl⟩
      rw [← hq]
      have HQ := Lib.hid hq
      clear b2 hq e0 e1 e2 e3 e4 d1 d2 H5
      cases q
      · go_wp2_with fail
        go_ret
        exact ⟨ret_bool (HNO.out (by rw [HA.out, ← HQ.out]; rfl)).symm, bup HU.out.2.1 (Nat.le_refl _) HB2.out⟩
      · obtain ⟨pf, hpf⟩ : ∃ pf, pf = p.full := ⟨_, rfl⟩
        rw [← hpf] at x0
        have HPF := Lib.hid hpf
        clear hpf
        rcases k with _ | j
        · have HF : Hid (pgsUp b.pages (0 + 1) = true ∧ Below w.heap.size w w2 ∧ w2.heap[w.heap.size]? = some (.cells #[.int .i64 b.wear, .slice (some ⟨b0, off, none⟩) b.pages.length cap] 44)) :=
            Lib.hid ⟨by rw [pgsUp_succ, HU.out.1, HA.out, ← HQ.out]; simp, bup HU.out.2.1 (Nat.le_refl _) HB2.out, box_keep HU.out.2.2 HB2.out⟩
          go_wp2_with fail
          go_roundw
          case rel => exact ⟨1, by omega, by go_num, HF.out⟩
          case measure => simp [intOf]; omega
        · have hjl : j < b.pages.length := by omega
          obtain ⟨z0, -⟩ := ((Q4.out j hjl).below HU.out.2.1).below HB2.out
          have hg : (b.pages.getD (j + 1 - 1) pg0).full = b.pages[j].full := by simp [hjl]
          obtain ⟨pv, hpv⟩ : ∃ pv, pv = b.pages[j].full := ⟨_, rfl⟩
          rw [← hpv] at z0 hg
          have HG := Lib.hid hg
          have hi1 : ((j : Int) + 1 - 1) = j := by omega
          have hi2 : (0 : Int) < (j : Int) + 1 := by omega
          have hj3 : (j : Int) < (b.pages.length : Int) := by omega
          have hj4 : (j : Int) + 1 < (b.pages.length : Int) := by omega
          clear hpv hg
          cases pf
          · have HF : Hid (pgsUp b.pages (j + 1 + 1) = true ∧ Below w.heap.size w w2 ∧ w2.heap[w.heap.size]? = some (.cells #[.int .i64 b.wear, .slice (some ⟨b0, off, none⟩) b.pages.length cap] 44)) :=
              Lib.hid ⟨by rw [pgsUp_succ, HU.out.1, HA.out, ← HQ.out, ← HPF.out]; simp, bup HU.out.2.1 (Nat.le_refl _) HB2.out, box_keep HU.out.2.2 HB2.out⟩
            go_wp2_with fail
            go_roundw
            case rel => exact ⟨j + 1 + 1, by omega, by go_num, HF.out⟩
            case measure => simp [intOf]; omega
          · cases pv
            · go_wp2_with fail
              go_ret
              exact ⟨ret_bool (HNO.out (by rw [HA.out, ← HQ.out, ← HPF.out, HG.out]; simp)).symm, bup HU.out.2.1 (Nat.le_refl _) HB2.out⟩
            · have HF : Hid (pgsUp b.pages (j + 1 + 1) = true ∧ Below w.heap.size w w2 ∧ w2.heap[w.heap.size]? = some (.cells #[.int .i64 b.wear, .slice (some ⟨b0, off, none⟩) b.pages.length cap] 44)) :=
                Lib.hid ⟨by rw [pgsUp_succ, HU.out.1, HA.out, ← HQ.out, HG.out]; simp, bup HU.out.2.1 (Nat.le_refl _) HB2.out, box_keep HU.out.2.2 HB2.out⟩
              go_wp2_with fail
              go_roundw
              case rel => exact ⟨j + 1 + 1, by omega, by go_num, HF.out⟩
              case measure => simp [intOf]; omega
    · obtain rfl : k = b.pages.length := by omega
      have hki : ¬ (b.pages.length : Int) < (b.pages.length : Int) := by omega
      have HE : Hid (R = (inB b.wear 0 100 && (((b.pages.length : Nat) : Int) == 4))) := Lib.hid (by
        rw [HR.out]
        unfold bkOk
        rw [HU.out.1, Bool.and_true]
        congr 1
        rw [Bool.eq_iff_iff]; simp; omega)
      go_wp2_with fail
      refine (l1In_any _ _ _ _).mono ?_
      rintro e w2 ⟨rfl, rfl⟩
      generalize inB b.wear 0 100 = q at HE ⊢
      cases q
      · go_wp2_with fail
        go_ret
        exact ⟨ret_bool (by rw [HE.out]; rfl), HU.out.2.1⟩
      · go_wp2_with fail
        all_goals (go_ret; exact ⟨ret_bool (by rw [HE.out]; simp), HU.out.2.1⟩)

theorem dvUp {d : List Bk} {k : Nat} (h : ∀ b ∈ d.take k, bkOk b = true) (hk : k < d.length) (hb : bkOk d[k] = true) : ∀ b ∈ d.take (k + 1), bkOk b = true := by
  rw [List.take_succ_eq_append_getElem hk]
  intro b hm
  rcases List.mem_append.1 hm with h1 | h1
  · exact h b h1
  · simp at h1; rw [h1]; exact hb

set_option maxHeartbeats 2000000 in
theorem implDvv_any (v : Value) (d : List Bk) (lo hi : Nat) (w : World) (h : RD w lo hi v d) : Calls Try.prog 27 #[v] w fun e w' => e = .returned (.bool (dvOk d)) ∧ Below w.heap.size w w' := by
  have H := Lib.hid h
  obtain ⟨a, cap, b, off, rfl, q1, q2, q3, -⟩ := h.open
  obtain ⟨R, hR⟩ : ∃ R, R = dvOk d := ⟨_, rfl⟩
  rw [← hR]
  have HR := Lib.hid hR
  clear h hR
  by_cases hl : 1 ≤ d.length ∧ d.length ≤ 12
  · obtain rfl := q3 (by omega)
    have hl1 : decide ((d.length : Int) < 1) = false := by simp; omega
    have hl2 : decide ((12 : Int) < (d.length : Int)) = false := by simp; omega
    clear q3
    go_enter Try.func27, Try.ntmps27
    go_wp2_with fail
    go_loopw [4, 15] (fun _ i wr => ∃ k : Nat, k ≤ d.length ∧ i = .int .i64 k ∧ (∀ b ∈ d.take k, bkOk b = true) ∧ Below w.heap.size w wr) (fun _ i _ => d.length - (intOf i).toNat)
    case atStart => exact ⟨0, Nat.zero_le _, rfl, by simp, Below.refl _ _⟩
    case round =>
      obtain ⟨k, hk, rfl, hup, hbr⟩ := hrel
      have HU := Lib.hid (And.intro hup hbr)
      clear hup hbr
      by_cases hkl : k < d.length
      · have hki : (k : Int) < (d.length : Int) := by omega
        obtain ⟨a', cap', b', off', c1, c2, hp, hw, r1, r2, -⟩ := (H.out.below HU.out.2).at k hkl
        have HX := Lib.hid (RB1.mk' (hp.below (balloc _ (.cells #[.int .i64 d[k].wear, .slice a' d[k].pages.length cap'] 44))) hw)
        clear hp
        go_wp2_with fail
        refine (implBkv_any _ d[k] _ _ _ HX.out).mono ?_
        rintro e w2 ⟨rfl, b2⟩
        have HB2 := Lib.hid (bup2 HU.out.2 (bup2 (balloc _ _) b2))
        obtain ⟨q, hq⟩ : ∃ q, q = bkOk d[k] := ⟨_, rfl⟩
        rw [← hq]
        have HQ := Lib.hid hq
        clear b2 hq
        cases q
        · go_wp2_with fail
          go_ret
          exact ⟨ret_bool (by rw [HR.out, dv_no hkl HQ.out.symm]), HB2.out⟩
        · have HF := Lib.hid (And.intro (dvUp HU.out.1 hkl HQ.out.symm) HB2.out)
          go_wp2_with fail
          go_roundw
          case rel => exact ⟨k + 1, by omega, by go_num, HF.out⟩
          case measure => simp [intOf]; omega
      · have hki : ¬ (k : Int) < (d.length : Int) := by omega
        go_wp2_with fail
        go_ret
        refine ⟨ret_bool ?_, HU.out.2⟩
        rw [HR.out]
        have := HU.out.1
        rw [List.take_of_length_le (by omega)] at this
        exact (dvOk_iff.2 ⟨hl.1, hl.2, this⟩).symm
  · have hR0 : R = false := by rw [HR.out]; exact dv_no_len (by omega)
    subst hR0
    have key : decide ((d.length : Int) < 1) = true ∨ (decide ((d.length : Int) < 1) = false ∧ decide ((12 : Int) < (d.length : Int)) = true) := by simp; omega
    clear q3 hl HR
    rcases key with k1 | ⟨k1, k2⟩
    all_goals
      go_enter Try.func27, Try.ntmps27
      go_wp2_with fail
      all_goals (go_ret; exact ⟨rfl, Below.refl _ _⟩)

set_option maxHeartbeats 2000000 in
theorem specDvv_any (v : Value) (d : List Bk) (lo hi : Nat) (w : World) (h : RD w lo hi v d) : Calls Try.prog 41 #[v] w fun e w' => e = .returned (.bool (dvOk d)) ∧ Below w.heap.size w w' := by
  have H := Lib.hid h
  obtain ⟨a, cap, b, off, rfl, q1, q2, q3, -⟩ := h.open
  obtain ⟨R, hR⟩ : ∃ R, R = dvOk d := ⟨_, rfl⟩
  rw [← hR]
  have HR := Lib.hid hR
  clear h hR
  go_enter Try.func41, Try.ntmps41
  go_wp2_with fail
  go_loopw [3] (fun i wr => ∃ k : Nat, k ≤ d.length ∧ i = .int .i64 k ∧ (∀ b ∈ d.take k, bkOk b = true) ∧ Below w.heap.size w wr) (fun i _ => d.length - (intOf i).toNat)
  case atStart => exact ⟨0, Nat.zero_le _, rfl, by simp, Below.refl _ _⟩
  case round =>
    obtain ⟨k, hk, rfl, hup, hbr⟩ := hrel
    have HU := Lib.hid (And.intro hup hbr)
    clear hup hbr
    by_cases hkl : k < d.length
    · have hki : (k : Int) < (d.length : Int) := by omega
      obtain rfl := q3 (by omega)
      obtain ⟨a', cap', b', off', c1, c2, hp, hw, r1, r2, -⟩ := (H.out.below HU.out.2).at k hkl
      have HX := Lib.hid (RB1.mk' hp hw)
      clear hp q3
      go_wp2_with fail
      refine (specBkv_any _ d[k] _ _ _ HX.out).mono ?_
      rintro e w2 ⟨rfl, b2⟩
      have HB2 := Lib.hid (bup2 HU.out.2 b2)
      obtain ⟨q, hq⟩ : ∃ q, q = bkOk d[k] := ⟨_, rfl⟩
      rw [← hq]
      have HQ := Lib.hid hq
      clear b2 hq
      cases q
      · go_wp2_with fail
        go_ret
        exact ⟨ret_bool (by rw [HR.out, dv_no hkl HQ.out.symm]), HB2.out⟩
      · have HF := Lib.hid (And.intro (dvUp HU.out.1 hkl HQ.out.symm) HB2.out)
        go_wp2_with fail
        go_roundw
        case rel => exact ⟨k + 1, by omega, by go_num, HF.out⟩
        case measure => simp [intOf]; omega
    · have hki : ¬ (k : Int) < (d.length : Int) := by omega
      have HE : Hid (R = inB (d.length : Int) 1 12) := Lib.hid (by
        rw [HR.out]
        have := HU.out.1
        rw [List.take_of_length_le (by omega)] at this
        rw [Bool.eq_iff_iff, dvOk_iff, inB_iff]
        constructor
        · rintro ⟨h1, h2, -⟩; omega
        · rintro ⟨h1, h2⟩; exact ⟨by omega, by omega, this⟩)
      go_wp2_with fail
      refine (l1In_any _ _ _ _).mono ?_
      rintro e w2 ⟨rfl, rfl⟩
      rw [← HE.out]
      go_wp2_with fail
      go_ret
      exact ⟨rfl, HU.out.2⟩

end Go.Proofs.Ytjmofmdcegefgaa

