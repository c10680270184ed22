/-
  ExtentsList and ExtentAt, of the program and of the reference.
-/
import Derived.Test.YtepgakaccgnebaaExv
namespace Go.Proofs.Ytepgakaccgnebaa
open Go.RowKit

/-- a+i, a+i+1, .. , a+m-1. -/
def seg (a : Int) (m i : Nat) : List Int := ((List.range m).drop i).map fun j : Nat => a + (j : Int)
theorem seg_cons (a : Int) (m i : Nat) (h : i < m) : seg a m i = (a + i) :: seg a m (i + 1) := by
  unfold seg
  rw [drop_cons (List.range m) i (by simpa using h)]
  simp
theorem seg_end (a : Int) (m i : Nat) (h : ¬ i < m) : seg a m i = [] := by
  unfold seg
  rw [List.drop_of_length_le (by simp; omega)]; rfl
theorem seg_len (a : Int) (m i : Nat) : (seg a m i).length = m - i := by simp [seg]
def exNums (xs : List (Int × Int)) : List Int := xs.flatMap fun e => seg e.1 e.2.toNat 0
def exList (xs : List (Int × Int)) : List Int := if exVal xs = true then exNums xs else []
theorem exNums_drop (xs : List (Int × Int)) (k : Nat) (hk : k < xs.length) : exNums (xs.drop k) = seg xs[k].1 xs[k].2.toNat 0 ++ exNums (xs.drop (k + 1)) := by
  rw [drop_cons xs k hk]; rfl
theorem exNums_end (xs : List (Int × Int)) (k : Nat) (hk : ¬ k < xs.length) : exNums (xs.drop k) = [] := by
  rw [List.drop_of_length_le (by omega)]; rfl
theorem exVal_ok {xs : List (Int × Int)} (h : exVal xs = true) : xs.length ≤ 8 ∧ ∀ k (hk : k < xs.length), exOk xs[k] = true := by
  simp only [exVal, Bool.and_eq_true, decide_eq_true_eq, List.all_eq_true, List.mem_range] at h
  refine ⟨h.1, fun k hk => ?_⟩
  have := h.2 k hk
  simp only [exAt, Bool.and_eq_true] at this
  simpa [hk] using this.1
theorem exNums_len {xs : List (Int × Int)} (h : ∀ k (hk : k < xs.length), exOk xs[k] = true) : (exNums xs).length ≤ 40 * xs.length := by
  induction xs with
  | nil => simp [exNums]
  | cons e xs ih =>
    have h0 := exOk_iff.1 (h 0 (by simp))
    simp at h0
    have := ih fun k hk => by have := h (k + 1) (by simpa using hk); simpa using this
    simp only [exNums, List.flatMap_cons, List.length_append, seg_len, List.length_cons] at this ⊢
    omega
theorem exList_len (xs : List (Int × Int)) : (exList xs).length ≤ 320 := by
  unfold exList
  split
  · rename_i h
    have := exVal_ok h
    have := exNums_len this.2
    omega
  · simp

/-- The state of the program's inner loop. -/
def ExIn (w : World) (B : Nat) (R : List Int) (x : Int) (m : Nat) (rest : List Int) (v i : Value) (wr : World) : Prop :=
  ∃ (j : Nat) (acc : List Int), j ≤ m ∧ i = .int .i64 j ∧ OI wr w.heap.size v acc ∧ Below w.heap.size w wr ∧ w.heap.size ≤ B ∧ wr.heap[B]? = some (.cells #[.int .i64 x, .int .i64 m] 32 (0, 0)) ∧ R = acc ++ (seg x m j ++ rest)

theorem own_ne {w : World} {base : Nat} {e e' : TypeId} {size : Nat} {v : Value} {n : Nat} {cs : List Value} {c : Array Value} {f : Nat × Nat} {B : Nat} (h : w.ownsRow base e size v n cs) (hB : w.heap[B]? = some (.cells c e' f)) (hne : e ≠ e') : v.ownBlock ≠ some B := by
  rcases h.2 with ⟨rfl, _⟩ | ⟨g, cap, cur, rfl, hb, hg, _⟩
  · simp [Value.ownBlock]
  · intro he
    have e1 : g = B := Option.some.inj he
    subst e1
    rw [hg] at hB
    simp at hB
    exact hne hB.2.1

set_option maxHeartbeats 4000000 in
theorem implExl_any (v : Value) (xs : List (Int × Int)) (lo hi : Nat) (w : World) (h : RX w lo hi v xs) :
    Calls Try.prog 21 #[v] w (NewI (exList xs) w) := by
  obtain ⟨a, cap, b, off, rfl, q1, q2, q3, q4⟩ := h.open
  have H := Lib.hid h
  have Q4 := Lib.hid q4
  clear h q4
  have HLEN := Lib.hid (exList_len xs)
  by_cases hv : exVal xs = true
  · generalize hR : exList xs = R at HLEN ⊢
    have HR : Hid (R = exNums (xs.drop 0)) := Lib.hid (by rw [← hR, exList, if_pos hv]; rfl)
    have HOK := Lib.hid (exVal_ok hv)
    clear hR
    go_enter Try.func21, Try.ntmps21
    go_wp2_with fail
    refine (implExv_any _ xs _ _ _ H.out).mono ?_
    rintro e w1 ⟨rfl, b1⟩
    have B1 := Lib.hid b1
    clear b1
    go_wp2_with fail
    go_loopw [3, 5, 6, 12] (fun v _ _ i wr => ∃ (k : Nat) (acc : List Int), k ≤ xs.length ∧ i = .int .i64 k ∧ OI wr w.heap.size v acc ∧ Below w.heap.size w wr ∧ Hid (R = acc ++ exNums (xs.drop k))) (fun _ _ _ i _ => xs.length - (intOf i).toNat)
    case atStart => exact ⟨0, [], Nat.zero_le _, rfl, ⟨World.ownsRow_nil _ _ _ _, fun _ h => by simp at h⟩, B1.out, HR⟩
    case round =>
      obtain ⟨wo, rfl⟩ : ∃ wo : World, wo = wr := ⟨_, rfl⟩
      obtain ⟨k, acc, hk, rfl, o0, b0, H0⟩ := hrel
      have O0 := Lib.hid (And.intro o0 b0)
      have hz := b0.size
      clear HR o0 b0
      by_cases hlt : k < xs.length
      · obtain rfl := q3 (by omega)
        have c1 := cell_later O0.out.2 (Q4.out k hlt).1
        have c2 := cell_later O0.out.2 (Q4.out k hlt).2
        have hok := exOk_iff.1 (HOK.out.2 k hlt)
        have H1 : Hid (R = acc ++ (seg xs[k].1 xs[k].2.toNat 0 ++ exNums (xs.drop (k + 1)))) := Lib.hid (by rw [H0.out, exNums_drop xs k hlt])
        clear q3 H0
        obtain ⟨⟨x, y⟩, hxy⟩ : ∃ e, e = xs[k] := ⟨_, rfl⟩
        rw [← hxy] at c1 c2 hok H1
        clear hxy
        simp only at c1 c2 hok H1
        obtain ⟨⟨hx0, hx1⟩, hy0, hy1⟩ := hok
        obtain ⟨m, rfl⟩ := Int.eq_ofNat_of_zero_le (show 0 ≤ y by omega)
        rw [Int.toNat_natCast] at H1
        go_wp2_with fail
        go_loopw [3, 6, 18] (fun v _ i wr => ExIn w wo.heap.size R x m (exNums (xs.drop (k + 1))) v i wr) (fun _ _ i _ => m - (intOf i).toNat)
        case atStart => exact ⟨0, acc, Nat.zero_le _, rfl, O0.out.1.below ((Below.refl _ _).alloc (Nat.le_refl _) _), O0.out.2.alloc hz _, hz, heap_alloc_new _ _, H1.out⟩
        case round =>
          obtain ⟨j, acc', hj, rfl, o1, b1, -, hbox, hR1⟩ := hrel
          have hne := own_ne o1.1 hbox (by decide)
          have hz1 := b1.size
          have hlenR : acc'.length ≤ R.length := by rw [hR1]; simp
          have hl320 := HLEN.out
          have f1 : wr.cell? ⟨wo.heap.size, 0, none⟩ = some (.int .i64 x) := by simp [World.cell?, hbox]
          have O1 := Lib.hid (And.intro o1 (And.intro b1 (And.intro hbox (And.intro hR1 hne))))
          clear o1 b1 hbox hR1 hne
          by_cases hjm : j < m
          · go_wp2_with (at_builtin; refine ap1_intS rfl _ _ rfl w.heap.size u3 acc' (x + (j : Int)) rfl O1.out.1 rfl (by omega) hz1 (by unfold I64; omega) ?_; intro v' w2 o2 c2)
            have HF : Hid (ExIn w wo.heap.size R x m (exNums (xs.drop (k + 1))) v' (.int .i64 ((j : Int) + 1)) w2) := by
              refine ⟨j + 1, acc' ++ [x + (j : Int)], by omega, by go_num, o2.1, below_own O1.out.2.1 hz1 (c2.mono fun b _ hb => (O1.out.1.lt b hb).1), hz, ?_, ?_⟩
              · rw [c2.block wo.heap.size (Array.getElem?_eq_some_iff.1 O1.out.2.2.1).1 O1.out.2.2.2.2]; exact O1.out.2.2.1
              · rw [O1.out.2.2.2.1, seg_cons x m j hjm]; simp
            clear o2 c2
            go_roundw
            case rel => first | exact HF.out | exact ⟨_, _, _, HF.out, rfl, rfl, rfl⟩ | exact ⟨_, _, HF.out, rfl, rfl⟩
            case measure => simp [intOf]; omega
          · have HF : Hid (R = acc' ++ exNums (xs.drop (k + 1))) := Lib.hid (by rw [O1.out.2.2.2.1, seg_end x m j hjm]; simp)
            go_wp2_with fail
            go_roundw
            case rel => exact ⟨k + 1, acc', by omega, by go_num, O1.out.1, O1.out.2.1, HF⟩
            case measure => simp [intOf]; omega
      · have H1 : Hid (R = acc) := Lib.hid (by rw [H0.out, exNums_end _ _ hlt]; simp)
        go_wp2_with fail
        go_ret
        exact ⟨_, rfl, by rw [H1.out]; exact O0.out.1, O0.out.2⟩
  · have hv' : exVal xs = false := by simpa using hv
    have hl : exList xs = [] := by rw [exList, if_neg hv]
    rw [hl]
    clear hl hv
    go_enter Try.func21, Try.ntmps21
    go_wp2_with fail
    refine (implExv_any _ xs _ _ _ H.out).mono ?_
    rintro e w1 ⟨rfl, b1⟩
    have B1 := Lib.hid b1
    clear b1
    go_wp2_with fail
    go_ret
    exact ⟨_, rfl, ⟨World.ownsRow_nil _ _ _ _, fun _ h => by simp at h⟩, B1.out⟩

end Go.Proofs.Ytepgakaccgnebaa
