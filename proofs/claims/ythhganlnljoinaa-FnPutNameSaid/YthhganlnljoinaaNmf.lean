/-
  FindName and DropName, of the program and of the reference.
-/
import Derived.Test.YthhganlnljoinaaNmv
namespace Go.Proofs.Ythhganlnljoinaa
open Go.RowKit

theorem cell_two_new (w : World) (x y : Value) (t : TypeId) : ∀ j u, [x, y][j]? = some u → (w.alloc (.cells #[x, y] t)).cell? ((⟨w.heap.size, 0, none⟩ : Addr).add j) = some u := by
  intro j u hj
  have e : (⟨w.heap.size, 0, none⟩ : Addr).add j = ⟨w.heap.size, j, none⟩ := by unfold Addr.add; split <;> simp_all
  rw [e]
  simp only [World.cell?, heap_alloc_new]
  simpa using hj

/-- 'append(list, n)'. -/
theorem ap1_name {w : World} {ops : Array Oper} {rest : List Oper} {o : Oper} {a : Act} {Q : Exit → Act → World → Prop} (hgd : o.guard = none) (s x : Operand)
    (ho : o.op = .call { callee := .builtin .append, args := #[s, x], argTypes := #[25, 25] }) (lo : Nat) (v : Value) (xs : List (ByteArray × Int)) (y : ByteArray × Int) (hs : a.eval s = v) (hown : ON w lo v xs)
    (H : Nat) (hH : w.heap.size = H) (hx : a.eval x = .slice (some ⟨H, 0, none⟩) 1 1) (hn : xs.length ≤ 1000000000) (hbase : lo ≤ w.heap.size) (hy : N64 y)
    (h : ∀ v' w', ON w' lo v' (xs ++ [y]) ∧ v' ≠ .slice none 0 0 → Chg (fun k => lo ≤ k) w w' → wpList Try.prog ops Q rest (a.put o.dst v') w') :
    wpList Try.prog ops Q (o :: rest) a (w.alloc (.cells #[.string y.1, .int .i64 y.2] 33)) := by
  subst hH
  obtain ⟨i0, hi0, hz0, hz1, hz2⟩ := info_parts Try.infoN
  refine wpList_append_own (w.alloc (.cells #[.string y.1, .int .i64 y.2] 33)) hgd s x 25 ho lo 33 i0 (.agg #[.string ByteArray.empty, .int .i64 0]) 2 24 Try.underlying25 hi0 hz0 hz1 hz2 rfl (by decide) v xs.length (nc xs) hs (hown.1.alloc _) ⟨w.heap.size, 0, none⟩ 1 1
    [.string y.1, .int .i64 y.2] hx rfl (cell_two_new _ _ _ _) (by simp [Value.oneCell']) (by simp [maxLen]; omega) (by omega) (by simp; omega) fun v' w' h1 h2 h3 => ?_
  refine h v' w' ⟨⟨?_, ?_⟩, fun e => by simp [e] at h3⟩ ?_
  · have e1 : nc [y] = [.string y.1, .int .i64 y.2] := rfl
    rw [nc_append, e1]; simpa using h1
  · intro e he
    rcases List.mem_append.1 he with he | he
    · exact hown.2 e he
    · simp at he; subst he; exact hy
  · exact ((Chg.refl _ w).alloc _).grown h2 (fun k hk => .inr (hown.1.lt k hk).1)

/-- The first of that text. -/
def nmFd (l : List (ByteArray × Int)) (t : ByteArray) : Int := match l.find? (fun e => e.1.toList == t.toList) with | some e => e.2 | none => -1
theorem nmFd_yes (l : List (ByteArray × Int)) (t : ByteArray) (k : Nat) (hk : k < l.length) (h : (l[k].1.toList == t.toList) = true) : nmFd (l.drop k) t = l[k].2 := by
  rw [nmFd, drop_cons l k hk, List.find?_cons, h]
theorem nmFd_no (l : List (ByteArray × Int)) (t : ByteArray) (k : Nat) (hk : k < l.length) (h : (l[k].1.toList == t.toList) = false) : nmFd (l.drop k) t = nmFd (l.drop (k + 1)) t := by
  rw [nmFd, drop_cons l k hk, List.find?_cons, h]; rfl
theorem nmFd_end (l : List (ByteArray × Int)) (t : ByteArray) (k : Nat) (hk : ¬ k < l.length) : nmFd (l.drop k) t = -1 := by
  rw [List.drop_of_length_le (by omega)]; rfl

set_option maxHeartbeats 1000000 in
theorem implFind_any (v : Value) (xs : List (ByteArray × Int)) (t : ByteArray) (lo hi : Nat) (w : World) (h : RN w lo hi v xs) :
    Calls Try.prog 19 #[v, .string t] w fun e w' => e = .returned (.int .i64 (nmFind xs t)) ∧ Below w.heap.size w w' := by
  obtain ⟨a, cap, b, off, rfl, q1, q2, q3, q4⟩ := h.open
  have H := Lib.hid h
  have Q4 := Lib.hid q4
  clear h q4
  by_cases hv : nmVal xs = true
  · generalize hR : nmFind xs t = R
    have HR : Hid (R = nmFd (xs.drop 0) t) := Lib.hid (by rw [← hR, nmFind, if_pos hv]; rfl)
    clear hR
    go_enter Try.func19, Try.ntmps19
    go_wp2_with fail
    refine (implNmv_any _ xs _ _ _ H.out).mono ?_
    rintro e w1 ⟨rfl, b1⟩
    have B1 := Lib.hid b1
    clear b1
    go_wp2_with fail
    go_loopw [6, 12] (fun _ i wr => ∃ k : Nat, k ≤ xs.length ∧ i = .int .i64 k ∧ Below w.heap.size w wr ∧ Hid (R = nmFd (xs.drop k) t)) (fun _ i _ => xs.length - (intOf i).toNat)
    case atStart => exact ⟨0, Nat.zero_le _, rfl, B1.out, HR⟩
    case round =>
      obtain ⟨k, hk, rfl, hbr, H0⟩ := hrel
      have HB := Lib.hid hbr
      have hz := hbr.size
      clear HR hbr
      by_cases hlt : k < xs.length
      · obtain rfl := q3 (by omega)
        have c1 := cell_later HB.out (Q4.out k hlt).1
        have c2 := cell_later HB.out (Q4.out k hlt).2
        have HY := Lib.hid (nmFd_yes xs t k hlt)
        have HN := Lib.hid (nmFd_no xs t k hlt)
        clear q3
        obtain ⟨⟨x, y⟩, hxy⟩ : ∃ e, e = xs[k] := ⟨_, rfl⟩
        rw [← hxy] at c1 c2 HY HN
        clear hxy
        simp only at c1 c2 HY HN
        have HF := Lib.hid (HB.out.alloc hz (.cells #[.string x, .int .i64 y] 33))
        cases hq : (x.toList == t.toList)
        · have H1 := Lib.hid (H0.out.trans (HN.out hq))
          go_wp2_with fail
          go_roundw
          case rel => exact ⟨k + 1, by omega, by go_num, HF.out, H1⟩
          case measure => simp [intOf]; omega
        · have H1 := Lib.hid (H0.out.trans (HY.out hq))
          go_wp2_with fail
          go_ret
          exact ⟨ret_int (by rw [H1.out]), HF.out⟩
      · go_wp2_with fail
        go_ret
        exact ⟨ret_int (by rw [H0.out, nmFd_end _ _ _ hlt]), HB.out⟩
  · have hv' : nmVal xs = false := by simpa using hv
    have hl : nmFind xs t = -1 := by rw [nmFind, if_neg hv]
    rw [hl]
    clear hl hv
    go_enter Try.func19, Try.ntmps19
    go_wp2_with fail
    refine (implNmv_any _ xs _ _ _ H.out).mono ?_
    rintro e w1 ⟨rfl, b1⟩
    have B1 := Lib.hid b1
    clear b1
    go_wp2_with fail
    go_ret
    exact ⟨rfl, B1.out⟩

set_option maxHeartbeats 1000000 in
theorem specFind_any (v : Value) (xs : List (ByteArray × Int)) (t : ByteArray) (lo hi : Nat) (w : World) (h : RN w lo hi v xs) :
    Calls Try.prog 18 #[v, .string t] w fun e w' => e = .returned (.int .i64 (nmFind xs t)) ∧ Below w.heap.size w w' := by
  obtain ⟨a, cap, b, off, rfl, q1, q2, q3, q4⟩ := h.open
  have H := Lib.hid h
  have Q4 := Lib.hid q4
  clear h q4
  obtain ⟨ok, hok⟩ : ∃ ok, ok = nmVal xs := ⟨_, rfl⟩
  generalize hR : nmFind xs t = R
  have HR : Hid (R = if ok = true then nmFd (xs.drop 0) t else -1) := Lib.hid (by rw [← hR, nmFind, hok]; rfl)
  have HOK := Lib.hid hok
  clear hR hok
  go_enter Try.func18, Try.ntmps18
  go_wp2_with fail
  go_loopw [5] (fun i wr => ∃ k : Nat, k ≤ xs.length ∧ i = .int .i64 k ∧ Below w.heap.size w wr ∧ Hid (R = if ok = true then nmFd (xs.drop k) t else -1)) (fun i _ => xs.length - (intOf i).toNat)
  case atStart => exact ⟨0, Nat.zero_le _, rfl, Below.refl _ _, HR⟩
  case round =>
    obtain ⟨wo, rfl⟩ : ∃ wo : World, wo = wr := ⟨_, rfl⟩
    obtain ⟨k, hk, rfl, hbr, H0⟩ := hrel
    have HB := Lib.hid hbr
    clear HR hbr
    by_cases hlt : k < xs.length
    · obtain rfl := q3 (by omega)
      have HY := Lib.hid (nmFd_yes xs t k hlt)
      have HN := Lib.hid (nmFd_no xs t k hlt)
      have HQ := Lib.hid (Q4.out k hlt)
      clear q3
      obtain ⟨⟨x, y⟩, hxy⟩ : ∃ e, e = xs[k] := ⟨_, rfl⟩
      rw [← hxy] at HQ HY HN
      clear hxy
      simp only at HQ HY HN
      go_wp2_with fail
      refine (specNmv_any _ xs _ _ _ (H.out.below HB.out)).mono ?_
      rintro e w1 ⟨rfl, b1⟩
      have HB1 := Lib.hid (bup HB.out (Nat.le_refl _) b1)
      have c1 := cell_later HB1.out HQ.out.1
      have c2 := cell_later HB1.out HQ.out.2
      clear b1
      rw [← HOK.out]
      cases ok
      · go_wp2_with fail
        go_ret
        exact ⟨ret_int (by rw [H0.out]; rfl), HB1.out⟩
      · cases hq : (x.toList == t.toList)
        · have H1 : Hid (R = if true = true then nmFd (xs.drop (k + 1)) t else -1) := Lib.hid (by rw [H0.out, HN.out hq])
          go_wp2_with fail
          go_roundw
          case rel => exact ⟨k + 1, by omega, by go_num, HB1.out, H1⟩
          case measure => simp [intOf]; omega
        · have H1 : Hid (R = y) := Lib.hid (by rw [H0.out, HY.out hq]; rfl)
          go_wp2_with fail
          go_ret
          exact ⟨ret_int (by rw [H1.out]), HB1.out⟩
    · have H1 : Hid (R = -1) := Lib.hid (by rw [H0.out, nmFd_end _ _ _ hlt]; simp)
      have hlt' : decide (k < xs.length) = false := by simp; omega
      go_wp2_with fail
      go_ret
      exact ⟨ret_int (by rw [H1.out]), HB.out⟩

theorem nmWo_drop (l : List (ByteArray × Int)) (t : ByteArray) (k : Nat) (hk : k < l.length) : nmWo (l.drop k) t = (if (l[k].1.toList == t.toList) = true then [] else [l[k]]) ++ nmWo (l.drop (k + 1)) t := by
  rw [drop_cons l k hk]
  unfold nmWo
  rw [List.filter_cons]
  cases h : (l[k].1.toList == t.toList) <;> rfl
theorem nmWo_end (l : List (ByteArray × Int)) (t : ByteArray) (k : Nat) (hk : ¬ k < l.length) : nmWo (l.drop k) t = [] := by
  rw [List.drop_of_length_le (by omega)]; rfl
theorem nmWo_le (l : List (ByteArray × Int)) (t : ByteArray) : (nmWo l t).length ≤ l.length := List.length_filter_le _ _
def DropPost (xs : List (ByteArray × Int)) (t : ByteArray) (w : World) (e : Ending) (w' : World) : Prop := ∃ v, e = .returned (.tuple #[v, .bool (nmDrop xs t).2]) ∧ ON w' w.heap.size v (nmDrop xs t).1 ∧ Below w.heap.size w w'
/-- The state of the loops. -/
def DrIn (w : World) (xs : List (ByteArray × Int)) (t : ByteArray) (R : List (ByteArray × Int)) (v i : Value) (wr : World) : Prop :=
  ∃ (k : Nat) (acc : List (ByteArray × Int)), k ≤ xs.length ∧ i = .int .i64 k ∧ ON wr w.heap.size v acc ∧ Below w.heap.size w wr ∧ acc.length ≤ k ∧ R = acc ++ nmWo (xs.drop k) t

set_option maxHeartbeats 2000000 in
theorem implDrop_any (v : Value) (xs : List (ByteArray × Int)) (t : ByteArray) (lo hi : Nat) (w : World) (h : RN w lo hi v xs) (hx : xs.length ≤ 1048576) :
    Calls Try.prog 22 #[v, .string t] w (DropPost xs t w) := by
  obtain ⟨a, cap, b, off, rfl, q1, q2, q3, q4⟩ := h.open
  have H := Lib.hid h
  have Q4 := Lib.hid q4
  have HW := Lib.hid h.2
  clear h q4
  unfold DropPost
  by_cases hv : nmVal xs = true
  · have hd : nmDrop xs t = (nmWo xs t, decide ((nmWo xs t).length < xs.length)) := by rw [nmDrop, if_pos hv]
    rw [hd]
    clear hd
    have HLE := Lib.hid (nmWo_le xs t)
    generalize hR : nmWo xs t = R at HLE ⊢
    have HR : Hid (R = [] ++ nmWo (xs.drop 0) t) := Lib.hid (by rw [← hR]; rfl)
    clear hR
    go_enter Try.func22, Try.ntmps22
    go_wp2_with fail
    refine (implNmv_any _ xs _ _ _ H.out).mono ?_
    rintro e w1 ⟨rfl, b1⟩
    have B1 := Lib.hid b1
    clear b1
    go_wp2_with fail
    go_loopw [6, 8, 14] (fun v _ i wr => DrIn w xs t R v i wr) (fun _ _ i _ => xs.length - (intOf i).toNat)
    case atStart => exact ⟨0, [], Nat.zero_le _, rfl, on_nil _ _, B1.out, Nat.le_refl _, HR.out⟩
    case round =>
      obtain ⟨wo, rfl⟩ : ∃ wo : World, wo = wr := ⟨_, rfl⟩
      obtain ⟨k, acc, hk, rfl, o0, b0, hacc, H0⟩ := hrel
      have hz := b0.size
      have O0 := Lib.hid (And.intro o0 (And.intro b0 H0))
      clear HR o0 b0 H0
      by_cases hlt : k < xs.length
      · obtain rfl := q3 (by omega)
        have c1 := cell_later O0.out.2.1 (Q4.out k hlt).1
        have c2 := cell_later O0.out.2.1 (Q4.out k hlt).2
        have HN := Lib.hid (HW.out _ (List.getElem_mem hlt))
        have HS := Lib.hid (nmWo_drop xs t k hlt)
        clear q3
        obtain ⟨⟨x, y⟩, hxy⟩ : ∃ e, e = xs[k] := ⟨_, rfl⟩
        rw [← hxy] at c1 c2 HN HS
        clear hxy
        simp only at c1 c2 HS
        have hs1 : (wo.alloc (.cells #[.string x, .int .i64 y] 33)).heap.size = wo.heap.size + 1 := by simp
        have O1 := Lib.hid (And.intro (O0.out.1.below ((Below.refl _ _).alloc (Nat.le_refl _) (.cells #[.string x, .int .i64 y] 33))) (O0.out.2.1.alloc hz (.cells #[.string x, .int .i64 y] 33)))
        cases hq : (x.toList == t.toList)
        · have HA := Lib.hid (show R = (acc ++ [(x, y)]) ++ nmWo (xs.drop (k + 1)) t by rw [O0.out.2.2, HS.out, hq]; simp)
          go_wp2_with (at_builtin; refine ap1_name rfl _ _ rfl w.heap.size u6 acc (x, y) rfl O1.out.1 (wo.heap.size + 1) (by simp) rfl (by omega) (by simp; omega) HN.out ?_; intro v' w2 o2 d2)
          have HF : Hid (DrIn w xs t R v' (.int .i64 ((k : Int) + 1)) w2) := ⟨k + 1, acc ++ [(x, y)], by omega, by go_num, o2.1, below_own O1.out.2 (by simp; omega) d2, by simp; omega, HA.out⟩
          clear o2 d2
          go_roundw
          case rel => first | exact HF.out | exact ⟨_, _, _, HF.out, rfl, rfl, rfl⟩ | exact ⟨_, _, HF.out, rfl, rfl⟩
          case measure => simp [intOf]; omega
        · have HA := Lib.hid (show R = acc ++ nmWo (xs.drop (k + 1)) t by rw [O0.out.2.2, HS.out, hq]; simp)
          have HF : Hid (DrIn w xs t R u6 (.int .i64 ((k : Int) + 1)) (wo.alloc (.cells #[.string x, .int .i64 y] 33))) := ⟨k + 1, acc, by omega, by go_num, O1.out.1, O1.out.2, by omega, HA.out⟩
          go_wp2_with fail
          go_roundw
          case rel => first | exact HF.out | exact ⟨_, _, _, HF.out, rfl, rfl, rfl⟩ | exact ⟨_, _, HF.out, rfl, rfl⟩
          case measure => simp [intOf]; omega
      · have hRa : R = acc := by rw [O0.out.2.2, nmWo_end _ _ _ hlt]; simp
        subst hRa
        obtain ⟨a4, cap4, b4, off4, rfl, -⟩ := O0.out.1.rn.open
        go_wp2_with fail
        go_ret2
        exact ⟨_, by first | rfl | (congr 3; simp), O0.out.1, O0.out.2.1⟩
  · have hv' : nmVal xs = false := by simpa using hv
    have hd : nmDrop xs t = ([], false) := by rw [nmDrop, if_neg hv]
    rw [hd]
    clear hd hv
    go_enter Try.func22, Try.ntmps22
    go_wp2_with fail
    refine (implNmv_any _ xs _ _ _ H.out).mono ?_
    rintro e w1 ⟨rfl, b1⟩
    have B1 := Lib.hid b1
    clear b1
    go_wp2_with fail
    go_ret2
    exact ⟨_, rfl, on_nil _ _, B1.out⟩

set_option maxHeartbeats 2000000 in
theorem specDrop_good (v : Value) (xs : List (ByteArray × Int)) (t : ByteArray) (lo hi : Nat) (w : World) (h : RN w lo hi v xs) (hx : xs.length ≤ 1048576) (hv : nmVal xs = true) :
    Calls Try.prog 21 #[v, .string t] w (DropPost xs t w) := by
  obtain ⟨a, cap, b, off, rfl, q1, q2, q3, q4⟩ := h.open
  have H := Lib.hid h
  have Q4 := Lib.hid q4
  have HW := Lib.hid h.2
  clear h q4
  unfold DropPost
  have hd : nmDrop xs t = (nmWo xs t, decide ((nmWo xs t).length < xs.length)) := by rw [nmDrop, if_pos hv]
  rw [hd]
  clear hd
  generalize hR : nmWo xs t = R
  have HR : Hid (R = [] ++ nmWo (xs.drop 0) t) := Lib.hid (by rw [← hR]; rfl)
  clear hR
  go_enter Try.func21, Try.ntmps21
  go_wp2_with fail
  go_loopw [6, 7] (fun v i wr => DrIn w xs t R v i wr) (fun _ i _ => xs.length - (intOf i).toNat)
  case atStart => exact ⟨0, [], Nat.zero_le _, rfl, ⟨World.ownsRow_lit w #[] 0 (Nat.le_refl _) (by decide) rfl, fun _ h => by simp at h⟩, (Below.refl _ _).alloc (Nat.le_refl _) _, Nat.le_refl _, HR.out⟩
  case round =>
    obtain ⟨wo, rfl⟩ : ∃ wo : World, wo = wr := ⟨_, rfl⟩
    obtain ⟨k, acc, hk, rfl, o0, b0, hacc, H0⟩ := hrel
    have hz := b0.size
    have O0 := Lib.hid (And.intro o0 (And.intro b0 H0))
    clear HR o0 b0 H0
    by_cases hlt : k < xs.length
    · obtain rfl := q3 (by omega)
      have HQ := Lib.hid (Q4.out k hlt)
      have HN := Lib.hid (HW.out _ (List.getElem_mem hlt))
      have HS := Lib.hid (nmWo_drop xs t k hlt)
      clear q3
      obtain ⟨⟨x, y⟩, hxy⟩ : ∃ e, e = xs[k] := ⟨_, rfl⟩
      rw [← hxy] at HQ HN HS
      clear hxy
      simp only at HQ HS
      go_wp2_with fail
      refine (specNmv_any _ xs _ _ _ (H.out.below O0.out.2.1)).mono ?_
      rintro e w1 ⟨rfl, b1⟩
      have O1 := Lib.hid (And.intro (O0.out.1.below b1) (bup O0.out.2.1 (Nat.le_refl _) b1))
      have c1 := cell_later O1.out.2 HQ.out.1
      have c2 := cell_later O1.out.2 HQ.out.2
      have hz1 := O1.out.2.size
      clear b1
      cases hq : (x.toList == t.toList)
      · have HA := Lib.hid (show R = (acc ++ [(x, y)]) ++ nmWo (xs.drop (k + 1)) t by rw [O0.out.2.2, HS.out, hq]; simp)
        go_wp2_with (at_builtin; refine ap1_name rfl _ _ rfl w.heap.size u6 acc (x, y) rfl O1.out.1 w1.heap.size rfl rfl (by omega) hz1 HN.out ?_; intro v' w2 o2 d2)
        have HF : Hid (DrIn w xs t R v' (.int .i64 ((k : Int) + 1)) w2) := ⟨k + 1, acc ++ [(x, y)], by omega, by go_num, o2.1, below_own O1.out.2 hz1 d2, by simp; omega, HA.out⟩
        clear o2 d2
        go_roundw
        case rel => first | exact HF.out | exact ⟨_, _, _, HF.out, rfl, rfl, rfl⟩ | exact ⟨_, _, HF.out, rfl, rfl⟩
        case measure => simp [intOf]; omega
      · have HA := Lib.hid (show R = acc ++ nmWo (xs.drop (k + 1)) t by rw [O0.out.2.2, HS.out, hq]; simp)
        have HF : Hid (DrIn w xs t R u6 (.int .i64 ((k : Int) + 1)) w1) := ⟨k + 1, acc, by omega, by go_num, O1.out.1, O1.out.2, by omega, HA.out⟩
        go_wp2_with fail
        go_roundw
        case rel => first | exact HF.out | exact ⟨_, _, _, HF.out, rfl, rfl, rfl⟩ | exact ⟨_, _, HF.out, rfl, rfl⟩
        case measure => simp [intOf]; omega
    · have hRa : R = acc := by rw [O0.out.2.2, nmWo_end _ _ _ hlt]; simp
      subst hRa
      have hlt' : decide (k < xs.length) = false := by simp; omega
      have O2 := O0.out.1
      obtain ⟨a4, cap4, b4, off4, rfl, -⟩ := O2.rn.open
      have HO2 := Lib.hid O2
      clear O2
      go_wp2_with fail
      refine (specNmv_any _ xs _ _ _ (H.out.below O0.out.2.1)).mono ?_
      rintro e w1 ⟨rfl, b1⟩
      have O1 := Lib.hid (And.intro (HO2.out.below b1) (bup O0.out.2.1 (Nat.le_refl _) b1))
      clear b1
      go_wp2_with fail
      go_ret2
      exact ⟨_, by first | rfl | (congr 3; simp), O1.out.1, O1.out.2⟩

set_option maxHeartbeats 2000000 in
theorem specDrop_bad (v : Value) (xs : List (ByteArray × Int)) (t : ByteArray) (lo hi : Nat) (w : World) (h : RN w lo hi v xs) (hv : nmVal xs = false) :
    Calls Try.prog 21 #[v, .string t] w (DropPost xs t w) := by
  obtain ⟨a, cap, b, off, rfl, q1, q2, q3, q4⟩ := h.open
  have H := Lib.hid h
  clear h q4
  unfold DropPost
  have hd : nmDrop xs t = ([], false) := by rw [nmDrop, if_neg (by rw [hv]; simp)]
  rw [hd]
  have hpos : 0 < xs.length := by
    rcases xs with _ | ⟨e, r⟩
    · exact absurd hv (by decide)
    · simp
  obtain rfl := q3 hpos
  have HV := Lib.hid hv
  clear q3 hv hd
  go_enter Try.func21, Try.ntmps21
  go_wp2_with fail
  go_loopw [6, 7] (fun v i wr => i = .int .i64 0 ∧ ON wr w.heap.size v [] ∧ Below w.heap.size w wr) (fun _ i _ => 1 - (intOf i).toNat)
  case atStart => exact ⟨rfl, ⟨World.ownsRow_lit w #[] 0 (Nat.le_refl _) (by decide) rfl, fun _ h => by simp at h⟩, (Below.refl _ _).alloc (Nat.le_refl _) _⟩
  case round =>
    obtain ⟨wo, rfl⟩ : ∃ wo : World, wo = wr := ⟨_, rfl⟩
    obtain ⟨rfl, o0, b0⟩ := hrel
    have O0 := Lib.hid (And.intro o0 b0)
    clear o0 b0
    go_wp2_with fail
    refine (specNmv_any _ xs _ _ _ (H.out.below O0.out.2)).mono ?_
    rintro e w1 ⟨rfl, b1⟩
    have O1 := Lib.hid (And.intro (O0.out.1.below b1) (bup O0.out.2 (Nat.le_refl _) b1))
    have hv' : nmVal xs = false := HV.out
    clear b1
    go_wp2_with fail
    refine (specNmv_any _ xs _ _ _ (H.out.below O1.out.2)).mono ?_
    rintro e w2 ⟨rfl, b2⟩
    have O2 := Lib.hid (And.intro (O1.out.1.below b2) (bup O1.out.2 (Nat.le_refl _) b2))
    clear b2
    go_wp2_with fail
    go_ret2
    exact ⟨_, rfl, O2.out.1, O2.out.2⟩

theorem specDrop_any (v : Value) (xs : List (ByteArray × Int)) (t : ByteArray) (lo hi : Nat) (w : World) (h : RN w lo hi v xs) (hx : xs.length ≤ 1048576) :
    Calls Try.prog 21 #[v, .string t] w (DropPost xs t w) := by
  by_cases hv : nmVal xs = true
  · exact specDrop_good v xs t lo hi w h hx hv
  · exact specDrop_bad v xs t lo hi w h (by simpa using hv)

end Go.Proofs.Ythhganlnljoinaa
