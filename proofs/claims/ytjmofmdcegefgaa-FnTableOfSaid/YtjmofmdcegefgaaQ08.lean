/-
  Texts of this claim, laid together: Tbc, Tbx, Tsm.
-/
import Derived.Laws.CopyOwn
import Derived.Test.YtjmofmdcegefgaaQ04
import Derived.Test.YtjmofmdcegefgaaQ05
import Derived.Test.YtjmofmdcegefgaaQ07
namespace Go.Proofs.Ytjmofmdcegefgaa
open Go.RowKit

theorem pre_len {t : List (List Int)} (hv : tabVal t = true) {f p : Nat} (hf : f < t.length) (hp : p ≤ 6) : (pre t f p).length = f * 6 + p := by
  have h6 := (tabVal_iff.1 hv).2.1
  unfold pre
  rw [List.length_append, flat_len (fun l hl => h6 l (List.mem_of_mem_take hl)), getD_at hf, List.length_take, List.length_take, tab_row hv hf]
  omega
theorem tdif_le (a b : List Int) : tdif a b ≤ a.length := by
  unfold tdif
  have h1 := List.countP_le_length (p := fun q : Int × Int => !(q.1 == q.2)) (l := a.zip b)
  have h2 : (a.zip b).length ≤ a.length := by rw [List.length_zip]; omega
  omega
theorem tdif_pre {a b : List (List Int)} (ha : tabVal a = true) (hb : tabVal b = true) {f p : Nat} (hfa : f < a.length) (hfb : f < b.length) (hpa : p < a[f].length) (hpb : p < b[f].length) :
    tdif (pre a f (p + 1)) (pre b f (p + 1)) = tdif (pre a f p) (pre b f p) + if a[f][p] = b[f][p] then 0 else 1 := by
  have h6 := tab_row ha hfa
  rw [pre_succ hfa hpa, pre_succ hfb hpb, tdif_snoc]
  rw [pre_len ha hfa (by omega), pre_len hb hfb (by omega)]
theorem tdif_bd {a b : List (List Int)} (ha : tabVal a = true) {f p : Nat} (hfa : f < a.length) (hp : p ≤ 6) : tdif (pre a f p) (pre b f p) ≤ 48 := by
  have h1 := tdif_le (pre a f p) (pre b f p)
  rw [pre_len ha hfa hp] at h1
  have := tab_len ha
  omega
theorem tchg_yes {a b : List (List Int)} (ha : tabVal a = true) (hb : tabVal b = true) : tchg a b = tdif ((a.take 8).flatten) ((b.take 8).flatten) := by
  rw [tchg, if_pos ⟨ha, hb⟩, List.take_of_length_le (by rw [tab_len ha]; omega), List.take_of_length_le (by rw [tab_len hb]; omega)]
theorem tchg_no {a b : List (List Int)} (h : tabVal a = false ∨ tabVal b = false) : tchg a b = -1 := by
  rw [tchg, if_neg]
  rintro ⟨h1, h2⟩
  rcases h with h | h
  · rw [h1] at h; cases h
  · rw [h2] at h; cases h
theorem two_new {w w2 : World} (o1 o2 : Obj) (h : Below ((w.alloc o1).alloc o2).heap.size ((w.alloc o1).alloc o2) w2) :
    w2.heap[w.heap.size]? = some o1 ∧ w2.heap[w.heap.size + 1]? = some o2 := by
  have e1 : ((w.alloc o1).alloc o2).heap[w.heap.size]? = some o1 := by
    rw [Below.heap_alloc _ _ _ (by simp)]; exact heap_alloc_new w o1
  have e2 : ((w.alloc o1).alloc o2).heap[w.heap.size + 1]? = some o2 := by
    have := heap_alloc_new (w.alloc o1) o2
    simpa using this
  exact ⟨(h.block _ (by simp; omega)).trans e1, (h.block _ (by simp)).trans e2⟩
theorem two_below (w : World) (o1 o2 : Obj) : Below w.heap.size w ((w.alloc o1).alloc o2) := (balloc w o1).trans ((balloc (w.alloc o1) o2).mono (by simp))



end Go.Proofs.Ytjmofmdcegefgaa

namespace Go.Proofs.Ytjmofmdcegefgaa
open Go.RowKit

/-- 'make' of an operation of a region that draws its order. -/
theorem frees_mk {w : World} {o : Oper} {ρ : Operand → Value} {R : Value → World → Prop} (l c : Operand) (hop : o.op = Op.makeSlice 31 l c) (n : Nat) (hl : ρ l = .int .i64 n) (hc : ρ c = .int .i64 n) (hn : n ≤ 1000000000000)
    (h : ∀ w', OI w' w.heap.size (.slice (some ⟨w.heap.size, 0, none⟩) n n) (List.replicate n 0) → Below w.heap.size w w' → R (.slice (some ⟨w.heap.size, 0, none⟩) n n) w') : Frees Try.prog o ρ w R := by
  obtain ⟨i0, hi0, hz0, hz1, hz2⟩ := info_parts Try.infoInt
  obtain ⟨w', hrun, r1, r2⟩ := run_make_full (P := Try.prog) w w.heap.size 31 3 i0 (.int .i64 0) 1 Try.underlying31 hi0 hz0 hz1 .i64 .i64 n (by rw [hz2]; omega) (by simp [maxLen]; omega) (Nat.le_refl _)
  unfold Frees
  simp [execOp, hop, hl, hc, hrun, Result.andThen]
  have e : (madeCells (Value.int IntKind.i64 0).cells (n * 1)).toList = (List.replicate n (0 : Int)).map (Value.int .i64) := by
    have := toList_madeCells_one (.int .i64 0) n
    simpa [Value.cells] using this
  rw [e] at r1
  exact h w' ⟨by simpa using r1, fun x hx => by simp at hx; rw [hx.2]; unfold I64; omega⟩ ((Below.refl _ _).grown r2 (Nat.le_refl _) (by simp))

/-- 'copy' of a list into a row of the table. -/
theorem cp_row {w : World} {ops : Array Oper} {rest : List Oper} {o : Oper} {a : Act} {Q : Exit → Act → World → Prop} (hgd : o.guard = none) (d s : Operand)
    (ho : o.op = .call { callee := .builtin .copy, args := #[d, s], argTypes := #[31, 31] }) (lo hi : Nat) (v : Value) (xss : List (List Int)) (f : Nat) (hf : f < xss.length) (hown : OT w lo hi v xss)
    (u : Value) (hu : ∀ A cap, v = .slice (some ⟨A, 0, none⟩) xss.length cap → w.cell? ⟨A, f, none⟩ = some u) (hd : a.eval d = u) (u2 : Value) (hs : a.eval s = u2) (xs : List Int) (lo2 hi2 : Nat) (hr : RI w lo2 hi2 u2 xs) (hlen : xs.length = xss[f].length) (hpos : 0 < xs.length)
    (h : ∀ w', OT w' lo hi v (xss.set f xs) → Chg (fun b => lo ≤ b ∧ b < hi ∧ ∃ cur fr, w.heap[b]? = some (.cells cur 3 fr)) w w' → wpList Try.prog ops Q rest (a.put o.dst (goInt xs.length)) w') : wpList Try.prog ops Q (o :: rest) a w := by
  obtain ⟨A, cap, u', hv, -, hcu, ho2, hb, hput⟩ := hown.inner f hf
  have e := hu A cap hv
  rw [hcu] at e
  obtain rfl := Option.some.inj e
  rcases ho2.1.2 with ⟨-, h0⟩ | ⟨g, cap', cur, rfl, hbg, hg, hn, hm, hsz, htk⟩
  · omega
  obtain ⟨a2, cap2, b2, off2, rfl, s1, s2, s3, s4⟩ := hr.open
  obtain rfl := s3 hpos
  have hcl : cur.toList.length = cap' := by rw [Array.length_toList, hsz]; omega
  have hml : (xs.map (Value.int .i64)).length = xs.length := by simp
  have hc : Chg (fun b => (Value.slice (some ⟨g, 0, none⟩) xss[f].length cap').ownBlock = some b) w (w.setRow g (cur.toList.take 0 ++ (xs.map (Value.int .i64) ++ cur.toList.drop (0 + (xs.map (Value.int .i64)).length))).toArray) :=
    ⟨rfl, rfl, rfl, by simp, fun k hk hs => setRow_other w g k _ (by rintro rfl; exact hs rfl)⟩
  refine wpList_copy_own hgd d s 31 31 ho 3 Try.underlying31 (by
      obtain ⟨i0, hi0, hz0, hz1, hz2⟩ := info_parts Try.infoInt
      rw [hi0]; simp [hz1]) g 0 xss[f].length cap' ⟨b2, off2, none⟩ xs.length cap2 hd hs cur 3 hg (xs.map (Value.int .i64)) (by rw [hml, hlen]; exact (Nat.min_self _).symm) (fun j u hj => ?_) (by rw [hml, Nat.zero_add, hsz]; omega) (fun u hu => ?_) ?_
  · obtain ⟨hjl, rfl⟩ := List.getElem?_eq_some_iff.1 hj
    rw [List.getElem_map]
    have := s4 j (by simpa using hjl)
    rw [show (⟨b2, off2, none⟩ : Addr).add j = ⟨b2, off2 + j, none⟩ from by cases j <;> simp [Addr.add]]
    exact this
  · obtain ⟨x, -, rfl⟩ := List.mem_map.1 hu
    rfl
  · have e2 : goInt (xs.map (Value.int .i64)).length = goInt xs.length := by rw [hml]
    rw [e2]
    refine h _ (hput _ xs hc ⟨⟨by simp, .inr ⟨g, cap', _, by rw [hlen], hbg, setRow_heap w g cur _ _ _ hg, by omega, hm, ?_, ?_⟩⟩, hr.2⟩) (hc.mono fun k hk hb2 => ?_)
    · simp [hml]; omega
    · simp
    · have e3 : g = k := Option.some.inj hb2
      subst e3
      exact ⟨(hb g rfl).1, (hb g rfl).2, cur, (0, 0), hg⟩





end Go.Proofs.Ytjmofmdcegefgaa

namespace Go.Proofs.Ytjmofmdcegefgaa
open Go.RowKit

def sameLL (xs ys : List (List Int)) : Bool := decide (xs = ys)
theorem drop_split (xs ys : List (List Int)) (k : Nat) (h1 : k < xs.length) (h2 : k < ys.length) : sameLL (xs.drop k) (ys.drop k) = (sameL xs[k] ys[k] && sameLL (xs.drop (k + 1)) (ys.drop (k + 1))) := by
  unfold sameLL sameL
  rw [Bool.eq_iff_iff, decide_eq_true_eq, Bool.and_eq_true, decide_eq_true_eq, decide_eq_true_eq]
  rw [drop_cons xs k h1, drop_cons ys k h2, List.cons.injEq]

set_option maxHeartbeats 2000000 in
theorem sameTable_any (v v2 : Value) (xs ys : List (List Int)) (lo hi lo2 hi2 : Nat) (w : World) (h : RT w lo hi v xs) (h2 : RT w lo2 hi2 v2 ys) (hx : tsz xs ≤ 1048576) (hy : tsz ys ≤ 1048576) :
    Calls Try.prog 25 #[.agg #[v], .agg #[v2]] w fun e w' => e = .returned (.bool (sameLL xs ys)) ∧ Below w.heap.size w w' := by
  obtain ⟨a, cap, b, off, rfl, q1, q2, q3, q4⟩ := h.open
  obtain ⟨a', cap', b', off', rfl, r1, r2, r3, r4⟩ := h2.open
  have Q4 := Lib.hid q4
  have R4 := Lib.hid r4
  obtain ⟨hx1, hx2⟩ := tsz_row hx
  obtain ⟨hy1, hy2⟩ := tsz_row hy
  have HX := Lib.hid (And.intro hx2 hy2)
  obtain ⟨x0, x1⟩ := two_new (w := w) (.cells #[.slice a xs.length cap] 26) (.cells #[.slice a' ys.length cap'] 26) (Below.refl _ _)
  have HB0 := two_below w (.cells #[.slice a xs.length cap] 26) (.cells #[.slice a' ys.length cap'] 26)
  have HS : Hid (Below w.heap.size w ((w.alloc (.cells #[.slice a xs.length cap] 26)).alloc (.cells #[.slice a' ys.length cap'] 26)) ∧ _ ∧ _) := Lib.hid ⟨HB0, x0, x1⟩
  clear h h2 q4 r4 hx hy hx2 hy2 x0 x1 HB0
  by_cases hl : xs.length = ys.length
  · have hle : ((xs.length : Int) != (ys.length : Int)) = false := by simp [hl]
    generalize hR : sameLL xs ys = R
    have H0 : Hid (sameLL (xs.drop 0) (ys.drop 0) = R) := hR
    have HL := Lib.hid hl
    clear hR hl
    go_enter Try.func25, Try.ntmps25
    go_wp2_with fail
    go_loopw [5] (fun i wr => ∃ k : Nat, k ≤ xs.length ∧ i = .int .i64 k ∧ Hid (sameLL (xs.drop k) (ys.drop k) = R) ∧ Hid (Below w.heap.size w wr ∧ wr.heap[w.heap.size]? = some (.cells #[.slice a xs.length cap] 26) ∧ wr.heap[w.heap.size + 1]? = some (.cells #[.slice a' ys.length cap'] 26))) (fun i _ => xs.length - (intOf i).toNat)
    case atStart => exact ⟨0, Nat.zero_le _, rfl, H0, HS⟩
    case round =>
      obtain ⟨k, hk, rfl, HK, HR⟩ := hrel
      obtain ⟨wo, rfl⟩ : ∃ wo : World, wo = wr := ⟨_, rfl⟩
      clear HS H0
      obtain ⟨hb0, -⟩ := one_at HR.out.2.1
      obtain ⟨hb1, -⟩ := one_at HR.out.2.2
      by_cases hlt : k < xs.length
      · have hlt2 : k < ys.length := by have := HL.out; omega
        obtain ⟨u, hcu, hu⟩ := Q4.out k hlt
        obtain ⟨u', hcu', hu'⟩ := R4.out k hlt2
        obtain rfl := q3 (by omega)
        obtain rfl := r3 (by omega)
        have d1 := cell_later HR.out.1 hcu
        have d2 := cell_later HR.out.1 hcu'
        have HU := Lib.hid (And.intro (hu.below (bup2 HR.out.1 (bdrew wo))) (hu'.below (bup2 HR.out.1 (bdrew wo))))
        have e1 := HX.out.1 k hlt
        have e2 := HX.out.2 k hlt2
        clear hcu hcu' hu hu'
        have HS := Lib.hid (drop_split xs ys k hlt hlt2)
        go_wp2_with fail
        go_region_held3 (fun w' => w'.cell? ⟨w.heap.size, 0, none⟩ = some (.slice (some ⟨b, off, none⟩) xs.length cap) ∧ w'.cell? ⟨w.heap.size + 1, 0, none⟩ = some (.slice (some ⟨b', off', none⟩) ys.length cap') ∧ w'.cell? ⟨b, off + k, none⟩ = some u ∧ w'.cell? ⟨b', off' + k, none⟩ = some u')
          (first | exact ⟨hb0, hb1, d1, d2⟩ | exact ⟨cell_later (w := wo.drew) (by assumption) hb0, cell_later (w := wo.drew) (by assumption) hb1, cell_later (w := wo.drew) (by assumption) d1, cell_later (w := wo.drew) (by assumption) d2⟩)
          (first | (go_at_call 35; refine (sameInts_any u u' xs[k] ys[k] _ _ _ _ _ HU.out.1 HU.out.2 e1 e2).mono ?_; rintro e wa ⟨rfl, ca⟩))
        have ca' : Below wo.drew.heap.size wo.drew wa := by assumption
        have c := bup2 (bdrew wo) ca'
        have HR2 := Lib.hid (And.intro (bup2 HR.out.1 c) (And.intro (box_keep HR.out.2.1 c) (box_keep HR.out.2.2 c)))
        clear ca' c
        cases hqc : sameL xs[k] ys[k]
        · have HF := Lib.hid (show R = false by rw [← HK.out, HS.out, hqc]; rfl)
          go_wp2_with fail
          all_goals (go_ret; exact ⟨ret_bool HF.out.symm, HR2.out.1⟩)
        · have HF := Lib.hid (show sameLL (xs.drop (k + 1)) (ys.drop (k + 1)) = R by rw [← HK.out, HS.out, hqc, Bool.true_and])
          go_wp2_with fail
          go_roundw
          case rel => exact ⟨k + 1, by omega, by go_num, HF, HR2⟩
          case measure => simp [intOf]; omega
      · have HF := Lib.hid (show sameLL (xs.drop k) (ys.drop k) = true by rw [List.drop_of_length_le (by omega), List.drop_of_length_le (by have := HL.out; omega)]; rfl)
        go_wp2_with fail
        all_goals (go_ret; exact ⟨ret_bool (HF.out.symm.trans HK.out), HR.out.1⟩)
  · have hle : ((xs.length : Int) != (ys.length : Int)) = true := by rw [bne_iff_ne]; omega
    have hs : sameLL xs ys = false := by
      unfold sameLL
      simp only [decide_eq_false_iff_not]
      intro h; rw [h] at hl; exact hl rfl
    rw [hs]
    clear hl hs
    go_enter Try.func25, Try.ntmps25
    go_wp2_with fail
    all_goals (go_ret; exact ⟨rfl, HS.out.1⟩)

end Go.Proofs.Ytjmofmdcegefgaa

