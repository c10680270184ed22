/-
  The walks of UnpackSmall, of the program and of the reference; and the plain law that packing and unpacking lead back.
-/
import Derived.Test.YtcjnbjbiiadieaaSml
namespace Go.Proofs.Ytcjnbjbiiadieaa
open Go.RowKit

/-- Digit i of the m lowest ones of n, the highest one first. -/
def dig (n : Int) (m i : Nat) : Int := n / 16 ^ (m - 1 - i) % 16
def digs (n : Int) (m : Nat) : List Int := (List.range m).map (dig n m)
/-- n is a number for m values. -/
def InN (n : Int) (m : Nat) : Prop := (m : Int) * 16 ^ m ≤ n ∧ n < ((m : Int) + 1) * 16 ^ m
instance (n : Int) (m : Nat) : Decidable (InN n m) := by unfold InN; infer_instance
def unpL (n : Int) : List Int := if InN n 0 then digs n 0 else if InN n 1 then digs n 1 else if InN n 2 then digs n 2 else if InN n 3 then digs n 3 else if InN n 4 then digs n 4 else []
def unpB (n : Int) : Bool := decide (InN n 0) || decide (InN n 1) || decide (InN n 2) || decide (InN n 3) || decide (InN n 4)

theorem digs_len (n : Int) (m : Nat) : (digs n m).length = m := by simp [digs]
theorem digs_bd (n : Int) (m : Nat) : ∀ x ∈ digs n m, 0 ≤ x ∧ x ≤ 15 := by
  intro x hx
  simp only [digs, List.mem_map, List.mem_range] at hx
  obtain ⟨i, _, rfl⟩ := hx
  unfold dig
  omega
theorem i64_small {xs : List Int} (h : ∀ x ∈ xs, 0 ≤ x ∧ x ≤ 15) : I64s xs := fun x hx => by have := h x hx; unfold I64; omega
theorem digs_cons (n : Int) (k : Nat) : digs n (k + 1) = (n / 16 ^ k % 16) :: digs n k := by
  simp only [digs, List.range_succ_eq_map, List.map_cons, List.map_map, dig]
  refine List.cons_eq_cons.2 ⟨by simp, ?_⟩
  refine List.map_congr_left fun i hi => ?_
  simp only [Function.comp, dig]
  congr 3
  omega
theorem div_pow (n : Int) (k : Nat) : n / 16 ^ k / 16 = n / 16 ^ (k + 1) := by
  rw [Int.pow_succ, Int.ediv_ediv_of_nonneg (Int.pow_nonneg (by decide))]

theorem inN0 (n : Int) : InN n 0 ↔ 0 ≤ n ∧ n < 1 := by simp [InN]
theorem inN1 (n : Int) : InN n 1 ↔ 16 ≤ n ∧ n < 32 := by simp [InN]
theorem inN2 (n : Int) : InN n 2 ↔ 512 ≤ n ∧ n < 768 := by simp [InN]
theorem inN3 (n : Int) : InN n 3 ↔ 12288 ≤ n ∧ n < 16384 := by simp [InN]
theorem inN4 (n : Int) : InN n 4 ↔ 262144 ≤ n ∧ n < 327680 := by simp [InN]

theorem inN_one {n : Int} {a b : Nat} (ha : a ≤ 4) (hb : b ≤ 4) (h1 : InN n a) (h2 : InN n b) : a = b := by
  have ha' : a = 0 ∨ a = 1 ∨ a = 2 ∨ a = 3 ∨ a = 4 := by omega
  have hb' : b = 0 ∨ b = 1 ∨ b = 2 ∨ b = 3 ∨ b = 4 := by omega
  rcases ha' with rfl | rfl | rfl | rfl | rfl <;> rcases hb' with rfl | rfl | rfl | rfl | rfl <;> simp only [inN0, inN1, inN2, inN3, inN4] at h1 h2 <;> omega
theorem unp_at {n : Int} {m : Nat} (hm : m ≤ 4) (h : InN n m) : unpL n = digs n m ∧ unpB n = true := by
  have key : ∀ k, k ≤ 4 → k ≠ m → ¬ InN n k := fun k hk hne h' => hne (inN_one hk hm h' h)
  have hm' : m = 0 ∨ m = 1 ∨ m = 2 ∨ m = 3 ∨ m = 4 := by omega
  rcases hm' with rfl | rfl | rfl | rfl | rfl <;> refine ⟨?_, by simp [unpB, h]⟩ <;> unfold unpL
  · rw [if_pos h]
  · rw [if_neg (key 0 (by omega) (by omega)), if_pos h]
  · rw [if_neg (key 0 (by omega) (by omega)), if_neg (key 1 (by omega) (by omega)), if_pos h]
  · rw [if_neg (key 0 (by omega) (by omega)), if_neg (key 1 (by omega) (by omega)), if_neg (key 2 (by omega) (by omega)), if_pos h]
  · rw [if_neg (key 0 (by omega) (by omega)), if_neg (key 1 (by omega) (by omega)), if_neg (key 2 (by omega) (by omega)), if_neg (key 3 (by omega) (by omega)), if_pos h]
theorem unp_none {n : Int} (h : ∀ k, k ≤ 4 → ¬ InN n k) : unpL n = [] ∧ unpB n = false := by
  have h0 := h 0 (by omega); have h1 := h 1 (by omega); have h2 := h 2 (by omega); have h3 := h 3 (by omega); have h4 := h 4 (by omega)
  exact ⟨by unfold unpL; rw [if_neg h0, if_neg h1, if_neg h2, if_neg h3, if_neg h4], by simp [unpB, h0, h1, h2, h3, h4]⟩

/-- What UnpackSmall hands back. -/
def UnpPost (n : Int) (w : World) (e : Ending) (w' : World) : Prop := ∃ v, e = .returned (.tuple #[v, .bool (unpB n)]) ∧ OI w' w.heap.size v (unpL n) ∧ Below w.heap.size w w'

/-- The cells from j on are those of cs'. -/
def From (j : Nat) (cs cs' : List Value) : Prop := ∀ i, j ≤ i → cs[i]? = cs'[i]?
theorem From.set {k : Nat} {cs cs' : List Value} (h : From (k + 1) cs cs') (hk : k < cs.length) (u : Value) (hu : cs'[k]? = some u) : From k (cs.set k u) cs' := by
  intro i hi
  by_cases e : k = i
  · subst e; rw [List.getElem?_set_self hk, hu]
  · rw [List.getElem?_set_ne e]; exact h i (by omega)
theorem From.all {cs cs' : List Value} (h : From 0 cs cs') : cs = cs' := List.ext_getElem? fun i => h i (Nat.zero_le _)
theorem From.len {cs cs' : List Value} {m : Nat} (h : cs.length = m) (h' : cs'.length = m) : From m cs cs' := fun i hi => by
  rw [List.getElem?_eq_none (by omega), List.getElem?_eq_none (by omega)]

theorem pow_bd (k : Nat) (hk : k ≤ 4) : 0 ≤ (k : Int) * 16 ^ k ∧ (k : Int) * 16 ^ k ≤ 1000000 ∧ 0 ≤ ((k : Int) + 1) * 16 ^ k ∧ ((k : Int) + 1) * 16 ^ k ≤ 1000000 ∧ (0 : Int) ≤ 16 ^ k ∧ (16 : Int) ^ k ≤ 1000000 := by
  have hk' : k = 0 ∨ k = 1 ∨ k = 2 ∨ k = 3 ∨ k = 4 := by omega
  rcases hk' with rfl | rfl | rfl | rfl | rfl <;> simp

set_option maxHeartbeats 2000000 in
theorem implUnp_any (n : Int) (hn : I64 n) (w : World) : Calls Try.prog 33 #[.int .i64 n] w (UnpPost n w) := by
  unfold I64 at hn
  go_enter Try.func33, Try.ntmps33
  go_wp2
  go_loop [4, 5, 6, 7, 8, 9] (fun p _ _ _ _ q => ∃ k : Nat, k ≤ 5 ∧ q = .int .i64 k ∧ p = .int .i64 (16 ^ k) ∧ Hid (∀ j, j < k → ¬ InN n j)) (fun _ _ _ _ _ q => 5 - (intOf q).toNat)
  case atStart => exact ⟨0, by omega, rfl, rfl, fun j hj => absurd hj (Nat.not_lt_zero _)⟩
  case round =>
    obtain ⟨k, hk, rfl, rfl, H⟩ := hrel
    by_cases hk5 : k = 5
    · subst hk5
      have HU := Lib.hid (unp_none (n := n) fun k hk => H.out k (by omega))
      clear H
      go_wp2
      go_ret2
      refine ⟨.slice none 0 0, ?_, ?_, Below.refl _ _⟩
      · rw [HU.out.2]; rfl
      · rw [HU.out.1]; exact ⟨World.ownsRow_nil _ _ _ _, fun _ h => by simp at h⟩
    · have hk' : k = 0 ∨ k = 1 ∨ k = 2 ∨ k = 3 ∨ k = 4 := by omega
      by_cases hin : InN n k
      · have HU := Lib.hid (unp_at (n := n) (m := k) (by omega) hin)
        have hpb := pow_bd k (by omega)
        obtain ⟨hc1, hc2⟩ := hin
        obtain ⟨p1, p2, p3, p4, p5, p6⟩ := hpb
        have hk4 : k < 5 := by omega
        clear H hk5 hk'
        go_wp2_with (refine mk_ints rfl _ _ rfl k rfl rfl (by omega) ?_; rintro w1 ⟨cs, hown, -⟩ hb1)
        have hn0 : 0 ≤ n := by omega
        clear hc1 hc2 p1 p2 p3 p4 p5 p6
        go_loopw [7, 8] (fun r i wr => ∃ (j : Nat) (x : Int) (cs : List Value), j ≤ k ∧ i = .int .i64 ((j : Int) - 1) ∧ r = .int .i64 x ∧ 0 ≤ x ∧ x ≤ 9223372036854775807 ∧ wr.ownsRow w.heap.size 3 1 (.slice (some ⟨w.heap.size, 0, none⟩) k k) k cs ∧ Below w.heap.size w wr ∧ From j cs ((digs n k).map (Value.int .i64)) ∧ Hid (x = n / 16 ^ (k - j)))
          (fun _ i _ => (intOf i + 1).toNat)
        case atStart => exact ⟨k, n, cs, Nat.le_refl _, rfl, rfl, hn0, hn.2, hown, hb1, From.len (by have := hown.1; omega) (by simp [digs_len]), Lib.hid (by simp)⟩
        case round =>
          clear hown hb1
          obtain ⟨j, x, cs, hj, rfl, rfl, hx0, hx1, hown, hbr, hup, HX⟩ := hrel
          rcases j with _ | j
          · have hcs := From.all hup
            subst hcs
            have HF : Hid (OI wr w.heap.size (.slice (some ⟨w.heap.size, 0, none⟩) k k) (unpL n) ∧ Below w.heap.size w wr) := by
              rw [HU.out.1]
              refine ⟨⟨?_, i64_small (digs_bd n k)⟩, hbr⟩
              have := hown
              rwa [digs_len]
            clear hown hup hbr
            go_wp2
            go_ret2
            exact ⟨_, by rw [HU.out.2]; rfl, HF.out⟩
          · have hst := hown.stored j (.int .i64 (x % 16))
            have hu := hup.set (by have := hown.1; omega) (.int .i64 (x % 16)) (by
              rw [HX.out, digs, List.map_map, List.getElem?_map, List.getElem?_range (by omega)]
              simp only [Option.map_some, Function.comp, dig]
              rw [show k - 1 - j = k - (j + 1) from by omega])
            have hf := hown.frozenAt j
            have hjk : j < k := by omega
            obtain ⟨u, hcu⟩ : ∃ u, wr.cell? ⟨w.heap.size, j, none⟩ = some u := ⟨cs[j]'(by have := hown.1; omega), by rw [hown.cellAt j (by omega)]; simp [hown.1, hjk]⟩
            have hb2 : Below w.heap.size w (wr.setCell ⟨w.heap.size, j, none⟩ (.int .i64 (x % 16))) := hbr.setCell (Nat.le_refl _) _
            have hdp : x / 16 = n / 16 ^ (k - j) := by
              rw [HX.out, div_pow, show k - (j + 1) + 1 = k - j from by omega]
            have HR := Lib.hid (And.intro hst.1 (And.intro hb2 (And.intro hu hdp)))
            clear hst hu hb2 hown hup hbr hdp
            go_wp2
            go_roundw
            case rel => exact ⟨j, _, _, by omega, by go_num, rfl, by omega, by omega, HR.out.1, HR.out.2.1, HR.out.2.2.1, Lib.hid HR.out.2.2.2⟩
            case measure => simp [intOf]; try omega
      · have H2 : Hid (∀ j, j < k + 1 → ¬ InN n j) := Lib.hid fun j hj => by
          by_cases e : j = k
          · subst e; exact hin
          · exact H.out j (by omega)
        have hc : n < (k : Int) * 16 ^ k ∨ ((k : Int) + 1) * 16 ^ k ≤ n := by unfold InN at hin; omega
        clear H hk5 hin
        rcases hk' with rfl | rfl | rfl | rfl | rfl
        all_goals
          simp at hc
          rcases hc with h1 | h1
          all_goals
            go_wp2
            all_goals
              go_round
              case rel => exact ⟨_ + 1, by omega, by rfl, by rfl, H2⟩
              case measure => simp [intOf]
theorem inN_iff {n : Int} (h0 : 0 ≤ n) (k : Nat) (hk : k ≤ 4) : InN n k ↔ n / 16 ^ k = (k : Int) := by
  have hk' : k = 0 ∨ k = 1 ∨ k = 2 ∨ k = 3 ∨ k = 4 := by omega
  rcases hk' with rfl | rfl | rfl | rfl | rfl <;> simp only [inN0, inN1, inN2, inN3, inN4] <;> simp <;> omega

theorem pack_digs {n : Int} {k : Nat} (hk : k ≤ 4) (h : InN n k) : pack (digs n k) = n := by
  have hf : fits (digs n k) = true := by
    simp only [fits, Bool.and_eq_true, decide_eq_true_eq, digs_len, List.all_eq_true]
    exact ⟨hk, fun x hx => by have := digs_bd n k x hx; exact small_yes this.1 this.2⟩
  rw [pack, if_pos hf, digs_len]
  have hk' : k = 0 ∨ k = 1 ∨ k = 2 ∨ k = 3 ∨ k = 4 := by omega
  rcases hk' with rfl | rfl | rfl | rfl | rfl <;> simp only [inN0, inN1, inN2, inN3, inN4] at h <;> simp [digs, dig, List.range_succ, packF] <;> omega

theorem tdiv_bd (x : Int) (h1 : -9223372036854775808 ≤ x) (h2 : x ≤ 9223372036854775807) : -9223372036854775808 ≤ x.tdiv 16 ∧ x.tdiv 16 ≤ 9223372036854775807 := by
  rcases Int.le_total 0 x with h | h
  · rw [Int.tdiv_eq_ediv_of_nonneg h]; omega
  · have e : x.tdiv 16 = -((-x) / 16) := by
      rw [← Int.tdiv_eq_ediv_of_nonneg (by omega : 0 ≤ -x), Int.neg_tdiv]; omega
    omega
theorem tmod_bd (x : Int) : -16 ≤ x.tmod 16 ∧ x.tmod 16 ≤ 16 := by
  have h1 := Int.tmod_lt_of_pos x (show (0 : Int) < 16 by decide)
  have h2 := Int.lt_tmod_of_pos x (show (0 : Int) < 16 by decide)
  omega

/-- What the reference's inner loop has made after j rounds. -/
def SpecIn (n : Int) (j : Nat) (x : Int) (xs : List Int) : Prop := xs.length = j ∧ I64s xs ∧ (0 ≤ n → x = n / 16 ^ j ∧ xs = digs n j)
theorem SpecIn.next {n : Int} {j : Nat} {x : Int} {xs : List Int} (h : SpecIn n j x xs) : SpecIn n (j + 1) (x.tdiv 16) (x.tmod 16 :: xs) := by
  refine ⟨by simp [h.1], ?_, fun h0 => ?_⟩
  · intro y hy
    rcases List.mem_cons.1 hy with rfl | hy
    · have := tmod_bd x; unfold I64; omega
    · exact h.2.1 y hy
  · obtain ⟨e1, e2⟩ := h.2.2 h0
    have hx : 0 ≤ x := by rw [e1]; exact Int.ediv_nonneg h0 (Int.pow_nonneg (by decide))
    refine ⟨?_, ?_⟩
    · rw [Int.tdiv_eq_ediv_of_nonneg hx, e1, div_pow]
    · rw [Int.tmod_eq_emod_of_nonneg hx, digs_cons, e1, e2]

def UnpInRel (n : Int) (k : Nat) (w : World) (v r i : Value) (wr : World) : Prop := ∃ (j : Nat) (x : Int) (xs : List Int) (g cap : Nat), j ≤ k ∧ i = .int .i64 j ∧ r = .int .i64 x ∧ -9223372036854775808 ≤ x ∧ x ≤ 9223372036854775807 ∧ v = .slice (some ⟨g, 0, none⟩) j cap ∧ wr.ownsRow w.heap.size 3 1 v j (xs.map (Value.int .i64)) ∧ Below w.heap.size w wr ∧ Hid (SpecIn n j x xs)

set_option maxHeartbeats 2000000 in
theorem specUnp_any (n : Int) (hn : I64 n) (w : World) : Calls Try.prog 35 #[.int .i64 n] w (UnpPost n w) := by
  unfold I64 at hn
  go_enter Try.func35, Try.ntmps35
  go_wp2
  go_loopw [4, 5, 6, 7] (fun q _ _ _ wr => ∃ k : Nat, k ≤ 5 ∧ q = .int .i64 k ∧ Below w.heap.size w wr ∧ Hid (∀ j, j < k → ¬ InN n j)) (fun q _ _ _ _ => 5 - (intOf q).toNat)
  case atStart => exact ⟨0, by omega, rfl, Below.refl _ _, fun j hj => absurd hj (Nat.not_lt_zero _)⟩
  case round =>
    obtain ⟨wo, rfl⟩ : ∃ wo : World, wo = wr := ⟨_, rfl⟩
    obtain ⟨k, hk, rfl, hbo, H⟩ := hrel
    by_cases hk5 : k < 5
    · go_wp2
      go_loopw [5, 6, 7] (UnpInRel n k w)
        (fun _ _ i _ => k - (intOf i).toNat)
      case atStart => exact ⟨0, n, [], wo.heap.size, 0, by omega, rfl, rfl, hn.1, hn.2, rfl, by have := World.ownsRow_lit (base := w.heap.size) (e := 3) (size := 1) wo #[] 0 hbo.size (by decide) rfl; exact this, hbo.alloc hbo.size _, ⟨rfl, fun _ h => by simp at h, fun _ => ⟨by simp, rfl⟩⟩⟩
      case round =>
        obtain ⟨j, x, xs, g, cap, hj, rfl, rfl, hx0, hx1, rfl, hown, hbr, HS⟩ := hrel
        have hlen := HS.out.1
        by_cases hlt : j < k
        · have HN := Lib.hid HS.out.next
          have hd1 := tdiv_bd x hx0 hx1
          have hd2 := tmod_bd x
          have h63 : (xs.map (Value.int .i64)).length = j := by simp [hlen]
          have hcells := (hown.alloc (.cells #[.int .i64 (x.tmod 16)] 3)).cells (g := g) rfl
          have hlit := World.ownsRow_lit (base := w.heap.size) (e := 3) (size := 1) wr #[.int .i64 (x.tmod 16)] 1 hbr.size (by decide) rfl
          have hbs := hbr.size
          clear hlen HS
          go_wp2_with (at_builtin; refine ap_ints rfl _ _ rfl w.heap.size (.slice (some ⟨wr.heap.size, 0, none⟩) 1 1) 1 [.int .i64 (x.tmod 16)] rfl hlit ⟨g, 0, none⟩ j cap (xs.map (Value.int .i64)) rfl h63 hcells (by simp [Value.oneCell']) (by omega) (by simp; omega) ?_; intro v' w1 hown' hg' hnil)
          obtain ⟨g', cap', rfl, -, -, -⟩ := own_shape hown' (by intro e; simp [e] at hnil)
          have hb2 : Below w.heap.size w w1 := (hbr.alloc hbs _).grown hg' (by have := hbr.size; simp only [World.size_alloc]; omega) (fun k' hk' => by have e : wr.heap.size = k' := Option.some.inj hk'; omega)
          have HF := Lib.hid (And.intro hown' hb2)
          clear hown' hb2 hg' hnil hown hbr
          go_roundw
          case rel => exact ⟨_, _, _, ⟨j + 1, x.tdiv 16, x.tmod 16 :: xs, g', cap', by omega, rfl, rfl, hd1.1, hd1.2, by rw [Nat.add_comm], by have := HF.out.1; rw [Nat.add_comm 1 j] at this; rw [Nat.add_comm 1 j]; exact this, HF.out.2, HN⟩, rfl, rfl, rfl⟩
          case measure => simp [intOf]; omega
        · obtain rfl : j = k := by omega
          have hbs := hbr.size
          have HF := Lib.hid (And.intro hown hbr)
          have HRI : Hid (RI wr w.heap.size wr.heap.size (.slice (some ⟨g, 0, none⟩) j cap) xs) := Lib.hid ⟨by have := reads_own hown; rwa [← hlen] at this ⊢, HS.out.2.1⟩
          clear hown hbr
          by_cases h0 : 0 ≤ n
          · obtain ⟨e1, e2⟩ := HS.out.2.2 h0
            by_cases hin : InN n j
            · have hxe := (inN_iff h0 j (by omega)).1 hin
              have hb : (x == (j : Int)) = true := by rw [e1, hxe]; simp
              have hu := unp_at (n := n) (m := j) (by omega) hin
              have hp : (pack xs == n) = true := by rw [e2, pack_digs (by omega) hin]; simp
              have HF2 : Hid (OI wr w.heap.size (.slice (some ⟨g, 0, none⟩) j cap) (unpL n) ∧ Below w.heap.size w wr ∧ unpB n = true) := by
                rw [hu.1, ← e2]
                exact ⟨⟨by rw [hlen]; exact HF.out.1, HS.out.2.1⟩, HF.out.2, hu.2⟩
              clear hxe hin e1 e2 hu HF HS hlen H
              go_wp2_with (go_at_call 30; refine (specPack_any _ xs _ _ _ HRI.out).mono ?_; rintro e w' ⟨rfl, rfl⟩)
              go_ret2
              exact ⟨_, by rw [HF2.out.2.2]; rfl, HF2.out.1, HF2.out.2.1⟩
            · have hxe : ¬ x = (j : Int) := fun h => hin ((inN_iff h0 j (by omega)).2 (e1 ▸ h))
              have hb : (x == (j : Int)) = false := by rw [beq_eq_false_iff_ne]; exact hxe
              have H2 : Hid (∀ i, i < j + 1 → ¬ InN n i) := Lib.hid fun i hi => by
                by_cases e : i = j
                · subst e; exact hin
                · exact H.out i (by omega)
              clear hxe hin e1 e2 HS hlen H HRI
              go_wp2
              go_roundw
              case rel => exact ⟨j + 1, by omega, by go_num, HF.out.2, H2⟩
              case measure => simp [intOf]; omega
          · have h0' : decide (0 ≤ n) = false := by simp; omega
            have H2 : Hid (∀ i, i < j + 1 → ¬ InN n i) := Lib.hid fun i hi h => by
              have h1 := h.1
              have h2 : (0 : Int) ≤ (i : Int) * 16 ^ i := Int.mul_nonneg (by omega) (Int.pow_nonneg (by decide))
              omega
            clear HS hlen H HRI
            go_wp2
            go_roundw
            case rel => exact ⟨j + 1, by omega, by go_num, HF.out.2, H2⟩
            case measure => simp [intOf]; omega
    · obtain rfl : k = 5 := by omega
      have HU := Lib.hid (unp_none (n := n) fun k hk => H.out k (by omega))
      clear H
      go_wp2
      go_ret2
      refine ⟨.slice (some ⟨wo.heap.size, 0, none⟩) 0 0, ?_, ?_, hbo.alloc hbo.size _⟩
      · rw [HU.out.2]; rfl
      · rw [HU.out.1]; exact ⟨World.ownsRow_lit wo #[] 0 hbo.size (by decide) rfl, fun _ h => by simp at h⟩
end Go.Proofs.Ytcjnbjbiiadieaa
