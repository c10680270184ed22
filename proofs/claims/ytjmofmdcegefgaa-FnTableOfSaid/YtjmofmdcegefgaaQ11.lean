/-
  Texts of this claim, laid together: Dvp, Dvw, Bcr, Dvo, Dvh, Dvt.
-/
import Derived.Maps.AppendAt
import Derived.Test.YtjmofmdcegefgaaQ02
import Derived.Test.YtjmofmdcegefgaaQ04
import Derived.Test.YtjmofmdcegefgaaQ07
import Derived.Test.YtjmofmdcegefgaaQ08
import Derived.Test.YtjmofmdcegefgaaQ10
namespace Go.Proofs.Ytjmofmdcegefgaa
open Go.RowKit

/-- A page. -/
structure Pg where
  full : Bool
  file : Int
  place : Int
  value : Int
  stamp : Int
/-- A block. -/
structure Bk where
  wear : Int
  pages : List Pg
def pg0 : Pg := ⟨false, 0, 0, 0, 0⟩
def bk0 : Bk := ⟨0, []⟩
instance : Inhabited Pg := ⟨pg0⟩
instance : Inhabited Bk := ⟨bk0⟩

def pgOk (p : Pg) : Bool := if p.full = true then inB p.file 0 7 && inB p.place 0 5 && inB p.value 0 9999 && inB p.stamp 1 1000000 else p.file == 0 && p.place == 0 && p.value == 0 && p.stamp == 0
theorem pgOk_full {p : Pg} (h : pgOk p = true) (hf : p.full = true) : (0 ≤ p.file ∧ p.file ≤ 7) ∧ (0 ≤ p.place ∧ p.place ≤ 5) ∧ (0 ≤ p.value ∧ p.value ≤ 9999) ∧ (1 ≤ p.stamp ∧ p.stamp ≤ 1000000) := by
  unfold pgOk at h
  rw [if_pos hf] at h
  simp only [Bool.and_eq_true, inB_iff] at h
  exact ⟨h.1.1.1, h.1.1.2, h.1.2, h.2⟩
theorem pgOk_empty {p : Pg} (h : pgOk p = true) (hf : p.full = false) : p = pg0 := by
  unfold pgOk at h
  rw [if_neg (by rw [hf]; decide)] at h
  simp only [Bool.and_eq_true, beq_iff_eq] at h
  cases p
  simp_all [pg0]
theorem pgOk_pg0 : pgOk pg0 = true := by decide
theorem pgOk_value {p : Pg} (h : pgOk p = true) : 0 ≤ p.value ∧ p.value ≤ 9999 := by
  cases hf : p.full with
  | false => rw [pgOk_empty h hf]; decide
  | true => exact (pgOk_full h hf).2.2.1
theorem pgOk_stamp {p : Pg} (h : pgOk p = true) : 0 ≤ p.stamp ∧ p.stamp ≤ 1000000 := by
  cases hf : p.full with
  | false => rw [pgOk_empty h hf]; decide
  | true => have := (pgOk_full h hf).2.2.2; omega

/-- The page at k is valid, and no full one behind an empty one. -/
def pgAt (l : List Pg) (k : Nat) : Bool := pgOk (l.getD k pg0) && (decide (k = 0) || !(l.getD k pg0).full || (l.getD (k - 1) pg0).full)
def pgsUp (l : List Pg) (k : Nat) : Bool := (List.range k).all (pgAt l)
theorem pgsUp_zero (l : List Pg) : pgsUp l 0 = true := rfl
theorem pgsUp_succ (l : List Pg) (k : Nat) : pgsUp l (k + 1) = (pgsUp l k && pgAt l k) := by simp [pgsUp, List.range_succ]
theorem pgsUp_at {l : List Pg} {n k : Nat} (h : pgsUp l n = true) (hk : k < n) : pgAt l k = true := by
  simp only [pgsUp, List.all_eq_true, List.mem_range] at h
  exact h k hk
theorem pgsUp_no {l : List Pg} {n k : Nat} (h : pgAt l k = false) (hk : k < n) : pgsUp l n = false := by
  cases hv : pgsUp l n with
  | false => rfl
  | true => rw [pgsUp_at hv hk] at h; exact h
def bkOk (b : Bk) : Bool := inB b.wear 0 100 && decide (b.pages.length = 4) && pgsUp b.pages b.pages.length
theorem bkOk_iff {b : Bk} : bkOk b = true ↔ (0 ≤ b.wear ∧ b.wear ≤ 100) ∧ b.pages.length = 4 ∧ pgsUp b.pages b.pages.length = true := by
  simp only [bkOk, Bool.and_eq_true, inB_iff, decide_eq_true_eq, and_assoc]
theorem bk_page {b : Bk} (h : bkOk b = true) {k : Nat} (hk : k < b.pages.length) : pgOk b.pages[k] = true := by
  have := pgsUp_at (bkOk_iff.1 h).2.2 hk
  simp only [pgAt, Bool.and_eq_true] at this
  simpa [hk] using this.1
theorem bk_down {b : Bk} (h : bkOk b = true) {k : Nat} (hk : k < b.pages.length) (h0 : 0 < k) (hf : b.pages[k].full = true) : (b.pages[k - 1]'(by omega)).full = true := by
  have := pgsUp_at (bkOk_iff.1 h).2.2 hk
  have hk' : k - 1 < b.pages.length := by omega
  have hk0 : decide (k = 0) = false := by simp; omega
  simp only [pgAt, Bool.and_eq_true, hk0, Bool.false_or, Bool.or_eq_true, Bool.not_eq_true'] at this
  simp [hk, hk'] at this
  rcases this.2 with h1 | h1
  · rw [hf] at h1; cases h1
  · exact h1

def dvOk (d : List Bk) : Bool := decide (1 ≤ d.length) && decide (d.length ≤ 12) && d.all bkOk
theorem dvOk_iff {d : List Bk} : dvOk d = true ↔ 1 ≤ d.length ∧ d.length ≤ 12 ∧ ∀ b ∈ d, bkOk b = true := by
  simp only [dvOk, Bool.and_eq_true, decide_eq_true_eq, List.all_eq_true, and_assoc]
theorem dv_blk {d : List Bk} (h : dvOk d = true) {k : Nat} (hk : k < d.length) : bkOk d[k] = true := (dvOk_iff.1 h).2.2 _ (List.getElem_mem hk)
theorem dv_len {d : List Bk} (h : dvOk d = true) : 1 ≤ d.length ∧ d.length ≤ 12 := ⟨(dvOk_iff.1 h).1, (dvOk_iff.1 h).2.1⟩
theorem dv_len4 {d : List Bk} (h : dvOk d = true) {k : Nat} (hk : k < d.length) : d[k].pages.length = 4 := (bkOk_iff.1 (dv_blk h hk)).2.1
theorem dv_no_len {d : List Bk} (h : d.length < 1 ∨ 12 < d.length) : dvOk d = false := by
  cases hv : dvOk d with
  | false => rfl
  | true => have := dv_len hv; omega
theorem dv_no {d : List Bk} {k : Nat} (hk : k < d.length) (h : bkOk d[k] = false) : dvOk d = false := by
  cases hv : dvOk d with
  | false => rfl
  | true => rw [dv_blk hv hk] at h; cases h

/-- The page with a number. -/
def dat (d : List Bk) (n : Nat) : Pg := (d.getD (n / 4) bk0).pages.getD (n % 4) pg0
theorem dat_eq {d : List Bk} {k j : Nat} (hk : k < d.length) (hj : j < d[k].pages.length) (h4 : d[k].pages.length = 4) : dat d (k * 4 + j) = d[k].pages[j] := by
  have e1 : (k * 4 + j) / 4 = k := by omega
  have e2 : (k * 4 + j) % 4 = j := by omega
  unfold dat
  rw [e1, e2]
  simp [hk, hj]
theorem dat_at {d : List Bk} (h : dvOk d = true) {n : Nat} (hn : n < 4 * d.length) : ∃ (hk : n / 4 < d.length) (hj : n % 4 < d[n / 4].pages.length), dat d n = d[n / 4].pages[n % 4] := by
  have hk : n / 4 < d.length := by omega
  have hj : n % 4 < d[n / 4].pages.length := by rw [dv_len4 h hk]; omega
  refine ⟨hk, hj, ?_⟩
  unfold dat
  simp [hk, hj]
theorem dat_ok {d : List Bk} (h : dvOk d = true) {n : Nat} (hn : n < 4 * d.length) : pgOk (dat d n) = true := by
  obtain ⟨hk, hj, e⟩ := dat_at h hn
  rw [e]
  exact bk_page (dv_blk h hk) hj

def inN (d : List Bk) (n : Int) : Bool := decide (0 ≤ n) && decide (n < 4 * (d.length : Int))
def rdp (d : List Bk) (n : Int) : Pg × Bool := if dvOk d = true ∧ 0 ≤ n ∧ n < 4 * (d.length : Int) then (dat d n.toNat, (dat d n.toNat).full) else (pg0, false)
theorem rdp_in {d : List Bk} (h : dvOk d = true) {n : Nat} (hn : n < 4 * d.length) : rdp d n = (dat d n, (dat d n).full) := by
  unfold rdp
  rw [if_pos ⟨h, by omega, by omega⟩]
  rfl
theorem rdp_out {d : List Bk} {n : Int} (h : dvOk d = false ∨ n < 0 ∨ 4 * (d.length : Int) ≤ n) : rdp d n = (pg0, false) := by
  unfold rdp
  rw [if_neg]
  rintro ⟨h1, h2, h3⟩
  rcases h with h | h | h
  · rw [h1] at h; cases h
  · omega
  · omega
theorem rdp_value {d : List Bk} {n : Int} : I64 (rdp d n).1.value ∧ I64 (rdp d n).1.file ∧ I64 (rdp d n).1.place ∧ I64 (rdp d n).1.stamp := by
  by_cases h : dvOk d = true ∧ 0 ≤ n ∧ n < 4 * (d.length : Int)
  · unfold rdp
    rw [if_pos h]
    have h4 := dat_ok h.1 (n := n.toNat) (by omega)
    cases hf : (dat d n.toNat).full with
    | false => rw [pgOk_empty h4 hf]; simp [pg0, I64]
    | true =>
      have := pgOk_full h4 hf
      simp only [I64]
      omega
  · unfold rdp
    rw [if_neg h]
    simp [pg0, I64]

/-- The first free page of a block. -/
def nxt (l : List Pg) : Nat := l.findIdx fun p => !p.full
def bnext (b : Bk) : Int := if bkOk b = true ∧ nxt b.pages < b.pages.length then nxt b.pages else -1
theorem nxt_le (l : List Pg) : nxt l ≤ l.length := List.findIdx_le_length
theorem bnext_le (b : Bk) : -1 ≤ bnext b ∧ bnext b ≤ 3 := by
  unfold bnext
  split
  · rename_i h
    have := (bkOk_iff.1 h.1).2.1
    omega
  · omega
theorem bnext_no {b : Bk} (h : bkOk b = false) : bnext b = -1 := by unfold bnext; rw [if_neg (by rw [h]; simp)]
theorem bnext_at {b : Bk} (h : bkOk b = true) {k : Nat} (hk : k < b.pages.length) (h1 : ∀ j (hj : j < k), (b.pages[j]'(by omega)).full = true) (h2 : b.pages[k].full = false) : bnext b = k := by
  have e : nxt b.pages = k := by
    unfold nxt
    rw [List.findIdx_eq hk]
    exact ⟨by simp [h2], fun j hj => by simp [h1 j hj]⟩
  unfold bnext
  rw [e, if_pos ⟨h, hk⟩]
theorem bnext_full {b : Bk} (h1 : ∀ j (hj : j < b.pages.length), b.pages[j].full = true) : bnext b = -1 := by
  have e : nxt b.pages = b.pages.length := by
    unfold nxt
    rw [List.findIdx_eq_length]
    intro p hp
    obtain ⟨j, hj, rfl⟩ := List.getElem_of_mem hp
    simp [h1 j hj]
  unfold bnext
  rw [e, if_neg (by omega)]

/-- How many pages are full. -/
def nfull (l : List Pg) : Nat := l.countP fun p => p.full
def nfree (l : List Pg) : Nat := l.countP fun p => !p.full
theorem nfull_add (l : List Pg) : nfull l + nfree l = l.length := by
  unfold nfull nfree
  rw [List.length_eq_countP_add_countP (fun p : Pg => p.full)]
  congr 1
  exact List.countP_congr fun x _ => by simp
theorem nfull_nil : nfull [] = 0 := rfl
theorem nfull_snoc (l : List Pg) (p : Pg) : nfull (l ++ [p]) = nfull l + p.full.toNat := by
  unfold nfull; rw [List.countP_append]; cases h : p.full <;> simp [h]
theorem nfree_snoc (l : List Pg) (p : Pg) : nfree (l ++ [p]) = nfree l + (!p.full).toNat := by
  unfold nfree; rw [List.countP_append]; cases h : p.full <;> simp [h]
theorem nfull_take {l : List Pg} {k : Nat} (hk : k < l.length) : nfull (l.take (k + 1)) = nfull (l.take k) + l[k].full.toNat := by
  rw [List.take_succ_eq_append_getElem hk, nfull_snoc]
theorem nfull_le (l : List Pg) : nfull l ≤ l.length := List.countP_le_length
theorem nfull_all {b : Bk} (h : bkOk b = true) : nfull b.pages = 4 ↔ bnext b = -1 := by
  have h4 := (bkOk_iff.1 h).2.1
  constructor
  · intro h1
    refine bnext_full fun j hj => ?_
    have : nfull b.pages = b.pages.length := by omega
    exact List.countP_eq_length.1 this _ (List.getElem_mem hj)
  · intro h1
    rw [← h4]
    refine List.countP_eq_length.2 fun p hp => ?_
    unfold bnext at h1
    have hn : ¬ nxt b.pages < b.pages.length := fun hl => by rw [if_pos ⟨h, hl⟩] at h1; omega
    have e : nxt b.pages = b.pages.length := by have := nxt_le b.pages; omega
    have := List.findIdx_eq_length.1 e p hp
    simpa using this

/-- All pages of a device. -/
def dpg (d : List Bk) : List Pg := d.flatMap Bk.pages
theorem dpg_len {d : List Bk} (h : ∀ b ∈ d, b.pages.length = 4) : (dpg d).length = 4 * d.length := by
  induction d with
  | nil => rfl
  | cons b d ih =>
    unfold dpg at ih ⊢
    rw [List.flatMap_cons, List.length_append, h b (by simp), ih (fun x hx => h x (by simp [hx])), List.length_cons]; omega
theorem dpg_get {d : List Bk} (h : ∀ b ∈ d, b.pages.length = 4) {n : Nat} (hn : n < 4 * d.length) : (dpg d)[n]? = some (dat d n) := by
  induction d generalizing n with
  | nil => simp at hn
  | cons b d ih =>
    have hb := h b (by simp)
    unfold dpg at ih ⊢
    rw [List.flatMap_cons]
    rcases Nat.lt_or_ge n 4 with h4 | h4
    · rw [List.getElem?_append_left (by omega)]
      have e1 : n / 4 = 0 := by omega
      have e2 : n % 4 = n := by omega
      unfold dat
      rw [e1, e2]
      have hl : n < b.pages.length := by omega
      simp [hl]
    · rw [List.getElem?_append_right (by omega), hb]
      rw [List.length_cons] at hn
      rw [ih (fun x hx => h x (by simp [hx])) (n := n - 4) (by omega)]
      have e1 : n / 4 = (n - 4) / 4 + 1 := by omega
      have e2 : n % 4 = (n - 4) % 4 := by omega
      unfold dat
      rw [e1, e2]
      rfl
def frees (d : List Bk) : Int := if dvOk d = true then nfree (dpg d) else -1
theorem nfree_dpg {d : List Bk} (h : ∀ b ∈ d, b.pages.length = 4) : nfree (dpg d) = (d.map fun b => 4 - nfull b.pages).sum := by
  induction d with
  | nil => rfl
  | cons b d ih =>
    have := nfull_add b.pages
    have hb := h b (by simp)
    unfold dpg at ih ⊢
    rw [List.flatMap_cons, List.map_cons, List.sum_cons, ← ih (fun x hx => h x (by simp [hx]))]
    unfold nfree nfull at *
    rw [List.countP_append]
    omega

/-- Heads. -/
structure Hd where
  hot : Int
  warm : Int
  cold : Int
def hdOk (d : List Bk) (h : Hd) : Bool :=
  dvOk d && inB h.hot (-1) (d.length - 1) && inB h.warm (-1) (d.length - 1) && inB h.cold (-1) (d.length - 1) &&
    !(decide (0 ≤ h.warm) && (h.hot == h.warm)) && !(decide (0 ≤ h.cold) && (h.hot == h.cold)) && !(decide (0 ≤ h.cold) && (h.warm == h.cold))
def isHd (h : Hd) (n : Int) : Bool := (n == h.hot) || (n == h.warm) || (n == h.cold)

end Go.Proofs.Ytjmofmdcegefgaa

namespace Go.Proofs.Ytjmofmdcegefgaa
open Go.RowKit

/-- A page's cells; a page by value. -/
def pgc (p : Pg) : List Value := [.bool p.full, .int .i64 p.file, .int .i64 p.place, .int .i64 p.value, .int .i64 p.stamp]
def pgv (p : Pg) : Value := .agg #[.bool p.full, .int .i64 p.file, .int .i64 p.place, .int .i64 p.value, .int .i64 p.stamp]
def PgI (p : Pg) : Prop := I64 p.file ∧ I64 p.place ∧ I64 p.value ∧ I64 p.stamp
theorem pg0_i : PgI pg0 := ⟨by unfold I64 pg0; simp, by unfold I64 pg0; simp, by unfold I64 pg0; simp, by unfold I64 pg0; simp⟩
theorem pgOk_i {p : Pg} (h : pgOk p = true) : PgI p := by
  cases hf : p.full with
  | false => rw [pgOk_empty h hf]; exact pg0_i
  | true =>
    have := pgOk_full h hf
    unfold PgI I64
    omega
def pc (ps : List Pg) : List Value := ps.flatMap pgc
theorem pc_len (ps : List Pg) : (pc ps).length = ps.length * 5 := by
  unfold pc
  induction ps with
  | nil => rfl
  | cons p ps ih => rw [List.flatMap_cons, List.length_append, ih, List.length_cons]; simp [pgc]; omega
theorem pc_at (ps : List Pg) (k j : Nat) (hk : k < ps.length) (hj : j < 5) : (pc ps)[k * 5 + j]? = (pgc ps[k])[j]? := by
  unfold pc
  induction ps generalizing k with
  | nil => simp at hk
  | cons p ps ih =>
    rw [List.flatMap_cons]
    cases k with
    | zero =>
      rw [List.getElem?_append_left (by simp [pgc]; omega)]
      simp
    | succ k =>
      rw [List.getElem?_append_right (by simp [pgc]; omega)]
      have := ih k (by simpa using hk)
      rw [List.getElem_cons_succ, ← this]
      congr 1
      simp [pgc]; omega
theorem pc_append (a b : List Pg) : pc (a ++ b) = pc a ++ pc b := by unfold pc; rw [List.flatMap_append]

/-- The pages of a slice. -/
def RP (w : World) (lo hi : Nat) (v : Value) (ps : List Pg) : Prop := Reads w lo hi 5 v ps.length (pc ps) ∧ ∀ p ∈ ps, PgI p
theorem RP.below {w w' : World} {lo hi : Nat} {v : Value} {ps : List Pg} (h : RP w lo hi v ps) (hk : Below w.heap.size w w') : RP w' lo hi v ps := ⟨h.1.below hk, h.2⟩
theorem RP.chg {S : Nat → Prop} {w w' : World} {lo hi : Nat} {v : Value} {ps : List Pg} (h : RP w lo hi v ps) (hk : Chg S w w') (hs : ∀ b, lo ≤ b → b < hi → ¬ S b) : RP w' lo hi v ps := ⟨h.1.chg hk hs, h.2⟩
theorem RP.wide {w : World} {lo hi lo' hi' : Nat} {v : Value} {ps : List Pg} (h : RP w lo hi v ps) (h1 : lo' ≤ lo) (h2 : hi ≤ hi') : RP w lo' hi' v ps := ⟨h.1.wide h1 h2, h.2⟩
/-- The five cells of a page. -/
def P5 (w : World) (b o : Nat) (p : Pg) : Prop :=
  w.cell? ⟨b, o, none⟩ = some (.bool p.full) ∧ w.cell? ⟨b, o + 1, none⟩ = some (.int .i64 p.file) ∧ w.cell? ⟨b, o + 2, none⟩ = some (.int .i64 p.place) ∧ w.cell? ⟨b, o + 3, none⟩ = some (.int .i64 p.value) ∧ w.cell? ⟨b, o + 4, none⟩ = some (.int .i64 p.stamp)
theorem P5.below {w w' : World} {b o : Nat} {p : Pg} (h : P5 w b o p) (hk : Below w.heap.size w w') : P5 w' b o p :=
  ⟨cell_later hk h.1, cell_later hk h.2.1, cell_later hk h.2.2.1, cell_later hk h.2.2.2.1, cell_later hk h.2.2.2.2⟩
theorem RP.open {w : World} {lo hi : Nat} {v : Value} {ps : List Pg} (h : RP w lo hi v ps) :
    ∃ (a : Option Addr) (cap b off : Nat), v = .slice a ps.length cap ∧ ps.length ≤ cap ∧ cap ≤ 9223372036854775807 ∧
      (0 < ps.length → a = some ⟨b, off, none⟩) ∧ ∀ k (hk : k < ps.length), P5 w b (off + k * 5) ps[k] := by
  obtain ⟨⟨hl, a, cap, b, off, rfl, h1, h2, h3, h4⟩, hw⟩ := h
  refine ⟨a, cap, b, off, rfl, h1, by simpa [maxLen] using h2, fun hn => (h3 hn).1, fun k hk => ?_⟩
  have key : ∀ j, j < 5 → w.cell? ⟨b, off + k * 5 + j, none⟩ = (pgc ps[k])[j]? := fun j hj => by
    rw [← pc_at ps k j hk hj, ← h4 (k * 5 + j) (by omega), Nat.add_assoc]
  exact ⟨by simpa [pgc] using key 0 (by omega), by simpa [pgc] using key 1 (by omega), by simpa [pgc] using key 2 (by omega), by simpa [pgc] using key 3 (by omega), by simpa [pgc] using key 4 (by omega)⟩
theorem RP.at {w : World} {lo hi : Nat} {v : Value} {ps : List Pg} (h : RP w lo hi v ps) {k : Nat} (hk : k < ps.length) : PgI ps[k] := h.2 _ (List.getElem_mem hk)
theorem rp_nil (w : World) (lo hi : Nat) : RP w lo hi (.slice none 0 0) [] :=
  ⟨⟨by simp [pc], none, 0, 0, 0, rfl, Nat.le_refl _, by simp [maxLen], fun h => by simp at h, fun j hj => by simp at hj⟩, fun p hp => by simp at hp⟩

/-- A block by value. -/
def RB1 (w : World) (lo hi : Nat) (v : Value) (b : Bk) : Prop := ∃ s, v = .agg #[.int .i64 b.wear, s] ∧ I64 b.wear ∧ RP w lo hi s b.pages

/-- The cells of blocks whose pages are the slices us. -/
def bc : List Bk → List Value → List Value
  | b :: d, u :: us => .int .i64 b.wear :: u :: bc d us
  | _, _ => []
theorem bc_len : ∀ (d : List Bk) (us : List Value), us.length = d.length → (bc d us).length = d.length * 2
  | [], [], _ => rfl
  | b :: d, u :: us, h => by
    have := bc_len d us (by simpa using h)
    simp only [bc, List.length_cons, this]; omega
  | [], _ :: _, h => by simp at h
  | _ :: _, [], h => by simp at h
theorem bc_at : ∀ (d : List Bk) (us : List Value) (k : Nat) (hk : k < d.length), us.length = d.length → (bc d us)[k * 2]? = some (.int .i64 d[k].wear) ∧ (bc d us)[k * 2 + 1]? = us[k]?
  | [], _, k, hk, _ => by simp at hk
  | b :: d, [], k, _, h => by simp at h
  | b :: d, u :: us, 0, _, _ => by simp [bc]
  | b :: d, u :: us, k + 1, hk, h => by
    have := bc_at d us k (by simpa using hk) (by simpa using h)
    rw [show (k + 1) * 2 = k * 2 + 1 + 1 by omega]
    simpa [bc] using this

/-- The blocks of a slice. -/
def RD (w : World) (lo hi : Nat) (v : Value) (d : List Bk) : Prop :=
  ∃ us : List Value, us.length = d.length ∧ Reads w lo hi 2 v d.length (bc d us) ∧ ∀ (k : Nat) (hk : k < d.length) (u : Value), us[k]? = some u → RP w lo hi u d[k].pages ∧ I64 d[k].wear
theorem RD.chg {S : Nat → Prop} {w w' : World} {lo hi : Nat} {v : Value} {d : List Bk} (h : RD w lo hi v d) (hk : Chg S w w') (hs : ∀ b, lo ≤ b → b < hi → ¬ S b) : RD w' lo hi v d := by
  obtain ⟨us, h0, h1, h2⟩ := h
  exact ⟨us, h0, h1.chg hk hs, fun k hl u hu => ⟨(h2 k hl u hu).1.chg hk hs, (h2 k hl u hu).2⟩⟩
theorem RD.below {w w' : World} {lo hi : Nat} {v : Value} {d : List Bk} (h : RD w lo hi v d) (hk : Below w.heap.size w w') : RD w' lo hi v d := h.chg (below_chg hk fun _ => False) fun _ _ _ h => h
theorem RD.wide {w : World} {lo hi lo' hi' : Nat} {v : Value} {d : List Bk} (h : RD w lo hi v d) (h1 : lo' ≤ lo) (h2 : hi ≤ hi') : RD w lo' hi' v d := by
  obtain ⟨us, g0, g1, g2⟩ := h
  exact ⟨us, g0, g1.wide h1 h2, fun k hl u hu => ⟨(g2 k hl u hu).1.wide h1 h2, (g2 k hl u hu).2⟩⟩
theorem RD.open {w : World} {lo hi : Nat} {v : Value} {d : List Bk} (h : RD w lo hi v d) :
    ∃ (a : Option Addr) (cap b off : Nat), v = .slice a d.length cap ∧ d.length ≤ cap ∧ cap ≤ 9223372036854775807 ∧
      (0 < d.length → a = some ⟨b, off, none⟩) ∧ ∀ k (hk : k < d.length), ∃ u, w.cell? ⟨b, off + k * 2, none⟩ = some (.int .i64 d[k].wear) ∧ w.cell? ⟨b, off + k * 2 + 1, none⟩ = some u ∧ RP w lo hi u d[k].pages ∧ I64 d[k].wear := by
  obtain ⟨us, hl, ⟨hl2, a, cap, b, off, rfl, h1, h2, h3, h4⟩, hi⟩ := h
  refine ⟨a, cap, b, off, rfl, h1, by simpa [maxLen] using h2, fun hn => (h3 hn).1, fun k hk => ?_⟩
  have hk' : k < us.length := by omega
  obtain ⟨e1, e2⟩ := bc_at d us k hk hl
  have hu : us[k]? = some us[k] := by simp [hk']
  refine ⟨us[k], ?_, ?_, hi k hk _ hu⟩
  · rw [h4 (k * 2) (by omega), e1]
  · rw [Nat.add_assoc, h4 (k * 2 + 1) (by omega), e2, hu]
theorem RD.at {w : World} {lo hi : Nat} {b off n cap : Nat} {d : List Bk} (h : RD w lo hi (.slice (some ⟨b, off, none⟩) n cap) d) (k : Nat) (hk : k < d.length) :
    ∃ (a' : Option Addr) (cap' b' off' : Nat), w.cell? ⟨b, off + k * 2, none⟩ = some (.int .i64 d[k].wear) ∧ w.cell? ⟨b, off + k * 2 + 1, none⟩ = some (.slice a' d[k].pages.length cap') ∧ RP w lo hi (.slice a' d[k].pages.length cap') d[k].pages ∧ I64 d[k].wear ∧
      d[k].pages.length ≤ cap' ∧ cap' ≤ 9223372036854775807 ∧ (0 < d[k].pages.length → a' = some ⟨b', off', none⟩) ∧ ∀ j (hj : j < d[k].pages.length), P5 w b' (off' + j * 5) d[k].pages[j] := by
  obtain ⟨a, c, b0, o0, e, q1, q2, q3, q4⟩ := h.open
  simp only [Value.slice.injEq] at e
  obtain ⟨rfl, -, rfl⟩ := e
  have := q3 (by omega)
  simp only [Option.some.injEq, Addr.mk.injEq, and_true] at this
  obtain ⟨rfl, rfl⟩ := this
  obtain ⟨u, c1, c2, hp, hw⟩ := q4 k hk
  obtain ⟨a', cap', b', off', rfl, r1, r2, r3, r4⟩ := hp.open
  exact ⟨a', cap', b', off', c1, c2, hp, hw, r1, r2, r3, r4⟩
theorem rd_nil (w : World) (lo hi : Nat) : RD w lo hi (.slice none 0 0) [] :=
  ⟨[], rfl, ⟨by simp [bc], none, 0, 0, 0, rfl, Nat.le_refl _, by simp [maxLen], fun h => by simp at h, fun j hj => by simp at hj⟩, fun k hk => by simp at hk⟩

/-- Heads by value. -/
def hdv (h : Hd) : Value := .agg #[.int .i64 h.hot, .int .i64 h.warm, .int .i64 h.cold]
def HdI (h : Hd) : Prop := I64 h.hot ∧ I64 h.warm ∧ I64 h.cold

/-- Boxes of two and of five cells. -/
theorem two_at {w : World} {B : Nat} {x y : Value} {t : TypeId} (h : w.heap[B]? = some (.cells #[x, y] t (0, 0))) :
    (w.cell? ⟨B, 0, none⟩ = some x ∧ w.cell? ⟨B, 1, none⟩ = some y) ∧ w.frozen? ⟨B, 0, none⟩ = false ∧ w.frozen? ⟨B, 1, none⟩ = false := by
  simp [World.cell?, World.frozen?, h]
theorem three_at {w : World} {B : Nat} {x y z : Value} {t : TypeId} (h : w.heap[B]? = some (.cells #[x, y, z] t (0, 0))) :
    (w.cell? ⟨B, 0, none⟩ = some x ∧ w.cell? ⟨B, 1, none⟩ = some y ∧ w.cell? ⟨B, 2, none⟩ = some z) ∧ w.frozen? ⟨B, 0, none⟩ = false ∧ w.frozen? ⟨B, 1, none⟩ = false ∧ w.frozen? ⟨B, 2, none⟩ = false := by
  simp [World.cell?, World.frozen?, h]
theorem five_at {w : World} {B : Nat} {p : Pg} {t : TypeId} (h : w.heap[B]? = some (.cells #[.bool p.full, .int .i64 p.file, .int .i64 p.place, .int .i64 p.value, .int .i64 p.stamp] t (0, 0))) : P5 w B 0 p := by
  unfold P5
  simp [World.cell?, h]

end Go.Proofs.Ytjmofmdcegefgaa

namespace Go.Proofs.Ytjmofmdcegefgaa
open Go.RowKit

/-- 'append(out, y)' of one int; it says where the result lies. -/
theorem ap1_intA {w : World} {ops : Array Oper} {rest : List Oper} {o : Oper} {a : Act} {Q : Exit → Act → World → Prop} (hgd : o.guard = none) (s x : Operand)
    (ho : o.op = .call { callee := .builtin .append, args := #[s, x], argTypes := #[31, 31] }) (lo : Nat) (v : Value) (xs : List Int) (y : Int) (hs : a.eval s = v) (hown : OI w lo v xs)
    (hx : a.eval x = .slice (some ⟨w.heap.size, 0, none⟩) 1 1) (hn : xs.length ≤ 100000000000) (hbase : lo ≤ w.heap.size) (hy : I64 y)
    (h : ∀ v' w', OI w' lo v' (xs ++ [y]) ∧ (v'.ownBlock = v.ownBlock ∨ v'.ownBlock = some (w.heap.size + 1)) → Chg (fun k => v.ownBlock = some k) w w' → wpList Try.prog ops Q rest (a.put o.dst v') w') : wpList Try.prog ops Q (o :: rest) a (w.alloc (.cells #[.int .i64 y] 3)) := by
  obtain ⟨i0, hi0, hz0, hz1, hz2⟩ := info_parts Try.infoInt
  refine wpList_append_own_at (w.alloc (.cells #[.int .i64 y] 3)) hgd s x 31 ho lo 3 i0 (.int .i64 0) 1 8 Try.underlying31 hi0 hz0 hz1 hz2 rfl (by decide) v xs.length (xs.map (Value.int .i64)) hs (hown.1.alloc _) ⟨w.heap.size, 0, none⟩ 1 1 [.int .i64 y] hx rfl (cell_one_new _ _ _) (by simp [Value.oneCell']) (by simp [maxLen]; omega) (by omega) (by simp; omega) fun v' w' h1 h2 _ h4 => ?_
  refine h v' w' ⟨oi_snoc h1 rfl hown.2 hy, ?_⟩ (((Chg.refl _ w).alloc _).grown h2 (fun k hk => .inr hk))
  rcases h4 with h4 | h4
  · exact .inl h4
  · exact .inr (by rw [h4]; simp)

theorem RI.cell {w : World} {lo hi b off n cap : Nat} {xs : List Int} (h : RI w lo hi (.slice (some ⟨b, off, none⟩) n cap) xs) {k : Nat} (hk : k < xs.length) : w.cell? ⟨b, off + k, none⟩ = some (.int .i64 xs[k]) := by
  obtain ⟨a, cap', b', off', he, -, -, h3, h4⟩ := h.open
  have := h3 (by omega)
  subst this
  simp only [Value.slice.injEq, Option.some.injEq, Addr.mk.injEq, and_true] at he
  obtain ⟨⟨rfl, rfl⟩, -⟩ := he
  exact h4 k hk

/-- A page's field, by value. -/
theorem fld_full (x0 x1 x2 x3 x4 : Value) (w : World) : Sem.run Try.prog (Instr.field 53 (.agg #[x0, x1, x2, x3, x4]) 0) w = .ok x0 w := by kernel_rfl

/-- The state of the walks: the table's box, the counts so far, the pages used. -/
structure BcR (w : World) (lo hi : Nat) (sl u : Value) (xs : List Int) (vu : Value) (us : List Int) (wr : World) : Prop where
  own : OI wr (w.heap.size + 1) u xs
  off : ∀ b, u.ownBlock = some b → b < lo ∨ hi ≤ b
  red : RI wr lo hi vu us
  bel : Below w.heap.size w wr
  ord : w.heap.size + 1 ≤ lo ∧ hi ≤ wr.heap.size ∧ lo ≤ hi
  box : wr.heap[w.heap.size]? = some (.cells #[sl] 26)
theorem BcR.keep {w wr w' : World} {lo hi : Nat} {sl u vu : Value} {xs us : List Int} (h : BcR w lo hi sl u xs vu us wr) (c : Below wr.heap.size wr w') : BcR w lo hi sl u xs vu us w' :=
  ⟨h.own.below c, h.off, h.red.below c, bup2 h.bel c, ⟨h.ord.1, Nat.le_trans h.ord.2.1 c.size, h.ord.2.2⟩, box_keep h.box c⟩
theorem BcR.app {w wr w' : World} {lo hi : Nat} {sl u v' vu : Value} {xs ys us : List Int} (h : BcR w lo hi sl u xs vu us wr) (o : OI w' (w.heap.size + 1) v' ys) (hv : v'.ownBlock = u.ownBlock ∨ v'.ownBlock = some (wr.heap.size + 1)) (c : Chg (fun k => u.ownBlock = some k) wr w') : BcR w lo hi sl v' ys vu us w' := by
  refine ⟨o, fun b hb => ?_, h.red.chg c fun b h1 h2 he => ?_, h.bel.trans (c.below h.bel.size fun k hk he => ?_), ⟨h.ord.1, Nat.le_trans h.ord.2.1 c.size, h.ord.2.2⟩, box_chg h.box c fun he => ?_⟩
  · rcases hv with hv | hv
    · exact h.off b (by rw [← hv]; exact hb)
    · rw [hv] at hb
      simp only [Option.some.injEq] at hb
      have := h.ord.2.1
      exact .inr (by omega)
  · have := h.off b he; omega
  · have := (h.own.lt k he).1; omega
  · have := (h.own.lt _ he).1; omega
theorem BcR.set {w wr : World} {lo hi B n cap : Nat} {sl vu : Value} {xs us : List Int} (h : BcR w lo hi sl (.slice (some ⟨B, 0, none⟩) n cap) xs vu us wr) {k : Nat} (hk : k < xs.length) :
    (wr.cell? ⟨B, k, none⟩ = some (.int .i64 xs[k]) ∧ wr.frozen? ⟨B, k, none⟩ = false) ∧ ∀ y, I64 y → BcR w lo hi sl (.slice (some ⟨B, 0, none⟩) n cap) (xs.set k y) vu us (wr.setCell ⟨B, k, none⟩ (.int .i64 y)) := by
  obtain ⟨h1, h2⟩ := h.own
  have hB := h.own.lt B rfl
  have hoff := h.off B rfl
  have hl : n = xs.length := by
    obtain ⟨a, c, b, o, he, -⟩ := h.own.ri.open
    simp only [Value.slice.injEq] at he
    exact he.2.1
  subst hl
  refine ⟨⟨by rw [h1.cellAt k (by omega)]; simp [hk], h1.frozenAt k⟩, fun y hy => ?_⟩
  have hc : Chg (fun b => b = B) wr (wr.setCell ⟨B, k, none⟩ (.int .i64 y)) := Chg.setCell (S := fun b => b = B) (Chg.refl _ wr) (p := ⟨B, k, none⟩) (.inr rfl) _
  refine ⟨⟨?_, fun x hx => ?_⟩, h.off, h.red.chg hc fun b g1 g2 g3 => by omega, h.bel.setCell (p := ⟨B, k, none⟩) (by show w.heap.size ≤ B; omega) _, by simpa [World.setCell] using h.ord, box_chg h.box hc (by omega)⟩
  · have := (h1.stored k (.int .i64 y)).1
    rw [List.length_set, List.map_set]
    exact this
  · rcases List.mem_or_eq_of_mem_set hx with h' | rfl
    · exact h2 x h'
    · exact hy

end Go.Proofs.Ytjmofmdcegefgaa

namespace Go.Proofs.Ytjmofmdcegefgaa
open Go.RowKit

/-- A row of pages of the call's own. -/
def OP (w : World) (lo : Nat) (v : Value) (ps : List Pg) : Prop := w.ownsRow lo 53 5 v ps.length (pc ps) ∧ ∀ p ∈ ps, PgI p
theorem OP.chg {S : Nat → Prop} {w w' : World} {lo : Nat} {v : Value} {ps : List Pg} (h : OP w lo v ps) (hk : Chg S w w') (hs : ∀ b, lo ≤ b → v.ownBlock = some b → ¬ S b) : OP w' lo v ps := ⟨own_chg h.1 hk hs, h.2⟩
theorem OP.lt {w : World} {lo : Nat} {v : Value} {ps : List Pg} (h : OP w lo v ps) : ∀ b, v.ownBlock = some b → lo ≤ b ∧ b < w.heap.size := fun b hb => h.1.lt b hb
theorem OP.wide {w : World} {lo lo' : Nat} {v : Value} {ps : List Pg} (h : OP w lo v ps) (hl : lo' ≤ lo) : OP w lo' v ps := ⟨own_wide h.1 hl, h.2⟩
theorem OP.below {w w' : World} {lo : Nat} {v : Value} {ps : List Pg} (h : OP w lo v ps) (hk : Below w.heap.size w w') : OP w' lo v ps := h.chg (below_chg hk fun _ => False) fun _ _ _ h => h
theorem OP.rp {w : World} {lo : Nat} {v : Value} {ps : List Pg} (h : OP w lo v ps) : RP w lo w.heap.size v ps := ⟨reads_own h.1, h.2⟩
theorem OP.rph {w : World} {lo hi : Nat} {v : Value} {ps : List Pg} (h : OP w lo v ps) (hb : ∀ b, v.ownBlock = some b → b < hi) : RP w lo hi v ps := ⟨reads_hi h.1 hb, h.2⟩
theorem op_nil (w : World) (lo : Nat) : OP w lo (.slice none 0 0) [] := ⟨World.ownsRow_nil _ _ _ _, fun _ h => by simp at h⟩
def PgRow : RowK (List Pg) where
  own := OP
  chg := fun h hc hs => OP.chg h hc hs
  lt := fun h => OP.lt h
  wide := fun h hl => OP.wide h hl

theorem pc_set (ps : List Pg) (k j : Nat) (hk : k < ps.length) (hj : j < 5) (p : Pg) (u : Value) (h : ∀ i, i < 5 → (pgc p)[i]? = if i = j then some u else (pgc ps[k])[i]?) : (pc ps).set (k * 5 + j) u = pc (ps.set k p) := by
  apply List.ext_getElem?
  intro i
  have hl : (pc ps).length = ps.length * 5 := pc_len ps
  have hl2 : (pc (ps.set k p)).length = ps.length * 5 := by rw [pc_len, List.length_set]
  by_cases hi : i < ps.length * 5
  · have e : i = i / 5 * 5 + i % 5 := by omega
    have hk5 : i / 5 < ps.length := by omega
    have hk5' : i / 5 < (ps.set k p).length := by rw [List.length_set]; exact hk5
    have r1 := pc_at (ps.set k p) (i / 5) (i % 5) hk5' (by omega)
    have r2 := pc_at ps (i / 5) (i % 5) hk5 (by omega)
    rw [← e] at r1 r2
    rw [r1]
    by_cases ek : i / 5 = k
    · subst ek
      rw [List.getElem_set_self, h (i % 5) (by omega)]
      by_cases ej : i % 5 = j
      · rw [if_pos ej, show i / 5 * 5 + j = i by omega, List.getElem?_set_self (by omega)]
      · rw [if_neg ej, List.getElem?_set_ne (by omega), r2]
    · rw [List.getElem_set_ne (fun h => ek h.symm), ← r2, List.getElem?_set_ne (by omega)]
  · rw [List.getElem?_eq_none (by rw [List.length_set]; omega), List.getElem?_eq_none (by omega)]

/-- One cell of one page stored. -/
theorem OP.cell {w : World} {lo : Nat} {v : Value} {ps : List Pg} (h : OP w lo v ps) (k j : Nat) (hk : k < ps.length) (hj : j < 5) :
    ∃ (g cap : Nat), v = .slice (some ⟨g, 0, none⟩) ps.length cap ∧ ps.length ≤ cap ∧ (∃ u, w.cell? ⟨g, k * 5 + j, none⟩ = some u) ∧ w.frozen? ⟨g, k * 5 + j, none⟩ = false ∧ (lo ≤ g ∧ g < w.heap.size) ∧
      ∀ (p : Pg) (u : Value), PgI p → (∀ i, i < 5 → (pgc p)[i]? = if i = j then some u else (pgc ps[k])[i]?) → OP (w.setCell ⟨g, k * 5 + j, none⟩ u) lo v (ps.set k p) := by
  obtain ⟨g, cap, rfl, hb1, hb2, hb3⟩ := own_shape1 h.1 (show 0 < ps.length by omega)
  refine ⟨g, cap, rfl, hb3, ?_, h.1.frozenAt _, ⟨hb1, hb2⟩, fun p u hp hu => ?_⟩
  · rw [h.1.cellAt _ (by omega), pc_at ps k j hk hj]
    exact ⟨(pgc ps[k])[j]'(by simp [pgc]; omega), by simp [pgc, hj]⟩
  · have hst := (h.1.stored (k * 5 + j) u).1
    refine ⟨?_, fun q hq => ?_⟩
    · rw [List.length_set, ← pc_set ps k j hk hj p u hu]
      exact hst
    · rcases List.mem_or_eq_of_mem_set hq with h1 | rfl
      · exact h.2 q h1
      · exact hp

/-- The device v is the call's own, and so are its blocks' pages, all ahead of hi. -/
def OD (w : World) (lo hi : Nat) (v : Value) (d : List Bk) : Prop :=
  ∃ us : List Value, w.ownsRow lo 44 2 v d.length (bc d us) ∧ (∀ b, v.ownBlock = some b → b < hi) ∧ Inn PgRow w lo hi us (d.map Bk.pages) ∧ ∀ b ∈ d, I64 b.wear
theorem OD.chg {S : Nat → Prop} {w w' : World} {lo hi : Nat} {v : Value} {d : List Bk} (h : OD w lo hi v d) (hk : Chg S w w') (hs : ∀ b, lo ≤ b → b < hi → ¬ S b) : OD w' lo hi v d := by
  obtain ⟨us, h1, h2, h3, h4⟩ := h
  exact ⟨us, own_chg h1 hk fun b hb he => hs b hb (h2 b he), h2, h3.chg hk hs, h4⟩
theorem OD.below {w w' : World} {lo hi : Nat} {v : Value} {d : List Bk} (h : OD w lo hi v d) (hk : Below w.heap.size w w') : OD w' lo hi v d := h.chg (below_chg hk fun _ => False) fun _ _ _ h => h
theorem OD.mono {w : World} {lo hi hi' : Nat} {v : Value} {d : List Bk} (h : OD w lo hi v d) (hh : hi ≤ hi') : OD w lo hi' v d := by
  obtain ⟨us, h1, h2, h3, h4⟩ := h
  exact ⟨us, h1, fun b hb => by have := h2 b hb; omega, h3.mono hh, h4⟩
theorem OD.wide {w : World} {lo lo' hi : Nat} {v : Value} {d : List Bk} (h : OD w lo hi v d) (hh : lo' ≤ lo) : OD w lo' hi v d := by
  obtain ⟨us, h1, h2, h3, h4⟩ := h
  exact ⟨us, own_wide h1 hh, h2, h3.wide hh, h4⟩
theorem OD.rd {w : World} {lo hi : Nat} {v : Value} {d : List Bk} (h : OD w lo hi v d) : RD w lo hi v d := by
  obtain ⟨us, h1, h2, h3, h4⟩ := h
  have hl : us.length = d.length := by rw [h3.1, List.length_map]
  refine ⟨us, hl, reads_hi h1 h2, fun k hk u hu => ⟨?_, h4 _ (List.getElem_mem hk)⟩⟩
  have hk' : k < (d.map Bk.pages).length := by rw [List.length_map]; exact hk
  have ho : OP w lo u (d.map Bk.pages)[k] := (h3.2.1 k hk' u hu).1
  rw [List.getElem_map] at ho
  exact ho.rph (h3.2.1 k hk' u hu).2
theorem od_nil (w : World) (lo hi : Nat) : OD w lo hi (.slice none 0 0) [] := ⟨[], World.ownsRow_nil _ _ _ _, fun b hb => by simp [Value.ownBlock] at hb, Inn.nil _ _ _ _, fun b hb => by simp at hb⟩

theorem bc_set : ∀ (d : List Bk) (us : List Value) (k : Nat) (b : Bk) (u : Value), us.length = d.length → k < d.length → ((bc d us).set (k * 2) (.int .i64 b.wear)).set (k * 2 + 1) u = bc (d.set k b) (us.set k u)
  | [], _, k, _, _, _, h => by simp at h
  | x :: d, [], _, _, _, h, _ => by simp at h
  | x :: d, y :: us, 0, b, u, _, _ => by simp [bc]
  | x :: d, y :: us, k + 1, b, u, h1, h2 => by
    have := bc_set d us k b u (by simpa using h1) (by simpa using h2)
    rw [show (k + 1) * 2 = k * 2 + 1 + 1 by omega]
    simpa [bc] using this
theorem bc_setw : ∀ (d : List Bk) (us : List Value) (k : Nat) (b : Bk), us.length = d.length → k < d.length → (bc d us).set (k * 2) (.int .i64 b.wear) = bc (d.set k b) us
  | [], _, k, _, _, h => by simp at h
  | x :: d, [], _, _, h, _ => by simp at h
  | x :: d, y :: us, 0, b, _, _ => by simp [bc]
  | x :: d, y :: us, k + 1, b, h1, h2 => by
    have := bc_setw d us k b (by simpa using h1) (by simpa using h2)
    rw [show (k + 1) * 2 = k * 2 + 1 + 1 by omega]
    simpa [bc] using this
theorem bc_append : ∀ (d : List Bk) (us : List Value) (b : Bk) (u : Value), us.length = d.length → bc (d ++ [b]) (us ++ [u]) = bc d us ++ [.int .i64 b.wear, u]
  | [], [], _, _, _ => by simp [bc]
  | x :: d, y :: us, b, u, h => by
    have := bc_append d us b u (by simpa using h)
    simp [bc, this]
  | [], _ :: _, _, _, h => by simp at h
  | _ :: _, [], _, _, h => by simp at h

theorem bcw_pages (d : List Bk) (us : List Value) (k : Nat) (hk : k < d.length) (ps : List Pg) (hl : us.length = d.length) : bc (d.set k ⟨d[k].wear, ps⟩) us = bc d us := by
  have h1 := bc_setw d us k ⟨d[k].wear, ps⟩ hl hk
  rw [← h1]
  apply List.ext_getElem?
  intro i
  by_cases e : k * 2 = i
  · subst e
    rw [List.getElem?_set_self (by rw [bc_len d us hl]; omega), (bc_at d us k hk hl).1]
  · rw [List.getElem?_set_ne e]

/-- One block's pages: turned by whatever turns their row alone. -/
theorem OD.inner {w : World} {lo hi : Nat} {v : Value} {d : List Bk} (h : OD w lo hi v d) (k : Nat) (hk : k < d.length) :
    ∃ (a cap : Nat) (u : Value), v = .slice (some ⟨a, 0, none⟩) d.length cap ∧ d.length ≤ cap ∧ w.cell? ⟨a, k * 2 + 1, none⟩ = some u ∧ OP w lo u d[k].pages ∧ (∀ b, u.ownBlock = some b → lo ≤ b ∧ b < hi) ∧
      ∀ w' ps, Chg (fun b => u.ownBlock = some b) w w' → OP w' lo u ps → OD w' lo hi v (d.set k ⟨d[k].wear, ps⟩) := by
  obtain ⟨us, h1, h2, h3, h4⟩ := h
  have hl : us.length = d.length := by rw [h3.1, List.length_map]
  obtain ⟨u, hu, ho, hb⟩ := h3.get k (by rw [List.length_map]; exact hk)
  have ho' : OP w lo u d[k].pages := by rw [List.getElem_map] at ho; exact ho
  obtain ⟨a, cap, rfl, ha1, ha2, ha3⟩ := own_shape1 h1 (show 0 < d.length by omega)
  refine ⟨a, cap, u, rfl, ha3, by rw [h1.cellAt _ (by omega), (bc_at d us k hk hl).2]; exact hu, ho', fun b hb' => ⟨(ho'.lt b hb').1, hb b hb'⟩, fun w' ps hc ho2 => ?_⟩
  have hap := own_apart ho'.1 h1 (by decide)
  have hin : Inn PgRow w' lo hi us ((d.map Bk.pages).set k ps) := h3.one hu hc ho2
  have em : ((d.map Bk.pages).set k ps) = (d.set k ⟨d[k].wear, ps⟩).map Bk.pages := by rw [List.map_set]
  refine ⟨us, ?_, h2, by rw [← em]; exact hin, fun b hb => ?_⟩
  · rw [List.length_set, bcw_pages d us k hk ps hl]
    exact own_chg h1 hc fun b _ hb1 hb2 => hap b hb2 hb1
  · rcases List.mem_or_eq_of_mem_set hb with h | rfl
    · exact h4 b h
    · exact h4 d[k] (List.getElem_mem hk)
/-- One block's wear stored. -/
theorem OD.setw {w : World} {lo hi : Nat} {v : Value} {d : List Bk} (h : OD w lo hi v d) (k : Nat) (hk : k < d.length) :
    ∃ (a cap : Nat), v = .slice (some ⟨a, 0, none⟩) d.length cap ∧ d.length ≤ cap ∧ (∃ u, w.cell? ⟨a, k * 2, none⟩ = some u) ∧ w.frozen? ⟨a, k * 2, none⟩ = false ∧ (lo ≤ a ∧ a < hi) ∧
      ∀ x, I64 x → OD (w.setCell ⟨a, k * 2, none⟩ (.int .i64 x)) lo hi v (d.set k ⟨x, d[k].pages⟩) := by
  obtain ⟨us, h1, h2, h3, h4⟩ := h
  have hl : us.length = d.length := by rw [h3.1, List.length_map]
  obtain ⟨a, cap, rfl, ha1, ha2, ha3⟩ := own_shape1 h1 (show 0 < d.length by omega)
  refine ⟨a, cap, rfl, ha3, ⟨_, by rw [h1.cellAt _ (by omega), (bc_at d us k hk hl).1]⟩, h1.frozenAt _, ⟨ha1, h2 a rfl⟩, fun x hx => ?_⟩
  have hst := (h1.stored (k * 2) (.int .i64 x)).1
  have hc : Chg (fun b => (Value.slice (some ⟨a, 0, none⟩) d.length cap).ownBlock = some b) w (w.setCell ⟨a, k * 2, none⟩ (.int .i64 x)) := Chg.setCell (S := fun b => (Value.slice (some ⟨a, 0, none⟩) d.length cap).ownBlock = some b) (Chg.refl _ w) (p := ⟨a, k * 2, none⟩) (.inr rfl) _
  have hin : Inn PgRow (w.setCell ⟨a, k * 2, none⟩ (.int .i64 x)) lo hi us (d.map Bk.pages) := h3.chg2 hc fun j u b hu hb1 hb2 => by
    have hj : j < (d.map Bk.pages).length := by rw [← h3.1]; exact (List.getElem?_eq_some_iff.1 hu).1
    have ho : OP w lo u (d.map Bk.pages)[j] := (h3.2.1 j hj u hu).1
    exact own_apart ho.1 h1 (by decide) b hb1 hb2
  have em : (d.set k ⟨x, d[k].pages⟩).map Bk.pages = d.map Bk.pages := by
    rw [List.map_set]
    apply List.ext_getElem?
    intro i
    by_cases e : k = i
    · subst e; rw [List.getElem?_set_self (by rw [List.length_map]; exact hk)]; simp [hk]
    · rw [List.getElem?_set_ne e]
  refine ⟨us, ?_, h2, by rw [em]; exact hin, fun b hb => ?_⟩
  · have eb := bc_setw d us k ⟨x, d[k].pages⟩ hl hk
    rw [List.length_set, ← eb]
    exact hst
  · rcases List.mem_or_eq_of_mem_set hb with h | rfl
    · exact h4 b h
    · exact hx
/-- One block laid anew. -/
theorem OD.put {w : World} {lo hi hi' : Nat} {v : Value} {d : List Bk} (h : OD w lo hi v d) (k : Nat) (hk : k < d.length) :
    ∃ (a cap : Nat), v = .slice (some ⟨a, 0, none⟩) d.length cap ∧ d.length ≤ cap ∧ ((∃ u, w.cell? ⟨a, k * 2, none⟩ = some u) ∧ ∃ u, w.cell? ⟨a, k * 2 + 1, none⟩ = some u) ∧ (w.frozen? ⟨a, k * 2, none⟩ = false ∧ w.frozen? ⟨a, k * 2 + 1, none⟩ = false) ∧ (lo ≤ a ∧ a < hi) ∧
      ∀ u (b : Bk), OP w lo u b.pages → I64 b.wear → (∀ g, u.ownBlock = some g → hi ≤ g ∧ g < hi') → hi ≤ hi' → OD ((w.setCell ⟨a, k * 2, none⟩ (.int .i64 b.wear)).setCell ⟨a, k * 2 + 1, none⟩ u) lo hi' v (d.set k b) := by
  obtain ⟨us, h1, h2, h3, h4⟩ := h
  have hl : us.length = d.length := by rw [h3.1, List.length_map]
  obtain ⟨a, cap, rfl, ha1, ha2, ha3⟩ := own_shape1 h1 (show 0 < d.length by omega)
  have hku : k < us.length := by omega
  refine ⟨a, cap, rfl, ha3, ⟨⟨_, by rw [h1.cellAt _ (by omega), (bc_at d us k hk hl).1]⟩, ⟨us[k], by rw [h1.cellAt _ (by omega), (bc_at d us k hk hl).2]; simp [hku]⟩⟩, ⟨h1.frozenAt _, h1.frozenAt _⟩, ⟨ha1, h2 a rfl⟩, fun u b ho hw hb hh => ?_⟩
  have hst := (h1.stored (k * 2) (.int .i64 b.wear)).1
  have hst2 := (hst.stored (k * 2 + 1) u).1
  have hc : Chg (fun b => (Value.slice (some ⟨a, 0, none⟩) d.length cap).ownBlock = some b) w ((w.setCell ⟨a, k * 2, none⟩ (.int .i64 b.wear)).setCell ⟨a, k * 2 + 1, none⟩ u) :=
    Chg.setCell (S := fun b => (Value.slice (some ⟨a, 0, none⟩) d.length cap).ownBlock = some b) (Chg.setCell (S := fun b => (Value.slice (some ⟨a, 0, none⟩) d.length cap).ownBlock = some b) (Chg.refl _ w) (p := ⟨a, k * 2, none⟩) (.inr rfl) _) (p := ⟨a, k * 2 + 1, none⟩) (.inr rfl) _
  have hn : Inn PgRow w lo hi' (us.set k u) ((d.map Bk.pages).set k b.pages) := h3.put k ho hb hh
  have em : ((d.map Bk.pages).set k b.pages) = (d.set k b).map Bk.pages := by rw [List.map_set]
  rw [em] at hn
  refine ⟨us.set k u, ?_, fun g hg => by have := h2 g hg; omega, hn.chg2 hc fun j u' g hu' hb1 hb2 => ?_, fun x hx => ?_⟩
  · rw [List.length_set, ← bc_set d us k b u hl hk]
    exact hst2
  · have hj : j < ((d.set k b).map Bk.pages).length := by rw [← hn.1]; exact (List.getElem?_eq_some_iff.1 hu').1
    have ho' : OP w lo u' ((d.set k b).map Bk.pages)[j] := (hn.2.1 j hj u' hu').1
    exact own_apart ho'.1 h1 (by decide) g hb1 hb2
  · rcases List.mem_or_eq_of_mem_set hx with h | rfl
    · exact h4 x h
    · exact hw

theorem Try.infoPg : (Try.prog.info? 53).map (fun i => (i.zero, i.size, i.bytes)) = some (some (.agg #[.bool false, .int .i64 0, .int .i64 0, .int .i64 0, .int .i64 0]), 5, 40) := by kernel_rfl
theorem Try.infoBk : (Try.prog.info? 44).map (fun i => (i.zero, i.size, i.bytes)) = some (some (.agg #[.int .i64 0, .slice none 0 0]), 2, 32) := by kernel_rfl

theorem pc_rep (n : Nat) : pc (List.replicate n pg0) = (List.replicate n [Value.bool false, .int .i64 0, .int .i64 0, .int .i64 0, .int .i64 0]).flatten := by
  unfold pc
  rw [List.flatMap_def, List.map_replicate]
  rfl
theorem bc_rep (n : Nat) : bc (List.replicate n bk0) (List.replicate n (.slice none 0 0)) = (List.replicate n [Value.int .i64 0, .slice none 0 0]).flatten := by
  induction n with
  | zero => rfl
  | succ n ih => rw [List.replicate_succ, List.replicate_succ, List.replicate_succ, List.flatten_cons, ← ih]; rfl

end Go.Proofs.Ytjmofmdcegefgaa

namespace Go.Proofs.Ytjmofmdcegefgaa
open Go.RowKit

theorem pc_set5 : ∀ (ps : List Pg) (k : Nat) (p : Pg), k < ps.length →
    (((((pc ps).set (k * 5) (.bool p.full)).set (k * 5 + 1) (.int .i64 p.file)).set (k * 5 + 2) (.int .i64 p.place)).set (k * 5 + 3) (.int .i64 p.value)).set (k * 5 + 4) (.int .i64 p.stamp) = pc (ps.set k p)
  | [], k, _, h => by simp at h
  | x :: ps, 0, p, _ => by simp [pc, pgc]
  | x :: ps, k + 1, p, h => by
    have := pc_set5 ps k p (by simpa using h)
    have e : pc (x :: ps) = .bool x.full :: .int .i64 x.file :: .int .i64 x.place :: .int .i64 x.value :: .int .i64 x.stamp :: pc ps := by simp [pc, pgc]
    have e2 : pc ((x :: ps).set (k + 1) p) = .bool x.full :: .int .i64 x.file :: .int .i64 x.place :: .int .i64 x.value :: .int .i64 x.stamp :: pc (ps.set k p) := by simp [pc, pgc]
    rw [e, e2, ← this, show (k + 1) * 5 = k * 5 + 1 + 1 + 1 + 1 + 1 by omega]
    simp
/-- One whole page stored. -/
theorem OP.page {w : World} {lo : Nat} {v : Value} {ps : List Pg} (h : OP w lo v ps) (k : Nat) (hk : k < ps.length) :
    ∃ (g cap : Nat), v = .slice (some ⟨g, 0, none⟩) ps.length cap ∧ ps.length ≤ cap ∧
      ((∃ u, w.cell? ⟨g, k * 5, none⟩ = some u) ∧ (∃ u, w.cell? ⟨g, k * 5 + 1, none⟩ = some u) ∧ (∃ u, w.cell? ⟨g, k * 5 + 2, none⟩ = some u) ∧ (∃ u, w.cell? ⟨g, k * 5 + 3, none⟩ = some u) ∧ ∃ u, w.cell? ⟨g, k * 5 + 4, none⟩ = some u) ∧
      (w.frozen? ⟨g, k * 5, none⟩ = false ∧ w.frozen? ⟨g, k * 5 + 1, none⟩ = false ∧ w.frozen? ⟨g, k * 5 + 2, none⟩ = false ∧ w.frozen? ⟨g, k * 5 + 3, none⟩ = false ∧ w.frozen? ⟨g, k * 5 + 4, none⟩ = false) ∧ (lo ≤ g ∧ g < w.heap.size) ∧
      ∀ p, PgI p → OP (((((w.setCell ⟨g, k * 5, none⟩ (.bool p.full)).setCell ⟨g, k * 5 + 1, none⟩ (.int .i64 p.file)).setCell ⟨g, k * 5 + 2, none⟩ (.int .i64 p.place)).setCell ⟨g, k * 5 + 3, none⟩ (.int .i64 p.value)).setCell ⟨g, k * 5 + 4, none⟩ (.int .i64 p.stamp)) lo v (ps.set k p) := by
  obtain ⟨g, cap, rfl, hb1, hb2, hb3⟩ := own_shape1 h.1 (show 0 < ps.length by omega)
  have hc : ∀ j, j < 5 → ∃ u, w.cell? ⟨g, k * 5 + j, none⟩ = some u := fun j hj => by
    rw [h.1.cellAt _ (by omega), pc_at ps k j hk hj]
    exact ⟨(pgc ps[k])[j]'(by simp [pgc]; omega), by simp [pgc, hj]⟩
  refine ⟨g, cap, rfl, hb3, ⟨hc 0 (by omega), hc 1 (by omega), hc 2 (by omega), hc 3 (by omega), hc 4 (by omega)⟩, ⟨h.1.frozenAt _, h.1.frozenAt _, h.1.frozenAt _, h.1.frozenAt _, h.1.frozenAt _⟩, ⟨hb1, hb2⟩, fun p hp => ?_⟩
  have s0 := (h.1.stored (k * 5) (.bool p.full)).1
  have s1 := (s0.stored (k * 5 + 1) (.int .i64 p.file)).1
  have s2 := (s1.stored (k * 5 + 2) (.int .i64 p.place)).1
  have s3 := (s2.stored (k * 5 + 3) (.int .i64 p.value)).1
  have s4 := (s3.stored (k * 5 + 4) (.int .i64 p.stamp)).1
  rw [pc_set5 ps k p hk] at s4
  refine ⟨by rw [List.length_set]; exact s4, fun q hq => ?_⟩
  rcases List.mem_or_eq_of_mem_set hq with h1 | rfl
  · exact h.2 q h1
  · exact hp
theorem chg5 {S : Nat → Prop} {w0 w : World} (h : Chg S w0 w) {g : Nat} (hg : w0.heap.size ≤ g ∨ S g) (o0 o1 o2 o3 o4 : Nat) (u0 u1 u2 u3 u4 : Value) :
    Chg S w0 (((((w.setCell ⟨g, o0, none⟩ u0).setCell ⟨g, o1, none⟩ u1).setCell ⟨g, o2, none⟩ u2).setCell ⟨g, o3, none⟩ u3).setCell ⟨g, o4, none⟩ u4) :=
  ((((h.setCell (p := ⟨g, o0, none⟩) hg _).setCell (p := ⟨g, o1, none⟩) hg _).setCell (p := ⟨g, o2, none⟩) hg _).setCell (p := ⟨g, o3, none⟩) hg _).setCell (p := ⟨g, o4, none⟩) hg _

/-- The first k, then z. -/
def padG {α : Type} (z : α) (xs : List α) (k : Nat) : List α := xs.take k ++ List.replicate (xs.length - k) z
theorem padG_len {α : Type} (z : α) (xs : List α) (k : Nat) (hk : k ≤ xs.length) : (padG z xs k).length = xs.length := by simp [padG]; omega
theorem padG_zero {α : Type} (z : α) (xs : List α) : padG z xs 0 = List.replicate xs.length z := by simp [padG]
theorem padG_all {α : Type} (z : α) (xs : List α) (k : Nat) (hk : ¬ k < xs.length) : padG z xs k = xs := by
  rw [padG, List.take_of_length_le (by omega), show xs.length - k = 0 by omega]; simp
theorem padG_set {α : Type} (z : α) (xs : List α) (k : Nat) (hk : k < xs.length) : (padG z xs k).set k xs[k] = padG z xs (k + 1) := by
  unfold padG
  rw [List.set_append_right _ _ (by simp; omega), List.take_succ_eq_append_getElem hk]
  have e : k - (xs.take k).length = 0 := by simp; omega
  rw [e, show xs.length - k = (xs.length - (k + 1)) + 1 by omega, List.replicate_succ, List.set_cons_zero, List.append_assoc]
  rfl

theorem made_pages (n : Nat) : (madeCells #[Value.bool false, .int .i64 0, .int .i64 0, .int .i64 0, .int .i64 0] (n * 5)).toList = pc (List.replicate n pg0) := by
  apply List.ext_getElem?
  intro j
  by_cases hj : j < n * 5
  · have hk : j / 5 < (List.replicate n pg0).length := by rw [List.length_replicate]; omega
    have := pc_at (List.replicate n pg0) (j / 5) (j % 5) hk (by omega)
    rw [show j / 5 * 5 + j % 5 = j by omega, List.getElem_replicate] at this
    rw [this]
    have h5 : j % 5 = 0 ∨ j % 5 = 1 ∨ j % 5 = 2 ∨ j % 5 = 3 ∨ j % 5 = 4 := by omega
    rcases h5 with h | h | h | h | h
    all_goals simp [madeCells, hj, h, pgc, pg0]
  · rw [List.getElem?_eq_none (by simp [madeCells]; omega), List.getElem?_eq_none (by rw [pc_len, List.length_replicate]; omega)]
theorem made_blocks (n : Nat) : (madeCells #[Value.int .i64 0, .slice none 0 0] (n * 2)).toList = bc (List.replicate n bk0) (List.replicate n (.slice none 0 0)) := by
  apply List.ext_getElem?
  intro j
  by_cases hj : j < n * 2
  · have hk : j / 2 < (List.replicate n bk0).length := by rw [List.length_replicate]; omega
    obtain ⟨e1, e2⟩ := bc_at (List.replicate n bk0) (List.replicate n (.slice none 0 0)) (j / 2) hk (by simp)
    have h2 : j % 2 = 0 ∨ j % 2 = 1 := by omega
    rcases h2 with h | h
    · rw [show j / 2 * 2 = j by omega, List.getElem_replicate] at e1
      rw [e1]
      simp [madeCells, hj, h, bk0]
    · rw [show j / 2 * 2 + 1 = j by omega, List.getElem?_replicate, if_pos (by omega)] at e2
      rw [e2]
      simp [madeCells, hj, h]
  · rw [List.getElem?_eq_none (by simp [madeCells]; omega), List.getElem?_eq_none (by rw [bc_len _ _ (by simp), List.length_replicate]; omega)]

/-- 'make([]Page, n)'. -/
theorem mk_pages {w : World} {ops : Array Oper} {rest : List Oper} {o : Oper} {a : Act} {Q : Exit → Act → World → Prop} (hgd : o.guard = none) (l c : Operand)
    (hop : o.op = Op.makeSlice 42 l c) (n : Nat) (hl : a.eval l = .int .i64 n) (hc : a.eval c = .int .i64 n) (hn : n ≤ 1000000000000)
    (hK : ∀ w', OP w' w.heap.size (.slice (some ⟨w.heap.size, 0, none⟩) n n) (List.replicate n pg0) → Below w.heap.size w w' → wpList Try.prog ops Q rest (a.put o.dst (.slice (some ⟨w.heap.size, 0, none⟩) n n)) w') :
    wpList Try.prog ops Q (o :: rest) a w := by
  obtain ⟨i0, hi0, hz0, hz1, hz2⟩ := info_parts Try.infoPg
  refine wpList_make_full w hgd l c 42 hop w.heap.size 53 i0 (.agg #[.bool false, .int .i64 0, .int .i64 0, .int .i64 0, .int .i64 0]) 5 Try.underlying42 hi0 hz0 hz1 .i64 .i64 n n n hl hc rfl rfl (by rw [hz2]; omega) (by simp [maxLen]; omega) (Nat.le_refl _) fun w' h1 h2 => ?_
  refine hK w' ⟨?_, fun p hp => by rw [List.eq_of_mem_replicate hp]; exact pg0_i⟩ ((Below.refl _ _).grown h2 (Nat.le_refl _) (by simp))
  rw [List.length_replicate, ← made_pages]
  exact h1
/-- 'make([]Block, n)'. -/
theorem mk_blocks {w : World} {ops : Array Oper} {rest : List Oper} {o : Oper} {a : Act} {Q : Exit → Act → World → Prop} (hgd : o.guard = none) (l c : Operand)
    (hop : o.op = Op.makeSlice 23 l c) (n : Nat) (hl : a.eval l = .int .i64 n) (hc : a.eval c = .int .i64 n) (hn : n ≤ 1000000000000)
    (hK : ∀ w', OD w' w.heap.size w'.heap.size (.slice (some ⟨w.heap.size, 0, none⟩) n n) (List.replicate n bk0) → Below w.heap.size w w' → wpList Try.prog ops Q rest (a.put o.dst (.slice (some ⟨w.heap.size, 0, none⟩) n n)) w') :
    wpList Try.prog ops Q (o :: rest) a w := by
  obtain ⟨i0, hi0, hz0, hz1, hz2⟩ := info_parts Try.infoBk
  refine wpList_make_full w hgd l c 23 hop w.heap.size 44 i0 (.agg #[.int .i64 0, .slice none 0 0]) 2 Try.underlying23 hi0 hz0 hz1 .i64 .i64 n n n hl hc rfl rfl (by rw [hz2]; omega) (by simp [maxLen]; omega) (Nat.le_refl _) fun w' h1 h2 => ?_
  refine hK w' ⟨List.replicate n (.slice none 0 0), ?_, fun b hb => (h1.lt b hb).2, ?_, fun b hb => by rw [List.eq_of_mem_replicate hb]; simp [bk0, I64]⟩ ((Below.refl _ _).grown h2 (Nat.le_refl _) (by simp))
  · rw [List.length_replicate, ← made_blocks]
    exact h1
  · refine ⟨by simp, fun k hk u hu => ?_, fun j k u u' _ hu _ b hb => ?_⟩
    · have hk2 : k < n := by simpa using hk
      have hu' : u = .slice none 0 0 := by simpa [List.getElem?_replicate, hk2] using hu.symm
      subst hu'
      refine ⟨?_, fun b hb => by simp [Value.ownBlock] at hb⟩
      have e : (List.map Bk.pages (List.replicate n bk0))[k] = [] := by simp [bk0]
      rw [e]
      exact op_nil _ _
    · have hjn : j < n := by simpa using (List.getElem?_eq_some_iff.1 hu).1
      have hu' : u = .slice none 0 0 := by simpa [List.getElem?_replicate, hjn] using hu.symm
      subst hu'
      simp [Value.ownBlock] at hb


def NewP (ps : List Pg) (w : World) (e : Ending) (w' : World) : Prop := ∃ v, e = .returned v ∧ OP w' w.heap.size v ps ∧ Below w.heap.size w w'
def NewD (d : List Bk) (w : World) (e : Ending) (w' : World) : Prop := ∃ v, e = .returned v ∧ OD w' w.heap.size w'.heap.size v d ∧ Below w.heap.size w w'


theorem RB1.mk'' {w : World} {lo hi : Nat} {s : Value} {b : Bk} (hp : RP w lo hi s b.pages) (hw : I64 b.wear) : RB1 w lo hi (.agg #[.int .i64 b.wear, s]) b := ⟨_, rfl, hw, hp⟩

theorem NewD.put {w wr w2 : World} {n : Nat} {d : List Bk} (k : Nat) (hk : k < d.length) (b : Bk) (h : OD wr w.heap.size wr.heap.size (.slice (some ⟨w.heap.size, 0, none⟩) d.length n) d) (u : Value) (o : OP w2 wr.heap.size u b.pages) (b2 : Below wr.heap.size wr w2) (hw : I64 b.wear) (hz : w.heap.size ≤ wr.heap.size) :
    ((∃ u, w2.cell? ⟨w.heap.size, k * 2, none⟩ = some u) ∧ ∃ u, w2.cell? ⟨w.heap.size, k * 2 + 1, none⟩ = some u) ∧ (w2.frozen? ⟨w.heap.size, k * 2, none⟩ = false ∧ w2.frozen? ⟨w.heap.size, k * 2 + 1, none⟩ = false) ∧
      OD ((w2.setCell ⟨w.heap.size, k * 2, none⟩ (.int .i64 b.wear)).setCell ⟨w.heap.size, k * 2 + 1, none⟩ u) w.heap.size ((w2.setCell ⟨w.heap.size, k * 2, none⟩ (.int .i64 b.wear)).setCell ⟨w.heap.size, k * 2 + 1, none⟩ u).heap.size (.slice (some ⟨w.heap.size, 0, none⟩) d.length n) (d.set k b) ∧
      Below w.heap.size w2 ((w2.setCell ⟨w.heap.size, k * 2, none⟩ (.int .i64 b.wear)).setCell ⟨w.heap.size, k * 2 + 1, none⟩ u) := by
  obtain ⟨g, cap, he, -, x, y, -, hput⟩ := (h.below b2).put (hi' := w2.heap.size) k hk
  simp only [Value.slice.injEq, Option.some.injEq, Addr.mk.injEq, and_true, true_and] at he
  obtain ⟨rfl, rfl⟩ := he
  have hp := hput u b (o.wide hz) hw (fun g hg => o.lt g hg) b2.size
  exact ⟨x, y, hp.mono (by simp [World.setCell]), ((Below.refl _ w2).setCell (p := ⟨w.heap.size, k * 2, none⟩) (Nat.le_refl _) _).setCell (p := ⟨w.heap.size, k * 2 + 1, none⟩) (Nat.le_refl _) _⟩

/-- How much a device weighs. -/
def dsz (d : List Bk) : Nat := d.length + (d.map fun b => b.pages.length).sum
theorem dsz_row {d : List Bk} (h : dsz d ≤ 1048576) : d.length ≤ 1048576 ∧ ∀ k (hk : k < d.length), d[k].pages.length ≤ 1048576 := by
  unfold dsz at h
  refine ⟨by omega, fun k hk => ?_⟩
  have : ∀ (l : List Nat) k (hk : k < l.length), l[k] ≤ l.sum := by
    intro l
    induction l with
    | nil => intro k hk; simp at hk
    | cons a l ih =>
      intro k hk
      cases k with
      | zero => simp
      | succ k => have := ih k (by simpa using hk); simp only [List.getElem_cons_succ, List.sum_cons]; omega
  have := this (d.map fun b => b.pages.length) k (by simpa using hk)
  simp only [List.getElem_map] at this
  omega


end Go.Proofs.Ytjmofmdcegefgaa

namespace Go.Proofs.Ytjmofmdcegefgaa
open Go.RowKit

theorem tat_tset {t : List (List Int)} (h8 : t.length = 8) (h6 : ∀ l ∈ t, l.length = 6) {f p f' p' : Nat} (hf : f < 8) (hp : p < 6) (hf' : f' < 8) (hp' : p' < 6) (x : Int) :
    tat (tset t f p x) f' p' = if f = f' ∧ p = p' then x else tat t f' p' := by
  have l1 : f < t.length := by omega
  have l2 : f' < t.length := by omega
  have k1 : t[f].length = 6 := h6 _ (List.getElem_mem l1)
  have k2 : t[f'].length = 6 := h6 _ (List.getElem_mem l2)
  rw [tset_eq l1]
  by_cases e : f = f'
  · subst e
    unfold tat
    rw [getD_at (by rw [List.length_set]; exact l1), List.getElem_set_self, getD_at l1]
    by_cases e2 : p = p'
    · subst e2
      simp [k1, hp]
    · rw [if_neg (by omega)]
      simp [List.getD_eq_getElem?_getD, List.getElem?_set_ne e2]
  · rw [if_neg (by omega)]
    unfold tat
    rw [getD_at (by rw [List.length_set]; exact l2), List.getElem_set_ne e, getD_at l2]

/-- One page more. -/
def tstep (d : List Bk) (t : List (List Int)) (n : Nat) : List (List Int) :=
  if (dat d n).full = true ∧ (tat t (dat d n).file.toNat (dat d n).place.toNat < 0 ∨ (dat d (tat t (dat d n).file.toNat (dat d n).place.toNat).toNat).stamp < (dat d n).stamp)
  then tset t (dat d n).file.toNat (dat d n).place.toNat n else t
def tofN (d : List Bk) : Nat → List (List Int)
  | 0 => T0 8
  | n + 1 => tstep d (tofN d n) n
def tof (d : List Bk) : List (List Int) := if dvOk d = true then tofN d (4 * d.length) else []

/-- What holds of the table behind n pages. -/
structure TofI (d : List Bk) (n : Nat) (t : List (List Int)) : Prop where
  len : t.length = 8
  row : ∀ l ∈ t, l.length = 6
  ent : ∀ f p : Nat, f < 8 → p < 6 → tat t f p = -1 ∨ ∃ m : Nat, m < n ∧ tat t f p = m ∧ (dat d m).full = true ∧ (dat d m).file = f ∧ (dat d m).place = p
  new : ∀ m : Nat, m < n → (dat d m).full = true → ∃ m' : Nat, m' < n ∧ tat t (dat d m).file.toNat (dat d m).place.toNat = m' ∧ (dat d m).stamp ≤ (dat d m').stamp

theorem T0_at {f p : Nat} (hf : f < 8) (hp : p < 6) : tat (T0 8) f p = -1 := by
  have h1 : f < (T0 8).length := by simpa [T0] using hf
  have h2 : (T0 8)[f] = R6 := by simp only [T0, List.getElem_replicate]
  unfold tat
  rw [getD_at h1, h2]
  simp only [R6, List.getD_eq_getElem?_getD, List.getElem?_replicate, hp, if_true, Option.getD_some]

theorem TofI.zero (d : List Bk) : TofI d 0 (T0 8) where
  len := by simp [T0]
  row := fun l hl => by simp [T0] at hl; simp [hl, R6]
  ent := fun f p hf hp => .inl (T0_at hf hp)
  new := fun m hm => absurd hm (Nat.not_lt_zero m)

theorem TofI.step {d : List Bk} (hv : dvOk d = true) {n : Nat} {t : List (List Int)} (hn : n < 4 * d.length) (h : TofI d n t) : TofI d (n + 1) (tstep d t n) := by
  have hok := dat_ok hv hn
  unfold tstep
  by_cases hf : (dat d n).full = true
  · obtain ⟨⟨f0, f1⟩, ⟨p0, p1⟩, -, -⟩ := pgOk_full hok hf
    obtain ⟨f, hfe⟩ := Int.eq_ofNat_of_zero_le f0
    obtain ⟨p, hpe⟩ := Int.eq_ofNat_of_zero_le p0
    rw [hfe] at f1
    rw [hpe] at p1
    rw [hfe, hpe]
    simp only [Int.toNat_natCast]
    by_cases hc : tat t f p < 0 ∨ (dat d (tat t f p).toNat).stamp < (dat d n).stamp
    · rw [if_pos ⟨hf, hc⟩]
      refine ⟨by rw [tset_len]; exact h.len, tset_rows h.row _, fun f' p' hf' hp' => ?_, fun m hm hmf => ?_⟩
      · rw [tat_tset h.len h.row (by omega) (by omega) hf' hp']
        by_cases e : f = f' ∧ p = p'
        · rw [if_pos e]
          exact .inr ⟨n, by omega, rfl, hf, by rw [hfe, e.1], by rw [hpe, e.2]⟩
        · rw [if_neg e]
          rcases h.ent f' p' hf' hp' with h1 | ⟨m, h1, h2⟩
          · exact .inl h1
          · exact .inr ⟨m, by omega, h2⟩
      · by_cases hmn : m = n
        · subst hmn
          refine ⟨m, by omega, ?_, Int.le_refl _⟩
          rw [hfe, hpe]
          simp only [Int.toNat_natCast]
          rw [tat_tset h.len h.row (by omega) (by omega) (by omega) (by omega), if_pos ⟨rfl, rfl⟩]
        · have hm' : m < n := by omega
          obtain ⟨⟨g0, g1⟩, ⟨q0, q1⟩, -, -⟩ := pgOk_full (dat_ok hv (n := m) (by omega)) hmf
          obtain ⟨m', a1, a2, a3⟩ := h.new m hm' hmf
          rw [tat_tset h.len h.row (by omega) (by omega) (by omega) (by omega)]
          by_cases e : f = (dat d m).file.toNat ∧ p = (dat d m).place.toNat
          · rw [if_pos e]
            refine ⟨n, by omega, rfl, ?_⟩
            rw [← e.1, ← e.2] at a2
            rw [a2] at hc
            rcases hc with hc | hc
            · omega
            · simp only [Int.toNat_natCast] at hc; omega
          · rw [if_neg e]
            exact ⟨m', by omega, a2, a3⟩
    · rw [if_neg (fun x => hc x.2)]
      have hc1 : 0 ≤ tat t f p := by have := fun x => hc (.inl x); omega
      have hc2 : (dat d n).stamp ≤ (dat d (tat t f p).toNat).stamp := by have := fun x => hc (.inr x); omega
      refine ⟨h.len, h.row, fun f' p' hf' hp' => ?_, fun m hm hmf => ?_⟩
      · rcases h.ent f' p' hf' hp' with h1 | ⟨m, h1, h2⟩
        · exact .inl h1
        · exact .inr ⟨m, by omega, h2⟩
      · by_cases hmn : m = n
        · subst hmn
          rw [hfe, hpe]
          simp only [Int.toNat_natCast]
          rcases h.ent f p (by omega) (by omega) with h1 | ⟨m', h1, h2, -⟩
          · omega
          · exact ⟨m', by omega, h2, by rw [h2] at hc2; simpa using hc2⟩
        · obtain ⟨m', a1, a2, a3⟩ := h.new m (by omega) hmf
          exact ⟨m', by omega, a2, a3⟩
  · rw [if_neg (fun x => hf x.1)]
    refine ⟨h.len, h.row, fun f' p' hf' hp' => ?_, fun m hm hmf => ?_⟩
    · rcases h.ent f' p' hf' hp' with h1 | ⟨m, h1, h2⟩
      · exact .inl h1
      · exact .inr ⟨m, by omega, h2⟩
    · have hmn : m ≠ n := fun e => hf (e ▸ hmf)
      obtain ⟨m', a1, a2, a3⟩ := h.new m (by omega) hmf
      exact ⟨m', by omega, a2, a3⟩

theorem tofI {d : List Bk} (hv : dvOk d = true) : ∀ n, n ≤ 4 * d.length → TofI d n (tofN d n)
  | 0, _ => TofI.zero d
  | n + 1, hn => (tofI hv n (by omega)).step hv (by omega)

/-- An entry in a table with rows of six, by its place in the flat list. -/
theorem flat_at {t : List (List Int)} (h8 : t.length = 8) (h6 : ∀ l ∈ t, l.length = 6) {i : Nat} (hi : i < t.flatten.length) : i / 6 < 8 ∧ t.flatten[i] = tat t (i / 6) (i % 6) := by
  have hl : t.flatten.length = 48 := by rw [flat_len h6]; omega
  have hk : i / 6 < t.length := by omega
  have hr : t[i / 6].length = 6 := h6 _ (List.getElem_mem hk)
  have hm : i % 6 < t[i / 6].length := by omega
  have := flat_get h6 hk hm
  rw [show i / 6 * 6 + i % 6 = i by omega, List.getElem?_eq_getElem hi] at this
  exact ⟨by omega, by rw [tat_eq hk hm]; exact Option.some.inj this⟩

theorem TofI.val {d : List Bk} (hv : dvOk d = true) {n : Nat} {t : List (List Int)} (hn : n ≤ 4 * d.length) (h : TofI d n t) : tabVal t = true := by
  have hl := dv_len hv
  refine tabVal_iff.2 ⟨h.len, h.row, okP_iff.2 ⟨fun x hx => ?_, ?_⟩⟩
  · obtain ⟨i, hi, rfl⟩ := List.getElem_of_mem hx
    obtain ⟨a1, a2⟩ := flat_at h.len h.row hi
    rw [a2]
    rcases h.ent (i / 6) (i % 6) a1 (by omega) with h1 | ⟨m, h1, h2, -⟩ <;> omega
  · rw [List.pairwise_iff_getElem]
    rintro i j hi hj hij ⟨h0, he⟩
    obtain ⟨a1, a2⟩ := flat_at h.len h.row hi
    obtain ⟨b1, b2⟩ := flat_at h.len h.row hj
    rw [a2] at h0 he
    rw [b2] at he
    rcases h.ent (i / 6) (i % 6) a1 (by omega) with h1 | ⟨m, h1, h2, -, h3, h4⟩
    · omega
    · rcases h.ent (j / 6) (j % 6) b1 (by omega) with g1 | ⟨m', g1, g2, -, g3, g4⟩
      · omega
      · have e : m = m' := by omega
        subst e
        omega
theorem tof_val {d : List Bk} (hv : dvOk d = true) : tabVal (tof d) = true := by
  unfold tof
  rw [if_pos hv]
  exact (tofI hv _ (Nat.le_refl _)).val hv (Nat.le_refl _)
theorem tof_bad {d : List Bk} (hv : dvOk d = false) : tof d = [] := by unfold tof; rw [if_neg (by rw [hv]; simp)]
theorem tof_ent {d : List Bk} (hv : dvOk d = true) {f p : Nat} (hf : f < 8) (hp : p < 6) : tat (tof d) f p = -1 ∨ ∃ m : Nat, m < 4 * d.length ∧ tat (tof d) f p = m ∧ (dat d m).full = true ∧ (dat d m).file = f ∧ (dat d m).place = p := by
  unfold tof
  rw [if_pos hv]
  exact (tofI hv _ (Nat.le_refl _)).ent f p hf hp
theorem tof_new {d : List Bk} (hv : dvOk d = true) {m : Nat} (hm : m < 4 * d.length) (hf : (dat d m).full = true) : ∃ m' : Nat, m' < 4 * d.length ∧ tat (tof d) (dat d m).file.toNat (dat d m).place.toNat = m' ∧ (dat d m).stamp ≤ (dat d m').stamp := by
  unfold tof
  rw [if_pos hv]
  exact (tofI hv _ (Nat.le_refl _)).new m hm hf

end Go.Proofs.Ytjmofmdcegefgaa

