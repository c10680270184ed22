/-
  The plain law of devices: pages, blocks, devices, heads; no program in sight.
-/
import Derived.Test.YtpfekeflkmafcaaTbc
namespace Go.Proofs.Ytpfekeflkmafcaa
open Go.RowKit

/-- A page. -/
structure Pg where
  full : Bool
  file : Int
  place : Int
  value : Int
  stamp : Int
/-- A block. -/
structure Bk where
  wear : Int
  pages : List Pg
def pg0 : Pg := ⟨false, 0, 0, 0, 0⟩
def bk0 : Bk := ⟨0, []⟩
instance : Inhabited Pg := ⟨pg0⟩
instance : Inhabited Bk := ⟨bk0⟩

def pgOk (p : Pg) : Bool := if p.full = true then inB p.file 0 7 && inB p.place 0 5 && inB p.value 0 9999 && inB p.stamp 1 1000000 else p.file == 0 && p.place == 0 && p.value == 0 && p.stamp == 0
theorem pgOk_full {p : Pg} (h : pgOk p = true) (hf : p.full = true) : (0 ≤ p.file ∧ p.file ≤ 7) ∧ (0 ≤ p.place ∧ p.place ≤ 5) ∧ (0 ≤ p.value ∧ p.value ≤ 9999) ∧ (1 ≤ p.stamp ∧ p.stamp ≤ 1000000) := by
  unfold pgOk at h
  rw [if_pos hf] at h
  simp only [Bool.and_eq_true, inB_iff] at h
  exact ⟨h.1.1.1, h.1.1.2, h.1.2, h.2⟩
theorem pgOk_empty {p : Pg} (h : pgOk p = true) (hf : p.full = false) : p = pg0 := by
  unfold pgOk at h
  rw [if_neg (by rw [hf]; decide)] at h
  simp only [Bool.and_eq_true, beq_iff_eq] at h
  cases p
  simp_all [pg0]
theorem pgOk_pg0 : pgOk pg0 = true := by decide
theorem pgOk_value {p : Pg} (h : pgOk p = true) : 0 ≤ p.value ∧ p.value ≤ 9999 := by
  cases hf : p.full with
  | false => rw [pgOk_empty h hf]; decide
  | true => exact (pgOk_full h hf).2.2.1
theorem pgOk_stamp {p : Pg} (h : pgOk p = true) : 0 ≤ p.stamp ∧ p.stamp ≤ 1000000 := by
  cases hf : p.full with
  | false => rw [pgOk_empty h hf]; decide
  | true => have := (pgOk_full h hf).2.2.2; omega

/-- The page at k is valid, and no full one behind an empty one. -/
def pgAt (l : List Pg) (k : Nat) : Bool := pgOk (l.getD k pg0) && (decide (k = 0) || !(l.getD k pg0).full || (l.getD (k - 1) pg0).full)
def pgsUp (l : List Pg) (k : Nat) : Bool := (List.range k).all (pgAt l)
theorem pgsUp_zero (l : List Pg) : pgsUp l 0 = true := rfl
theorem pgsUp_succ (l : List Pg) (k : Nat) : pgsUp l (k + 1) = (pgsUp l k && pgAt l k) := by simp [pgsUp, List.range_succ]
theorem pgsUp_at {l : List Pg} {n k : Nat} (h : pgsUp l n = true) (hk : k < n) : pgAt l k = true := by
  simp only [pgsUp, List.all_eq_true, List.mem_range] at h
  exact h k hk
theorem pgsUp_no {l : List Pg} {n k : Nat} (h : pgAt l k = false) (hk : k < n) : pgsUp l n = false := by
  cases hv : pgsUp l n with
  | false => rfl
  | true => rw [pgsUp_at hv hk] at h; exact h
def bkOk (b : Bk) : Bool := inB b.wear 0 100 && decide (b.pages.length = 4) && pgsUp b.pages b.pages.length
theorem bkOk_iff {b : Bk} : bkOk b = true ↔ (0 ≤ b.wear ∧ b.wear ≤ 100) ∧ b.pages.length = 4 ∧ pgsUp b.pages b.pages.length = true := by
  simp only [bkOk, Bool.and_eq_true, inB_iff, decide_eq_true_eq, and_assoc]
theorem bk_page {b : Bk} (h : bkOk b = true) {k : Nat} (hk : k < b.pages.length) : pgOk b.pages[k] = true := by
  have := pgsUp_at (bkOk_iff.1 h).2.2 hk
  simp only [pgAt, Bool.and_eq_true] at this
  simpa [hk] using this.1
theorem bk_down {b : Bk} (h : bkOk b = true) {k : Nat} (hk : k < b.pages.length) (h0 : 0 < k) (hf : b.pages[k].full = true) : (b.pages[k - 1]'(by omega)).full = true := by
  have := pgsUp_at (bkOk_iff.1 h).2.2 hk
  have hk' : k - 1 < b.pages.length := by omega
  have hk0 : decide (k = 0) = false := by simp; omega
  simp only [pgAt, Bool.and_eq_true, hk0, Bool.false_or, Bool.or_eq_true, Bool.not_eq_true'] at this
  simp [hk, hk'] at this
  rcases this.2 with h1 | h1
  · rw [hf] at h1; cases h1
  · exact h1

def dvOk (d : List Bk) : Bool := decide (1 ≤ d.length) && decide (d.length ≤ 12) && d.all bkOk
theorem dvOk_iff {d : List Bk} : dvOk d = true ↔ 1 ≤ d.length ∧ d.length ≤ 12 ∧ ∀ b ∈ d, bkOk b = true := by
  simp only [dvOk, Bool.and_eq_true, decide_eq_true_eq, List.all_eq_true, and_assoc]
theorem dv_blk {d : List Bk} (h : dvOk d = true) {k : Nat} (hk : k < d.length) : bkOk d[k] = true := (dvOk_iff.1 h).2.2 _ (List.getElem_mem hk)
theorem dv_len {d : List Bk} (h : dvOk d = true) : 1 ≤ d.length ∧ d.length ≤ 12 := ⟨(dvOk_iff.1 h).1, (dvOk_iff.1 h).2.1⟩
theorem dv_len4 {d : List Bk} (h : dvOk d = true) {k : Nat} (hk : k < d.length) : d[k].pages.length = 4 := (bkOk_iff.1 (dv_blk h hk)).2.1
theorem dv_no_len {d : List Bk} (h : d.length < 1 ∨ 12 < d.length) : dvOk d = false := by
  cases hv : dvOk d with
  | false => rfl
  | true => have := dv_len hv; omega
theorem dv_no {d : List Bk} {k : Nat} (hk : k < d.length) (h : bkOk d[k] = false) : dvOk d = false := by
  cases hv : dvOk d with
  | false => rfl
  | true => rw [dv_blk hv hk] at h; cases h

/-- The page with a number. -/
def dat (d : List Bk) (n : Nat) : Pg := (d.getD (n / 4) bk0).pages.getD (n % 4) pg0
theorem dat_eq {d : List Bk} {k j : Nat} (hk : k < d.length) (hj : j < d[k].pages.length) (h4 : d[k].pages.length = 4) : dat d (k * 4 + j) = d[k].pages[j] := by
  have e1 : (k * 4 + j) / 4 = k := by omega
  have e2 : (k * 4 + j) % 4 = j := by omega
  unfold dat
  rw [e1, e2]
  simp [hk, hj]
theorem dat_at {d : List Bk} (h : dvOk d = true) {n : Nat} (hn : n < 4 * d.length) : ∃ (hk : n / 4 < d.length) (hj : n % 4 < d[n / 4].pages.length), dat d n = d[n / 4].pages[n % 4] := by
  have hk : n / 4 < d.length := by omega
  have hj : n % 4 < d[n / 4].pages.length := by rw [dv_len4 h hk]; omega
  refine ⟨hk, hj, ?_⟩
  unfold dat
  simp [hk, hj]
theorem dat_ok {d : List Bk} (h : dvOk d = true) {n : Nat} (hn : n < 4 * d.length) : pgOk (dat d n) = true := by
  obtain ⟨hk, hj, e⟩ := dat_at h hn
  rw [e]
  exact bk_page (dv_blk h hk) hj

def inN (d : List Bk) (n : Int) : Bool := decide (0 ≤ n) && decide (n < 4 * (d.length : Int))
def rdp (d : List Bk) (n : Int) : Pg × Bool := if dvOk d = true ∧ 0 ≤ n ∧ n < 4 * (d.length : Int) then (dat d n.toNat, (dat d n.toNat).full) else (pg0, false)
theorem rdp_in {d : List Bk} (h : dvOk d = true) {n : Nat} (hn : n < 4 * d.length) : rdp d n = (dat d n, (dat d n).full) := by
  unfold rdp
  rw [if_pos ⟨h, by omega, by omega⟩]
  rfl
theorem rdp_out {d : List Bk} {n : Int} (h : dvOk d = false ∨ n < 0 ∨ 4 * (d.length : Int) ≤ n) : rdp d n = (pg0, false) := by
  unfold rdp
  rw [if_neg]
  rintro ⟨h1, h2, h3⟩
  rcases h with h | h | h
  · rw [h1] at h; cases h
  · omega
  · omega
theorem rdp_value {d : List Bk} {n : Int} : I64 (rdp d n).1.value ∧ I64 (rdp d n).1.file ∧ I64 (rdp d n).1.place ∧ I64 (rdp d n).1.stamp := by
  by_cases h : dvOk d = true ∧ 0 ≤ n ∧ n < 4 * (d.length : Int)
  · unfold rdp
    rw [if_pos h]
    have h4 := dat_ok h.1 (n := n.toNat) (by omega)
    cases hf : (dat d n.toNat).full with
    | false => rw [pgOk_empty h4 hf]; simp [pg0, I64]
    | true =>
      have := pgOk_full h4 hf
      simp only [I64]
      omega
  · unfold rdp
    rw [if_neg h]
    simp [pg0, I64]

/-- The first free page of a block. -/
def nxt (l : List Pg) : Nat := l.findIdx fun p => !p.full
def bnext (b : Bk) : Int := if bkOk b = true ∧ nxt b.pages < b.pages.length then nxt b.pages else -1
theorem nxt_le (l : List Pg) : nxt l ≤ l.length := List.findIdx_le_length
theorem bnext_le (b : Bk) : -1 ≤ bnext b ∧ bnext b ≤ 3 := by
  unfold bnext
  split
  · rename_i h
    have := (bkOk_iff.1 h.1).2.1
    omega
  · omega
theorem bnext_no {b : Bk} (h : bkOk b = false) : bnext b = -1 := by unfold bnext; rw [if_neg (by rw [h]; simp)]
theorem bnext_at {b : Bk} (h : bkOk b = true) {k : Nat} (hk : k < b.pages.length) (h1 : ∀ j (hj : j < k), (b.pages[j]'(by omega)).full = true) (h2 : b.pages[k].full = false) : bnext b = k := by
  have e : nxt b.pages = k := by
    unfold nxt
    rw [List.findIdx_eq hk]
    exact ⟨by simp [h2], fun j hj => by simp [h1 j hj]⟩
  unfold bnext
  rw [e, if_pos ⟨h, hk⟩]
theorem bnext_full {b : Bk} (h1 : ∀ j (hj : j < b.pages.length), b.pages[j].full = true) : bnext b = -1 := by
  have e : nxt b.pages = b.pages.length := by
    unfold nxt
    rw [List.findIdx_eq_length]
    intro p hp
    obtain ⟨j, hj, rfl⟩ := List.getElem_of_mem hp
    simp [h1 j hj]
  unfold bnext
  rw [e, if_neg (by omega)]

/-- How many pages are full. -/
def nfull (l : List Pg) : Nat := l.countP fun p => p.full
def nfree (l : List Pg) : Nat := l.countP fun p => !p.full
theorem nfull_add (l : List Pg) : nfull l + nfree l = l.length := by
  unfold nfull nfree
  rw [List.length_eq_countP_add_countP (fun p : Pg => p.full)]
  congr 1
  exact List.countP_congr fun x _ => by simp
theorem nfull_nil : nfull [] = 0 := rfl
theorem nfull_snoc (l : List Pg) (p : Pg) : nfull (l ++ [p]) = nfull l + p.full.toNat := by
  unfold nfull; rw [List.countP_append]; cases h : p.full <;> simp [h]
theorem nfree_snoc (l : List Pg) (p : Pg) : nfree (l ++ [p]) = nfree l + (!p.full).toNat := by
  unfold nfree; rw [List.countP_append]; cases h : p.full <;> simp [h]
theorem nfull_take {l : List Pg} {k : Nat} (hk : k < l.length) : nfull (l.take (k + 1)) = nfull (l.take k) + l[k].full.toNat := by
  rw [List.take_succ_eq_append_getElem hk, nfull_snoc]
theorem nfull_le (l : List Pg) : nfull l ≤ l.length := List.countP_le_length
theorem nfull_all {b : Bk} (h : bkOk b = true) : nfull b.pages = 4 ↔ bnext b = -1 := by
  have h4 := (bkOk_iff.1 h).2.1
  constructor
  · intro h1
    refine bnext_full fun j hj => ?_
    have : nfull b.pages = b.pages.length := by omega
    exact List.countP_eq_length.1 this _ (List.getElem_mem hj)
  · intro h1
    rw [← h4]
    refine List.countP_eq_length.2 fun p hp => ?_
    unfold bnext at h1
    have hn : ¬ nxt b.pages < b.pages.length := fun hl => by rw [if_pos ⟨h, hl⟩] at h1; omega
    have e : nxt b.pages = b.pages.length := by have := nxt_le b.pages; omega
    have := List.findIdx_eq_length.1 e p hp
    simpa using this

/-- All pages of a device. -/
def dpg (d : List Bk) : List Pg := d.flatMap Bk.pages
theorem dpg_len {d : List Bk} (h : ∀ b ∈ d, b.pages.length = 4) : (dpg d).length = 4 * d.length := by
  induction d with
  | nil => rfl
  | cons b d ih =>
    unfold dpg at ih ⊢
    rw [List.flatMap_cons, List.length_append, h b (by simp), ih (fun x hx => h x (by simp [hx])), List.length_cons]; omega
theorem dpg_get {d : List Bk} (h : ∀ b ∈ d, b.pages.length = 4) {n : Nat} (hn : n < 4 * d.length) : (dpg d)[n]? = some (dat d n) := by
  induction d generalizing n with
  | nil => simp at hn
  | cons b d ih =>
    have hb := h b (by simp)
    unfold dpg at ih ⊢
    rw [List.flatMap_cons]
    rcases Nat.lt_or_ge n 4 with h4 | h4
    · rw [List.getElem?_append_left (by omega)]
      have e1 : n / 4 = 0 := by omega
      have e2 : n % 4 = n := by omega
      unfold dat
      rw [e1, e2]
      have hl : n < b.pages.length := by omega
      simp [hl]
    · rw [List.getElem?_append_right (by omega), hb]
      rw [List.length_cons] at hn
      rw [ih (fun x hx => h x (by simp [hx])) (n := n - 4) (by omega)]
      have e1 : n / 4 = (n - 4) / 4 + 1 := by omega
      have e2 : n % 4 = (n - 4) % 4 := by omega
      unfold dat
      rw [e1, e2]
      rfl
def frees (d : List Bk) : Int := if dvOk d = true then nfree (dpg d) else -1
theorem nfree_dpg {d : List Bk} (h : ∀ b ∈ d, b.pages.length = 4) : nfree (dpg d) = (d.map fun b => 4 - nfull b.pages).sum := by
  induction d with
  | nil => rfl
  | cons b d ih =>
    have := nfull_add b.pages
    have hb := h b (by simp)
    unfold dpg at ih ⊢
    rw [List.flatMap_cons, List.map_cons, List.sum_cons, ← ih (fun x hx => h x (by simp [hx]))]
    unfold nfree nfull at *
    rw [List.countP_append]
    omega

/-- Heads. -/
structure Hd where
  hot : Int
  warm : Int
  cold : Int
def hdOk (d : List Bk) (h : Hd) : Bool :=
  dvOk d && inB h.hot (-1) (d.length - 1) && inB h.warm (-1) (d.length - 1) && inB h.cold (-1) (d.length - 1) &&
    !(decide (0 ≤ h.warm) && (h.hot == h.warm)) && !(decide (0 ≤ h.cold) && (h.hot == h.cold)) && !(decide (0 ≤ h.cold) && (h.warm == h.cold))
def isHd (h : Hd) (n : Int) : Bool := (n == h.hot) || (n == h.warm) || (n == h.cold)

end Go.Proofs.Ytpfekeflkmafcaa
