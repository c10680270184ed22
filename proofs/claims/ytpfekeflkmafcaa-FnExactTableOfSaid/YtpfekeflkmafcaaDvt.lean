/-
  The plain law of the tables of devices; no program in sight.
-/
import Derived.Test.YtpfekeflkmafcaaDvp
import Derived.Test.YtpfekeflkmafcaaTbn
namespace Go.Proofs.Ytpfekeflkmafcaa
open Go.RowKit

theorem tat_tset {t : List (List Int)} (h8 : t.length = 8) (h6 : ∀ l ∈ t, l.length = 6) {f p f' p' : Nat} (hf : f < 8) (hp : p < 6) (hf' : f' < 8) (hp' : p' < 6) (x : Int) :
    tat (tset t f p x) f' p' = if f = f' ∧ p = p' then x else tat t f' p' := by
  have l1 : f < t.length := by omega
  have l2 : f' < t.length := by omega
  have k1 : t[f].length = 6 := h6 _ (List.getElem_mem l1)
  have k2 : t[f'].length = 6 := h6 _ (List.getElem_mem l2)
  rw [tset_eq l1]
  by_cases e : f = f'
  · subst e
    unfold tat
    rw [getD_at (by rw [List.length_set]; exact l1), List.getElem_set_self, getD_at l1]
    by_cases e2 : p = p'
    · subst e2
      simp [k1, hp]
    · rw [if_neg (by omega)]
      simp [List.getD_eq_getElem?_getD, List.getElem?_set_ne e2]
  · rw [if_neg (by omega)]
    unfold tat
    rw [getD_at (by rw [List.length_set]; exact l2), List.getElem_set_ne e, getD_at l2]

/-- One page more. -/
def tstep (d : List Bk) (t : List (List Int)) (n : Nat) : List (List Int) :=
  if (dat d n).full = true ∧ (tat t (dat d n).file.toNat (dat d n).place.toNat < 0 ∨ (dat d (tat t (dat d n).file.toNat (dat d n).place.toNat).toNat).stamp < (dat d n).stamp)
  then tset t (dat d n).file.toNat (dat d n).place.toNat n else t
def tofN (d : List Bk) : Nat → List (List Int)
  | 0 => T0 8
  | n + 1 => tstep d (tofN d n) n
def tof (d : List Bk) : List (List Int) := if dvOk d = true then tofN d (4 * d.length) else []

/-- What holds of the table behind n pages. -/
structure TofI (d : List Bk) (n : Nat) (t : List (List Int)) : Prop where
  len : t.length = 8
  row : ∀ l ∈ t, l.length = 6
  ent : ∀ f p : Nat, f < 8 → p < 6 → tat t f p = -1 ∨ ∃ m : Nat, m < n ∧ tat t f p = m ∧ (dat d m).full = true ∧ (dat d m).file = f ∧ (dat d m).place = p
  new : ∀ m : Nat, m < n → (dat d m).full = true → ∃ m' : Nat, m' < n ∧ tat t (dat d m).file.toNat (dat d m).place.toNat = m' ∧ (dat d m).stamp ≤ (dat d m').stamp

theorem T0_at {f p : Nat} (hf : f < 8) (hp : p < 6) : tat (T0 8) f p = -1 := by
  have h1 : f < (T0 8).length := by simpa [T0] using hf
  have h2 : (T0 8)[f] = R6 := by simp only [T0, List.getElem_replicate]
  unfold tat
  rw [getD_at h1, h2]
  simp only [R6, List.getD_eq_getElem?_getD, List.getElem?_replicate, hp, if_true, Option.getD_some]

theorem TofI.zero (d : List Bk) : TofI d 0 (T0 8) where
  len := by simp [T0]
  row := fun l hl => by simp [T0] at hl; simp [hl, R6]
  ent := fun f p hf hp => .inl (T0_at hf hp)
  new := fun m hm => absurd hm (Nat.not_lt_zero m)

theorem TofI.step {d : List Bk} (hv : dvOk d = true) {n : Nat} {t : List (List Int)} (hn : n < 4 * d.length) (h : TofI d n t) : TofI d (n + 1) (tstep d t n) := by
  have hok := dat_ok hv hn
  unfold tstep
  by_cases hf : (dat d n).full = true
  · obtain ⟨⟨f0, f1⟩, ⟨p0, p1⟩, -, -⟩ := pgOk_full hok hf
    obtain ⟨f, hfe⟩ := Int.eq_ofNat_of_zero_le f0
    obtain ⟨p, hpe⟩ := Int.eq_ofNat_of_zero_le p0
    rw [hfe] at f1
    rw [hpe] at p1
    rw [hfe, hpe]
    simp only [Int.toNat_natCast]
    by_cases hc : tat t f p < 0 ∨ (dat d (tat t f p).toNat).stamp < (dat d n).stamp
    · rw [if_pos ⟨hf, hc⟩]
      refine ⟨by rw [tset_len]; exact h.len, tset_rows h.row _, fun f' p' hf' hp' => ?_, fun m hm hmf => ?_⟩
      · rw [tat_tset h.len h.row (by omega) (by omega) hf' hp']
        by_cases e : f = f' ∧ p = p'
        · rw [if_pos e]
          exact .inr ⟨n, by omega, rfl, hf, by rw [hfe, e.1], by rw [hpe, e.2]⟩
        · rw [if_neg e]
          rcases h.ent f' p' hf' hp' with h1 | ⟨m, h1, h2⟩
          · exact .inl h1
          · exact .inr ⟨m, by omega, h2⟩
      · by_cases hmn : m = n
        · subst hmn
          refine ⟨m, by omega, ?_, Int.le_refl _⟩
          rw [hfe, hpe]
          simp only [Int.toNat_natCast]
          rw [tat_tset h.len h.row (by omega) (by omega) (by omega) (by omega), if_pos ⟨rfl, rfl⟩]
        · have hm' : m < n := by omega
          obtain ⟨⟨g0, g1⟩, ⟨q0, q1⟩, -, -⟩ := pgOk_full (dat_ok hv (n := m) (by omega)) hmf
          obtain ⟨m', a1, a2, a3⟩ := h.new m hm' hmf
          rw [tat_tset h.len h.row (by omega) (by omega) (by omega) (by omega)]
          by_cases e : f = (dat d m).file.toNat ∧ p = (dat d m).place.toNat
          · rw [if_pos e]
            refine ⟨n, by omega, rfl, ?_⟩
            rw [← e.1, ← e.2] at a2
            rw [a2] at hc
            rcases hc with hc | hc
            · omega
            · simp only [Int.toNat_natCast] at hc; omega
          · rw [if_neg e]
            exact ⟨m', by omega, a2, a3⟩
    · rw [if_neg (fun x => hc x.2)]
      have hc1 : 0 ≤ tat t f p := by have := fun x => hc (.inl x); omega
      have hc2 : (dat d n).stamp ≤ (dat d (tat t f p).toNat).stamp := by have := fun x => hc (.inr x); omega
      refine ⟨h.len, h.row, fun f' p' hf' hp' => ?_, fun m hm hmf => ?_⟩
      · rcases h.ent f' p' hf' hp' with h1 | ⟨m, h1, h2⟩
        · exact .inl h1
        · exact .inr ⟨m, by omega, h2⟩
      · by_cases hmn : m = n
        · subst hmn
          rw [hfe, hpe]
          simp only [Int.toNat_natCast]
          rcases h.ent f p (by omega) (by omega) with h1 | ⟨m', h1, h2, -⟩
          · omega
          · exact ⟨m', by omega, h2, by rw [h2] at hc2; simpa using hc2⟩
        · obtain ⟨m', a1, a2, a3⟩ := h.new m (by omega) hmf
          exact ⟨m', by omega, a2, a3⟩
  · rw [if_neg (fun x => hf x.1)]
    refine ⟨h.len, h.row, fun f' p' hf' hp' => ?_, fun m hm hmf => ?_⟩
    · rcases h.ent f' p' hf' hp' with h1 | ⟨m, h1, h2⟩
      · exact .inl h1
      · exact .inr ⟨m, by omega, h2⟩
    · have hmn : m ≠ n := fun e => hf (e ▸ hmf)
      obtain ⟨m', a1, a2, a3⟩ := h.new m (by omega) hmf
      exact ⟨m', by omega, a2, a3⟩

theorem tofI {d : List Bk} (hv : dvOk d = true) : ∀ n, n ≤ 4 * d.length → TofI d n (tofN d n)
  | 0, _ => TofI.zero d
  | n + 1, hn => (tofI hv n (by omega)).step hv (by omega)

/-- An entry in a table with rows of six, by its place in the flat list. -/
theorem flat_at {t : List (List Int)} (h8 : t.length = 8) (h6 : ∀ l ∈ t, l.length = 6) {i : Nat} (hi : i < t.flatten.length) : i / 6 < 8 ∧ t.flatten[i] = tat t (i / 6) (i % 6) := by
  have hl : t.flatten.length = 48 := by rw [flat_len h6]; omega
  have hk : i / 6 < t.length := by omega
  have hr : t[i / 6].length = 6 := h6 _ (List.getElem_mem hk)
  have hm : i % 6 < t[i / 6].length := by omega
  have := flat_get h6 hk hm
  rw [show i / 6 * 6 + i % 6 = i by omega, List.getElem?_eq_getElem hi] at this
  exact ⟨by omega, by rw [tat_eq hk hm]; exact Option.some.inj this⟩

theorem TofI.val {d : List Bk} (hv : dvOk d = true) {n : Nat} {t : List (List Int)} (hn : n ≤ 4 * d.length) (h : TofI d n t) : tabVal t = true := by
  have hl := dv_len hv
  refine tabVal_iff.2 ⟨h.len, h.row, okP_iff.2 ⟨fun x hx => ?_, ?_⟩⟩
  · obtain ⟨i, hi, rfl⟩ := List.getElem_of_mem hx
    obtain ⟨a1, a2⟩ := flat_at h.len h.row hi
    rw [a2]
    rcases h.ent (i / 6) (i % 6) a1 (by omega) with h1 | ⟨m, h1, h2, -⟩ <;> omega
  · rw [List.pairwise_iff_getElem]
    rintro i j hi hj hij ⟨h0, he⟩
    obtain ⟨a1, a2⟩ := flat_at h.len h.row hi
    obtain ⟨b1, b2⟩ := flat_at h.len h.row hj
    rw [a2] at h0 he
    rw [b2] at he
    rcases h.ent (i / 6) (i % 6) a1 (by omega) with h1 | ⟨m, h1, h2, -, h3, h4⟩
    · omega
    · rcases h.ent (j / 6) (j % 6) b1 (by omega) with g1 | ⟨m', g1, g2, -, g3, g4⟩
      · omega
      · have e : m = m' := by omega
        subst e
        omega
theorem tof_val {d : List Bk} (hv : dvOk d = true) : tabVal (tof d) = true := by
  unfold tof
  rw [if_pos hv]
  exact (tofI hv _ (Nat.le_refl _)).val hv (Nat.le_refl _)
theorem tof_bad {d : List Bk} (hv : dvOk d = false) : tof d = [] := by unfold tof; rw [if_neg (by rw [hv]; simp)]
theorem tof_ent {d : List Bk} (hv : dvOk d = true) {f p : Nat} (hf : f < 8) (hp : p < 6) : tat (tof d) f p = -1 ∨ ∃ m : Nat, m < 4 * d.length ∧ tat (tof d) f p = m ∧ (dat d m).full = true ∧ (dat d m).file = f ∧ (dat d m).place = p := by
  unfold tof
  rw [if_pos hv]
  exact (tofI hv _ (Nat.le_refl _)).ent f p hf hp
theorem tof_new {d : List Bk} (hv : dvOk d = true) {m : Nat} (hm : m < 4 * d.length) (hf : (dat d m).full = true) : ∃ m' : Nat, m' < 4 * d.length ∧ tat (tof d) (dat d m).file.toNat (dat d m).place.toNat = m' ∧ (dat d m).stamp ≤ (dat d m').stamp := by
  unfold tof
  rw [if_pos hv]
  exact (tofI hv _ (Nat.le_refl _)).new m hm hf

end Go.Proofs.Ytpfekeflkmafcaa
