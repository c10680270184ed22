/-
  The plain law of tables: valid ones, places, files; no program in sight.
-/
import Derived.Test.YtpfekeflkmafcaaMod
namespace Go.Proofs.Ytpfekeflkmafcaa
open Go.RowKit

/-- Pages in a row: each in its bounds, none but -1 twice. -/
def okP (l : List Int) : Bool := l.all (fun x => inB x (-1) 47) && decide (l.Pairwise fun x y => ¬ (0 ≤ x ∧ x = y))
theorem okP_iff {l : List Int} : okP l = true ↔ (∀ x ∈ l, -1 ≤ x ∧ x ≤ 47) ∧ l.Pairwise fun x y => ¬ (0 ≤ x ∧ x = y) := by
  simp only [okP, Bool.and_eq_true, List.all_eq_true, inB_iff, decide_eq_true_eq]
theorem okP_sub {l l' : List Int} (h : okP l = true) (hs : l'.Sublist l) : okP l' = true := by
  have h := okP_iff.1 h
  exact okP_iff.2 ⟨fun x hx => h.1 x (hs.subset hx), h.2.sublist hs⟩
theorem okP_nil : okP [] = true := by decide
theorem okP_snoc {l : List Int} {x : Int} : okP (l ++ [x]) = true ↔ okP l = true ∧ (-1 ≤ x ∧ x ≤ 47) ∧ ¬ (0 ≤ x ∧ x ∈ l) := by
  rw [okP_iff, okP_iff, List.pairwise_append]
  simp only [List.mem_append, List.mem_singleton, List.pairwise_singleton, true_and]
  constructor
  · rintro ⟨h1, h2, h3⟩
    refine ⟨⟨fun y hy => h1 y (.inl hy), h2⟩, h1 x (.inr rfl), fun ⟨h, hm⟩ => h3 x hm x rfl ⟨h, rfl⟩⟩
  · rintro ⟨⟨h1, h2⟩, h3, h4⟩
    refine ⟨fun y hy => ?_, h2, fun a ha b hb ⟨h, e⟩ => ?_⟩
    · rcases hy with hy | rfl
      · exact h1 y hy
      · exact h3
    · subst hb; subst e; exact h4 ⟨h, ha⟩
theorem okP_pre {l l' : List Int} (h : okP (l ++ l') = true) : okP l = true := okP_sub h (List.sublist_append_left _ _)
theorem okP_no {l l' : List Int} (h : okP l = false) : okP (l ++ l') = false := by
  cases hv : okP (l ++ l') with
  | false => rfl
  | true => rw [okP_pre hv] at h; exact h

/-- Valid tables. -/
def tabVal (t : List (List Int)) : Bool := decide (t.length = 8) && t.all (fun l => decide (l.length = 6)) && okP t.flatten
theorem tabVal_iff {t : List (List Int)} : tabVal t = true ↔ t.length = 8 ∧ (∀ l ∈ t, l.length = 6) ∧ okP t.flatten = true := by
  simp only [tabVal, Bool.and_eq_true, List.all_eq_true, decide_eq_true_eq, and_assoc]
theorem tab_len {t : List (List Int)} (h : tabVal t = true) : t.length = 8 := (tabVal_iff.1 h).1
theorem tab_row {t : List (List Int)} (h : tabVal t = true) {f : Nat} (hf : f < t.length) : t[f].length = 6 := (tabVal_iff.1 h).2.1 _ (List.getElem_mem hf)
theorem tab_at {t : List (List Int)} (h : tabVal t = true) {f p : Nat} (hf : f < t.length) (hp : p < t[f].length) : -1 ≤ t[f][p] ∧ t[f][p] ≤ 47 :=
  (okP_iff.1 (tabVal_iff.1 h).2.2).1 _ (List.mem_flatten.2 ⟨t[f], List.getElem_mem hf, List.getElem_mem hp⟩)

/-- The pages ahead of file f, place p. -/
def pre (t : List (List Int)) (f p : Nat) : List Int := (t.take f).flatten ++ (t.getD f []).take p
theorem getD_at {t : List (List Int)} {f : Nat} (hf : f < t.length) : t.getD f [] = t[f] := by simp [hf]
theorem pre_zero (t : List (List Int)) (f : Nat) : pre t f 0 = (t.take f).flatten := by simp [pre]
theorem pre_succ {t : List (List Int)} {f p : Nat} (hf : f < t.length) (hp : p < t[f].length) : pre t f (p + 1) = pre t f p ++ [t[f][p]] := by
  unfold pre
  rw [getD_at hf, List.take_succ_eq_append_getElem hp, List.append_assoc]
theorem pre_row {t : List (List Int)} {f : Nat} (hf : f < t.length) (p : Nat) (hp : t[f].length ≤ p) : pre t f p = (t.take (f + 1)).flatten := by
  unfold pre
  rw [getD_at hf, List.take_succ_eq_append_getElem hf, List.flatten_append, List.take_of_length_le hp]
  simp
theorem pre_flat (t : List (List Int)) {f p : Nat} (hf : f < t.length) : ∃ r, t.flatten = pre t f p ++ r := by
  refine ⟨t[f].drop p ++ (t.drop (f + 1)).flatten, ?_⟩
  unfold pre
  have e : t = t.take f ++ (t[f] :: t.drop (f + 1)) := by
    rw [← List.drop_eq_getElem_cons hf, List.take_append_drop]
  rw [getD_at hf]
  conv => lhs; rw [e]
  rw [List.flatten_append, List.flatten_cons]
  simp only [List.append_assoc]
  rw [← List.append_assoc (t[f].take p), List.take_append_drop]
theorem take_flat (t : List (List Int)) (f : Nat) : ∃ r, t.flatten = (t.take f).flatten ++ r := ⟨(t.drop f).flatten, by rw [← List.flatten_append, List.take_append_drop]⟩
theorem tab_no_row {t : List (List Int)} {f : Nat} (hf : f < t.length) (h : t[f].length ≠ 6) : tabVal t = false := by
  cases hv : tabVal t with
  | false => rfl
  | true => exact absurd (tab_row hv hf) h
theorem tab_no_at {t : List (List Int)} {f p : Nat} (hf : f < t.length) (h : okP (pre t f p) = false) : tabVal t = false := by
  cases hv : tabVal t with
  | false => rfl
  | true =>
    obtain ⟨r, hr⟩ := pre_flat t (p := p) hf
    have := (tabVal_iff.1 hv).2.2
    rw [hr, okP_no h] at this
    exact absurd this (by decide)
theorem tab_no_len {t : List (List Int)} (h : t.length ≠ 8) : tabVal t = false := by
  cases hv : tabVal t with
  | false => rfl
  | true => exact absurd (tab_len hv) h
theorem tab_yes {t : List (List Int)} (h : t.length = 8) (h2 : ∀ f (hf : f < t.length), t[f].length = 6) (h3 : okP ((t.take 8).flatten) = true) : tabVal t = true := by
  rw [List.take_of_length_le (by omega)] at h3
  refine tabVal_iff.2 ⟨h, fun l hl => ?_, h3⟩
  obtain ⟨f, hf, rfl⟩ := List.getElem_of_mem hl
  exact h2 f hf

/-- Lists of six, one behind the other. -/
theorem flat_len {t : List (List Int)} (h : ∀ l ∈ t, l.length = 6) : t.flatten.length = t.length * 6 := by
  induction t with
  | nil => rfl
  | cons a t ih =>
    rw [List.flatten_cons, List.length_append, h a (by simp), ih fun l hl => h l (by simp [hl]), List.length_cons]; omega
theorem flat_get {t : List (List Int)} (h : ∀ l ∈ t, l.length = 6) {f p : Nat} (hf : f < t.length) (hp : p < t[f].length) : t.flatten[f * 6 + p]? = some t[f][p] := by
  induction t generalizing f with
  | nil => simp at hf
  | cons a t ih =>
    have ha := h a (by simp)
    cases f with
    | zero =>
      simp only [List.getElem_cons_zero] at hp
      rw [List.flatten_cons, Nat.zero_mul, Nat.zero_add, List.getElem?_append_left hp]
      simp [hp]
    | succ f =>
      simp only [List.getElem_cons_succ] at hp ⊢
      rw [List.flatten_cons, List.getElem?_append_right (by omega), show (f + 1) * 6 + p - a.length = f * 6 + p by omega]
      exact ih (fun l hl => h l (by simp [hl])) (by simpa using hf) hp
theorem flat_set {t : List (List Int)} (h : ∀ l ∈ t, l.length = 6) {f p : Nat} (hf : f < t.length) (hp : p < t[f].length) (x : Int) : (t.set f (t[f].set p x)).flatten = t.flatten.set (f * 6 + p) x := by
  induction t generalizing f with
  | nil => simp at hf
  | cons a t ih =>
    have ha := h a (by simp)
    cases f with
    | zero =>
      simp only [List.getElem_cons_zero] at hp ⊢
      rw [List.set_cons_zero, List.flatten_cons, List.flatten_cons, Nat.zero_mul, Nat.zero_add, List.set_append_left _ _ hp]
    | succ f =>
      simp only [List.getElem_cons_succ] at hp ⊢
      rw [List.set_cons_succ, List.flatten_cons, List.flatten_cons, List.set_append_right _ _ (by omega), show (f + 1) * 6 + p - a.length = f * 6 + p by omega, ih (fun l hl => h l (by simp [hl])) (by simpa using hf) hp]

/-- In its bounds. -/
def inFP (f p : Int) : Bool := inB f 0 7 && inB p 0 5
def tset (t : List (List Int)) (f p : Nat) (x : Int) : List (List Int) := t.set f ((t.getD f []).set p x)
def tat (t : List (List Int)) (f p : Nat) : Int := (t.getD f []).getD p 0
def tget (t : List (List Int)) (f p : Int) : Int := if tabVal t = true ∧ inFP f p = true then tat t f.toNat p.toNat else -1
/-- The page stands at another place. -/
def elsewhere (t : List (List Int)) (f p : Nat) (x : Int) : Bool := decide (0 ≤ x) && (List.range 48).any fun i => decide (i ≠ f * 6 + p) && (t.flatten.getD i (-1) == x)
def tput (t : List (List Int)) (f p x : Int) : List (List Int) × Bool :=
  if tabVal t = true ∧ inFP f p = true ∧ inB x (-1) 47 = true then (if tabVal (tset t f.toNat p.toNat x) = true then (tset t f.toNat p.toNat x, true) else (t, false)) else ([], false)

theorem tat_eq {t : List (List Int)} {f p : Nat} (hf : f < t.length) (hp : p < t[f].length) : tat t f p = t[f][p] := by
  rw [tat, getD_at hf]; simp [hp]
theorem tset_eq {t : List (List Int)} {f p : Nat} (hf : f < t.length) (x : Int) : tset t f p x = t.set f (t[f].set p x) := by
  rw [tset, getD_at hf]
theorem tset_rows {t : List (List Int)} {f p : Nat} (h : ∀ l ∈ t, l.length = 6) (x : Int) : ∀ l ∈ tset t f p x, l.length = 6 := by
  intro l hl
  unfold tset at hl
  by_cases hf : f < t.length
  · rcases List.mem_or_eq_of_mem_set hl with h1 | rfl
    · exact h l h1
    · rw [getD_at hf, List.length_set]; exact h _ (List.getElem_mem hf)
  · rw [List.set_eq_of_length_le (by omega)] at hl
    exact h l hl
theorem tset_len (t : List (List Int)) (f p : Nat) (x : Int) : (tset t f p x).length = t.length := by simp [tset]

/-- A put table is valid: the page is nowhere else. -/
theorem tput_val {t : List (List Int)} (h : tabVal t = true) {f p : Nat} (hf : f < 8) (hp : p < 6) {x : Int} (hx : -1 ≤ x ∧ x ≤ 47) : tabVal (tset t f p x) = !elsewhere t f p x := by
  have h' := tabVal_iff.1 h
  have hf' : f < t.length := by omega
  have hp' : p < t[f].length := by rw [tab_row h hf']; exact hp
  have hfl : t.flatten.length = 48 := by rw [flat_len h'.2.1]; omega
  have hok := okP_iff.1 h'.2.2
  have hi : f * 6 + p < t.flatten.length := by omega
  have key : okP (t.flatten.set (f * 6 + p) x) = !elsewhere t f p x := by
    rw [Bool.eq_iff_iff, okP_iff, List.pairwise_iff_getElem]
    simp only [elsewhere, Bool.not_eq_true', Bool.and_eq_false_iff, decide_eq_false_iff_not, List.any_eq_false, List.mem_range, Bool.and_eq_true, decide_eq_true_eq, beq_iff_eq, not_and]
    constructor
    · rintro ⟨-, h2⟩
      by_cases h0 : 0 ≤ x
      · right
        intro i hi48 hne he
        have hil : i < t.flatten.length := by omega
        have e : t.flatten.getD i (-1) = t.flatten[i] := by rw [List.getD_eq_getElem?_getD, List.getElem?_eq_getElem hil]; rfl
        rw [e] at he
        rcases Nat.lt_or_gt_of_ne hne with hlt | hlt
        · have := h2 i (f * 6 + p) (by simpa using hil) (by simpa using hi) hlt
          rw [List.getElem_set_ne (by omega), List.getElem_set_self] at this
          exact this (by omega) he
        · have := h2 (f * 6 + p) i (by simpa using hi) (by simpa using hil) hlt
          rw [List.getElem_set_self, List.getElem_set_ne (by omega)] at this
          exact this h0 he.symm
      · left; exact h0
    · intro h2
      refine ⟨fun y hy => ?_, fun i j hi' hj' hij => ?_⟩
      · rcases List.mem_or_eq_of_mem_set hy with h1 | rfl
        · exact hok.1 y h1
        · exact hx
      · intro h0 he
        simp only [List.length_set] at hi' hj'
        by_cases e1 : i = f * 6 + p
        · subst e1
          rw [List.getElem_set_self] at h0 he
          rw [List.getElem_set_ne (by omega)] at he
          rcases h2 with h2 | h2
          · exact h2 h0
          · exact h2 j (by omega) (by omega) (by rw [List.getD_eq_getElem?_getD, List.getElem?_eq_getElem hj']; exact he.symm)
        · by_cases e2 : j = f * 6 + p
          · subst e2
            rw [List.getElem_set_ne (by omega)] at h0 he
            rw [List.getElem_set_self] at he
            rcases h2 with h2 | h2
            · exact h2 (by omega)
            · exact h2 i (by omega) e1 (by rw [List.getD_eq_getElem?_getD, List.getElem?_eq_getElem hi']; exact he)
          · rw [List.getElem_set_ne (by omega)] at h0 he
            rw [List.getElem_set_ne (by omega)] at he
            exact List.pairwise_iff_getElem.1 hok.2 i j hi' hj' hij ⟨h0, he⟩
  rw [← key]
  rw [Bool.eq_iff_iff, tabVal_iff, tset_eq hf', flat_set h'.2.1 hf' hp']
  constructor
  · intro h; exact h.2.2
  · intro h3
    refine ⟨by simpa using h'.1, ?_, h3⟩
    have := tset_rows (f := f) (p := p) h'.2.1 x
    rwa [tset_eq hf'] at this

/-- The size of a file: one more than the last place with a page. -/
def rszR : List Int → Nat
  | [] => 0
  | x :: r => if 0 ≤ x then r.length + 1 else rszR r
def rsz (l : List Int) : Nat := rszR l.reverse
theorem rsz_snoc (l : List Int) (x : Int) : rsz (l ++ [x]) = if 0 ≤ x then l.length + 1 else rsz l := by simp [rsz, rszR]
theorem rsz_nil : rsz [] = 0 := rfl
theorem rsz_take {l : List Int} {k : Nat} (hk : k < l.length) : rsz (l.take (k + 1)) = if 0 ≤ l[k] then k + 1 else rsz (l.take k) := by
  rw [List.take_succ_eq_append_getElem hk, rsz_snoc]
  simp only [List.length_take]
  rw [Nat.min_eq_left (by omega)]
theorem rsz_le (l : List Int) : rsz l ≤ l.length := by
  have : ∀ r : List Int, rszR r ≤ r.length := by
    intro r
    induction r with
    | nil => simp [rszR]
    | cons x r ih => unfold rszR; split <;> simp <;> omega
  have := this l.reverse
  simpa [rsz] using this
def fsz (t : List (List Int)) (f : Int) : Int := if tabVal t = true ∧ inB f 0 7 = true then rsz (t.getD f.toNat []) else -1
def holes (t : List (List Int)) (f : Int) : List Int := if tabVal t = true ∧ inB f 0 7 = true then ((List.range (rsz (t.getD f.toNat []))).filter fun k => decide (tat t f.toNat k < 0)).map fun k : Nat => (k : Int) else []
def rcut (l : List Int) (p : Nat) : List Int := l.take p ++ List.replicate (l.length - p) (-1)
def tcut (t : List (List Int)) (f p : Int) : List (List Int) := if tabVal t = true ∧ inB f 0 7 = true ∧ inB p 0 6 = true then t.set f.toNat (rcut (t.getD f.toNat []) p.toNat) else []
/-- At how many places two tables differ. -/
def tdif (a b : List Int) : Nat := (a.zip b).countP fun q => !(q.1 == q.2)
def tchg (a b : List (List Int)) : Int := if tabVal a = true ∧ tabVal b = true then tdif a.flatten b.flatten else -1
theorem tdif_snoc {a b : List Int} (h : a.length = b.length) (x y : Int) : tdif (a ++ [x]) (b ++ [y]) = tdif a b + if x = y then 0 else 1 := by
  unfold tdif
  rw [List.zip_append h]
  simp [List.countP_append, List.countP_cons]

end Go.Proofs.Ytpfekeflkmafcaa
