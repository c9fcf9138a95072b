/- Plain: a note's arithmetic, as words. -/
import Derived.Test.YtljcncfipocnpaaRefAdd3
import Derived.Test.YtljcncfipocnpaaTrendN
namespace Go.Proofs.Ytljcncfipocnpaa
open Go.RowKit Fl

theorem word_lt (s : Bool) {r : Nat} (h : r < 9223372036854775808) : dbl.word s r < NB := by
  unfold Ieee.Format.word NB
  have e1 : dbl.signWeight = 9223372036854775808 := by decide
  rw [e1]
  split <;> omega
theorem rung_word' (s : Bool) {r : Nat} (h : r < 9223372036854775808) : rung (dbl.word s r) = r := by
  unfold Ieee.Format.word rung
  have e1 : dbl.signWeight = 9223372036854775808 := by decide
  rw [e1]
  split <;> omega
/-- A word that is not the zero with a sign. -/
def NZ (a : Nat) : Prop := a ≠ 9223372036854775808
theorem nz_inj {a b : Nat} (ha : a < NB) (hb : b < NB) (na : NZ a) (nb : NZ b) (h : sv a = sv b) : a = b := by
  have ea := rung_of a ha
  have eb := rung_of b hb
  rw [sv_pn ha, sv_pn hb] at h
  have hm : mv (rung a) = mv (rung b) → rung a = rung b := fun e => by
    rcases Nat.lt_trichotomy (rung a) (rung b) with h | h | h
    · have := mv_lt h; omega
    · exact h
    · have := mv_lt h; omega
  have z : ∀ r, mv r = 0 → r = 0 := fun r e => by
    rcases Nat.eq_zero_or_pos r with h | h
    · exact h
    · have := mv_lt h; omega
  have za := z (rung a)
  have zb := z (rung b)
  unfold NZ at na nb
  cases hp : pn a <;> cases hq : pn b <;> rw [hp, hq] at h <;> rw [hp] at ea <;> rw [hq] at eb <;> simp only [Bool.false_eq_true, if_false, if_true] at h ea eb
  · have := hm (by omega); omega
  · have := za (by omega); have := zb (by omega); omega
  · have := za (by omega); have := zb (by omega); omega
  · have := hm (by omega); omega

/-- As the document's program does it. -/
def clampW (r a y : Nat) : Nat :=
  let lo := if sv y < sv a then y else a
  let hi := if sv y < sv a then a else y
  let b := if sv r < sv lo then lo else r
  if sv hi < sv b then hi else b
theorem upd_mem {r a y : Nat} (hr : Num r) (ha : Num a) (hy : Num y) : upd r a y = r ∨ upd r a y = a ∨ upd r a y = y := by
  have h1 := fmin_num ha hy
  have h2 := fmax_num ha hy
  have h3 := fmax_num hr h1
  unfold upd
  rcases (fmin_sv h3 h2).1 with e | e <;> rw [e]
  · rcases (fmax_sv hr h1).1 with e | e <;> rw [e]
    · exact .inl rfl
    · rcases (fmin_sv ha hy).1 with e | e <;> rw [e]
      · exact .inr (.inl rfl)
      · exact .inr (.inr rfl)
  · rcases (fmax_sv ha hy).1 with e | e <;> rw [e]
    · exact .inr (.inl rfl)
    · exact .inr (.inr rfl)
theorem upd_sv {r a y : Nat} (hr : Num r) (ha : Num a) (hy : Num y) : sv (upd r a y) = min (max (sv r) (min (sv a) (sv y))) (max (sv a) (sv y)) := by
  have h1 := fmin_num ha hy
  have h2 := fmax_num ha hy
  have h3 := fmax_num hr h1
  unfold upd
  rw [(fmin_sv h3 h2).2, (fmax_sv hr h1).2, (fmin_sv ha hy).2, (fmax_sv ha hy).2]
theorem clamp_upd {r a y : Nat} (hr : Num r) (ha : Num a) (hy : Num y) (lr : r < NB) (la : a < NB) (ly : y < NB) (zr : NZ r) (za : NZ a) (zy : NZ y) : upd r a y = clampW r a y := by
  have m1 := upd_mem hr ha hy
  have e1 := upd_sv hr ha hy
  have m2 : clampW r a y = r ∨ clampW r a y = a ∨ clampW r a y = y := by
    unfold clampW
    by_cases h1 : sv y < sv a
    · simp only [if_pos h1]
      by_cases h2 : sv r < sv y
      · simp only [if_pos h2]; split <;> simp
      · simp only [if_neg h2]; split <;> simp
    · simp only [if_neg h1]
      by_cases h2 : sv r < sv a
      · simp only [if_pos h2]; split <;> simp
      · simp only [if_neg h2]; split <;> simp
  have e2 : sv (clampW r a y) = min (max (sv r) (min (sv a) (sv y))) (max (sv a) (sv y)) := by
    unfold clampW
    by_cases h1 : sv y < sv a
    · simp only [if_pos h1]
      by_cases h2 : sv r < sv y
      · simp only [if_pos h2]; split <;> omega
      · simp only [if_neg h2]; split <;> omega
    · simp only [if_neg h1]
      by_cases h2 : sv r < sv a
      · simp only [if_pos h2]; split <;> omega
      · simp only [if_neg h2]; split <;> omega
  have p : ∀ x, (x = r ∨ x = a ∨ x = y) → x < NB ∧ NZ x := fun x h => by
    rcases h with rfl | rfl | rfl
    · exact ⟨lr, zr⟩
    · exact ⟨la, za⟩
    · exact ⟨ly, zy⟩
  exact nz_inj (p _ m1).1 (p _ m2).1 (p _ m1).2 (p _ m2).2 (by rw [e1, e2])
theorem clamp_mem {r a y : Nat} (hr : Num r) (ha : Num a) (hy : Num y) (lr : r < NB) (la : a < NB) (ly : y < NB) (zr : NZ r) (za : NZ a) (zy : NZ y) : upd r a y < NB ∧ NZ (upd r a y) := by
  rcases upd_mem hr ha hy with h | h | h <;> rw [h]
  · exact ⟨lr, zr⟩
  · exact ⟨la, za⟩
  · exact ⟨ly, zy⟩

/-! ### Bounds -/
theorem p2_le {a b : Nat} (h : a ≤ b) : p2 a ≤ p2 b := by rw [← p2_def, ← p2_def]; exact Nat.pow_le_pow_right (by decide) h
theorem mv_top (J : Nat) (hJ : 53 ≤ J) {r : Nat} (h : r ≤ (J - 51) * 4503599627370496) : mv r ≤ p2 J := by
  refine Nat.le_trans (mv_le h) ?_
  obtain ⟨q, hq⟩ : ∃ q, J = q + 52 := ⟨J - 52, by omega⟩
  have e : (J - 51) * 4503599627370496 = (q + 1) * 4503599627370496 + 0 := by rw [hq]; omega
  rw [e, mv_p2 q 0 (by decide), hq, Nat.add_comm q 52, p2_add]
  have : p2 52 = 4503599627370496 := by rw [← p2_def]
  rw [this]; exact Nat.le_refl _
theorem p2_succ (n : Nat) : p2 (n + 1) = p2 n + p2 n := by
  rw [p2_add]
  have : p2 1 = 2 := by rw [← p2_def]
  rw [this]; omega
/-- |a| is not above 2 to the J units. -/
def Lim (J a : Nat) : Prop := mv (rung a) ≤ p2 J
theorem lim_sv {J a : Nat} (h : Lim J a) : (sv a).natAbs ≤ p2 J := by rw [sv_abs]; exact h
theorem sum_facts {J : Nat} (hJ : 53 ≤ J) (hJ2 : J ≤ 1200) {t : Int} (h : t.natAbs ≤ p2 J) (neg0 : Bool) :
    rungOf t.natAbs 0 ≤ 1149 * 4503599627370496 ∧ Lim J (sumWord neg0 t) ∧ Fnt (sumWord neg0 t) ∧ sumWord neg0 t < NB := by
  have h1 := rungOf_le' t.natAbs 0 J hJ h
  have h2 : (J - 51) * 4503599627370496 ≤ 1149 * 4503599627370496 := Nat.mul_le_mul_right _ (by omega)
  unfold sumWord Lim Fnt
  generalize rungOf t.natAbs 0 = R at *
  have h3 := Nat.le_trans h1 h2
  have h4 : R < 9223372036854775808 := Nat.lt_of_le_of_lt h3 (by decide)
  rw [rung_word' _ h4]
  exact ⟨h3, mv_top J hJ h1, Nat.lt_of_le_of_lt h3 (by decide), word_lt _ h4⟩
theorem mul_facts {J A B : Nat} (hJ : 53 ≤ J) (hJ2 : J ≤ 1200) (h : A * B ≤ p2 (J + 1074)) (s : Bool) :
    rungOf (A * B) 1074 ≤ 1149 * 4503599627370496 ∧ Lim J (dbl.word s (rungOf (A * B) 1074)) ∧ Fnt (dbl.word s (rungOf (A * B) 1074)) ∧ dbl.word s (rungOf (A * B) 1074) < NB := by
  have h1 := rungOf_le' (A * B) 1074 J hJ h
  have h2 : (J - 51) * 4503599627370496 ≤ 1149 * 4503599627370496 := Nat.mul_le_mul_right _ (by omega)
  unfold Lim Fnt
  generalize rungOf (A * B) 1074 = R at *
  have h3 := Nat.le_trans h1 h2
  have h4 : R < 9223372036854775808 := Nat.lt_of_le_of_lt h3 (by decide)
  rw [rung_word' _ h4]
  exact ⟨h3, mv_top J hJ h1, Nat.lt_of_le_of_lt h3 (by decide), word_lt _ h4⟩
theorem flip_facts {a : Nat} (h : a < NB) : flip a < NB ∧ rung (flip a) = rung a ∧ pn (flip a) = !pn a ∧ sv (flip a) = -sv a := by
  have h1 : flip a < NB := by unfold flip NB at *; split <;> omega
  have h2 : rung (flip a) = rung a := by unfold flip rung; unfold NB at h; split <;> omega
  have h3 : pn (flip a) = !pn a := by
    unfold flip pn
    unfold NB at h
    split
    · rw [decide_eq_true (by omega), decide_eq_false (by omega)]; rfl
    · rw [decide_eq_false (by omega), decide_eq_true (by omega)]; rfl
  refine ⟨h1, h2, h3, ?_⟩
  rw [sv_pn h1, sv_pn h, h2, h3]
  cases pn a <;> simp
theorem rungOf_ne {V : Nat} (h : V ≠ 0) : rungOf V 0 ≠ 0 := by
  unfold rungOf
  by_cases hl : V.log2 ≤ 52
  · have e : max (V.log2 - 52) 0 = 0 := by omega
    rw [e]
    have := rne_exact V 0
    rw [Nat.pow_zero, Nat.mul_one] at this
    rw [this]; omega
  · have : 1 ≤ max (V.log2 - 52) 0 - 0 := by omega
    have := Nat.mul_le_mul_right 4503599627370496 this
    omega
theorem nz_word {s : Bool} {R : Nat} (h : R < 9223372036854775808) (h2 : s = true → R ≠ 0) : NZ (dbl.word s R) := by
  unfold NZ Ieee.Format.word
  have e1 : dbl.signWeight = 9223372036854775808 := by decide
  rw [e1]
  cases s
  · simp only [Bool.false_eq_true, if_false]; omega
  · have := h2 rfl
    simp only [if_true]; omega
theorem nz_sum {x y : Nat} (hx : x < NB) (hy : y < NB) (h : NZ x) (hR : rungOf (sv x + sv y).natAbs 0 < 9223372036854775808) : NZ (sumWord (neg x && neg y) (sv x + sv y)) := by
  unfold sumWord
  by_cases h0 : sv x + sv y = 0
  · rw [if_pos h0]
    rw [h0, show (0 : Int).natAbs = 0 from rfl, rungOf_zero]
    have : (neg x && neg y) = false := by
      rw [pn_eq x hx, pn_eq y hy]
      cases hp : pn x
      · rfl
      · cases hq : pn y
        · rfl
        · exfalso
          rw [sv_pn hx, sv_pn hy, hp, hq] at h0
          simp only [if_true] at h0
          have := zero_word hx (by omega)
          rw [hp] at this
          exact h this
    rw [this]
    exact nz_word (by decide) (fun h => by cases h)
  · rw [if_neg h0]
    exact nz_word hR (fun _ => rungOf_ne (by omega))
/-- The steps of a note. -/
structure Steps (a k y d s r : Nat) : Prop where
  d_eq : d = sumWord (neg y && neg (flip a)) (sv y + sv (flip a))
  d_bd : rungOf (sv y + sv (flip a)).natAbs 0 ≤ 1900 * 4503599627370496
  s_eq : s = dbl.word (neg d ^^ neg k) (rungOf (mv (rung d) * mv (rung k)) 1074)
  s_bd : rungOf (mv (rung d) * mv (rung k)) 1074 ≤ 1900 * 4503599627370496
  r_eq : r = sumWord (neg a && neg s) (sv a + sv s)
  r_bd : rungOf (sv a + sv s).natAbs 0 ≤ 1900 * 4503599627370496
  dn : d < NB
  sn : s < NB
  rn : r < NB
  df : Fnt d
  sf : Fnt s
  rf : Fnt r
  rz : NZ r
theorem one_sv : mv (rung One) = U := by
  have e : rung One = (1022 + 1) * 4503599627370496 + 0 := by decide
  rw [e, mv_p2 1022 0 (by decide)]
  have : p2 52 = 4503599627370496 := by rw [← p2_def]
  rw [Nat.add_zero, ← this, ← p2_add]
  rfl
theorem steps_of {a k y : Nat} (ha : a < NB) (za : NZ a) (la : Lim 1137 a) (ly : Lim 1137 y) (lk : mv (rung k) ≤ U) : ∃ d s r, Steps a k y d s r := by
  obtain ⟨f1, f2, f3, f4⟩ := flip_facts ha
  have b1 := lim_sv la
  have b2 := lim_sv ly
  have e1 : p2 1138 = p2 1137 + p2 1137 := p2_succ 1137
  have e2 : p2 1139 = p2 1138 + p2 1138 := p2_succ 1138
  obtain ⟨d1, d2, d3, d4⟩ := sum_facts (J := 1138) (by decide) (by decide) (t := sv y + sv (flip a)) (by rw [f4]; omega) (neg y && neg (flip a))
  have hm : mv (rung (sumWord (neg y && neg (flip a)) (sv y + sv (flip a)))) * mv (rung k) ≤ p2 (1138 + 1074) := by
    rw [p2_add]
    exact Nat.mul_le_mul d2 lk
  obtain ⟨s1, s2, s3, s4⟩ := mul_facts (J := 1138) (by decide) (by decide) hm (neg (sumWord (neg y && neg (flip a)) (sv y + sv (flip a))) ^^ neg k)
  have b3 := lim_sv s2
  obtain ⟨r1, _, r3, r4⟩ := sum_facts (J := 1139) (by decide) (by decide) (t := sv a + sv (dbl.word (neg (sumWord (neg y && neg (flip a)) (sv y + sv (flip a))) ^^ neg k) (rungOf (mv (rung (sumWord (neg y && neg (flip a)) (sv y + sv (flip a)))) * mv (rung k)) 1074))) (by omega) (neg a && neg (dbl.word (neg (sumWord (neg y && neg (flip a)) (sv y + sv (flip a))) ^^ neg k) (rungOf (mv (rung (sumWord (neg y && neg (flip a)) (sv y + sv (flip a)))) * mv (rung k)) 1074)))
  have c : 1149 * 4503599627370496 ≤ 1900 * 4503599627370496 := by decide
  exact ⟨_, _, _, rfl, Nat.le_trans d1 c, rfl, Nat.le_trans s1 c, rfl, Nat.le_trans r1 c, d4, s4, r4, d3, s3, r3, nz_sum ha s4 za (Nat.lt_of_le_of_lt r1 (by decide))⟩
/-- They are the model's. -/
theorem Steps.model {a k y d s r : Nat} (h : Steps a k y d s r) (ha : a < NB) (fa : Fnt a) (fk : Fnt k) (fy : Fnt y) : dbl.sub y a = some d ∧ dbl.mul d k = some s ∧ dbl.add a s = some r := by
  have hi : 1900 * 4503599627370496 ≤ inf := by decide
  obtain ⟨_, f2, f3, f4⟩ := flip_facts ha
  have hn : neg (flip a) = !neg a := by rw [pn_eq _ (flip_facts ha).1, f3, pn_eq a ha]
  refine ⟨?_, ?_, ?_⟩
  · have hb := Nat.le_trans h.d_bd hi
    rw [f4] at hb
    have := sub_word fy fa hb
    rw [this, h.d_eq, f4, hn]; rfl
  · rw [mul_word h.df fk (Nat.le_trans h.s_bd hi), ← h.s_eq]
  · rw [add_word fa h.sf (Nat.le_trans h.r_bd hi), ← h.r_eq]
end Go.Proofs.Ytljcncfipocnpaa
