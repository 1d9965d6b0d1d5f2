/-
  PLAIN: the error-free sums over whole numbers: Dekker's and Knuth's. No Go here.
-/
import Derived.Test.YgctadDoorRn
namespace Rn

/-- '2^k', an Int. -/
def P (k : Nat) : Int := ((2 ^ k : Nat) : Int)
theorem P_pos (k : Nat) : 0 < P k := Int.natCast_pos.2 (pow_pos k)
theorem P_zero : P 0 = 1 := rfl
theorem P_succ (k : Nat) : P (k + 1) = 2 * P k := by unfold P; rw [Nat.pow_succ, Nat.mul_comm, Int.natCast_mul]; rfl
theorem P_add (j k : Nat) : P (j + k) = P j * P k := by unfold P; rw [Nat.pow_add, Int.natCast_mul]
theorem P_dvd {j k : Nat} (h : j ≤ k) : P j ∣ P k := Int.natCast_dvd_natCast.2 (Nat.pow_dvd_pow 2 h)
theorem P_le {j k : Nat} (h : j ≤ k) : P j ≤ P k := Int.ofNat_le.2 (Nat.pow_le_pow_right (by decide) h)
theorem P53 (k : Nat) : ((2 ^ (53 + k) : Nat) : Int) = 9007199254740992 * P k := by rw [pow53, Int.natCast_mul]; rfl
theorem P52 (k : Nat) : ((2 ^ (52 + k) : Nat) : Int) = 4503599627370496 * P k := by rw [pow52, Int.natCast_mul]; rfl

/-- A multiple of 'u' below another and one 'u' more is not above it. -/
theorem dvd_le {u n m : Int} (_hu : 0 < u) (hn : u ∣ n) (hm : u ∣ m) (h : n < m + u) : n ≤ m := by
  obtain ⟨a, rfl⟩ := hn
  obtain ⟨b, rfl⟩ := hm
  have : u * (a - b) < u * 1 := by rw [Int.mul_sub]; omega
  have := Int.lt_of_mul_lt_mul_left this (by omega)
  have h2 : 0 ≤ u * (b - a) := Int.mul_nonneg (by omega) (by omega)
  rw [Int.mul_sub] at h2
  omega

/-- The numbers of 53 digits. -/
def F (f : Int) : Prop := ∃ k, P k ∣ f ∧ (f.natAbs : Int) ≤ 9007199254740992 * P k
theorem F_of {f : Int} (k : Nat) (h : P k ∣ f) (h2 : (f.natAbs : Int) ≤ 9007199254740992 * P k) : F f := ⟨k, h, h2⟩
theorem F_iff (f : Int) : F f ↔ FU 0 f := by
  constructor
  · rintro ⟨k, h1, h2⟩; exact ⟨k, Nat.zero_le _, h1, Int.ofNat_le.1 (by rw [P53]; exact h2)⟩
  · rintro ⟨k, _, h1, h2⟩; exact ⟨k, h1, by rw [← P53]; exact Int.ofNat_le.2 h2⟩
theorem F_neg {f : Int} (h : F f) : F (-f) := by
  obtain ⟨k, h1, h2⟩ := h
  exact ⟨k, Int.dvd_neg.2 h1, by rw [Int.natAbs_neg]; exact h2⟩
theorem F_zero : F 0 := ⟨0, Int.dvd_zero _, by simp [P_zero]⟩
theorem F_P (k : Nat) : F (P k) := ⟨k, Int.dvd_refl _, by have := P_pos k; omega⟩
theorem F_52 (k : Nat) : F (4503599627370496 * P k) := ⟨k, Int.dvd_mul_left .., by have := P_pos k; omega⟩
theorem F_53 (k : Nat) : F (9007199254740992 * P k) := ⟨k, Int.dvd_mul_left .., by have := P_pos k; omega⟩
theorem F_small {f : Int} (h : f.natAbs ≤ 9007199254740992) : F f := ⟨0, by rw [P_zero]; exact Int.one_dvd _, by rw [P_zero]; omega⟩

theorem F_big {f : Int} (k : Nat) (h : F f) (h2 : 4503599627370496 * P k ≤ (f.natAbs : Int)) : P k ∣ f := by
  obtain ⟨j, h3, h4⟩ := h
  by_cases hjk : k ≤ j
  · exact Int.dvd_trans (P_dvd hjk) h3
  · have h5 : P (j + 1) ≤ P k := P_le (by omega)
    rw [P_succ] at h5
    have e : (f.natAbs : Int) = 4503599627370496 * P k := by omega
    have : P k ∣ (f.natAbs : Int) := by rw [e]; exact Int.dvd_mul_left ..
    exact Int.dvd_natAbs.1 this

/-- 'n' rounded. -/
def rn (n : Int) : Int := if n < 0 then -(rnU 0 n.natAbs : Int) else rnU 0 n.natAbs

theorem rn_neg (n : Int) : rn (-n) = -rn n := by
  unfold rn
  rw [Int.natAbs_neg]
  by_cases h0 : n = 0
  · subst h0; simp [rnU, cutE]
  · split <;> split <;> omega
theorem rn_F (n : Int) : F (rn n) := by
  have h := (F_iff _).2 (rnU_FU 0 n.natAbs)
  unfold rn; split
  · exact F_neg h
  · exact h
theorem rn_near (n f : Int) (h : F f) : (n - rn n).natAbs ≤ (n - f).natAbs := by
  unfold rn; split
  · have := rnU_near 0 n.natAbs (-f) ((F_iff _).1 (F_neg h)); omega
  · have := rnU_near 0 n.natAbs f ((F_iff _).1 h); omega
theorem rn_id {f : Int} (h : F f) : rn f = f := by have := rn_near f f h; omega
theorem rn_dvd {n : Int} (k : Nat) (h : P k ∣ n) : P k ∣ rn n := by
  have h1 : 2 ^ k ∣ n.natAbs := Int.natCast_dvd_natCast.1 (Int.dvd_natAbs.2 h)
  have h2 : P k ∣ (rnU 0 n.natAbs : Int) := Int.natCast_dvd_natCast.2 (rnU_dvd 0 _ k h1)
  unfold rn; split
  · exact Int.dvd_neg.2 h2
  · exact h2
theorem rn_half {n : Int} (k : Nat) (h : (n.natAbs : Int) ≤ 9007199254740992 * P k) : 2 * ((n - rn n).natAbs : Int) ≤ P k := by
  have h1 := rnU_half 0 n.natAbs k (Nat.zero_le _) (Int.ofNat_le.1 (by rw [P53]; exact h))
  have h2 : ((2 * ((n.natAbs : Int) - rnU 0 n.natAbs).natAbs : Nat) : Int) ≤ P k := Int.ofNat_le.2 h1
  unfold rn; split <;> omega
theorem rn_mono {x y : Int} (h : x ≤ y) : rn x ≤ rn y := by
  by_cases e : x = y
  · subst e; exact Int.le_refl _
  · have h1 := rn_near x (rn y) (rn_F y)
    have h2 := rn_near y (rn x) (rn_F x)
    omega
theorem rn_zero : rn 0 = 0 := rn_id F_zero

/-- The last place of a number. -/
theorem ulp {f : Int} (h : F f) : ∃ k, P k ∣ f ∧ (f.natAbs : Int) + P k ≤ 9007199254740992 * P k ∧ (k = 0 ∨ 4503599627370496 * P k ≤ (f.natAbs : Int)) := by
  have hb : ∀ k, 0 < k → k = expo 0 f.natAbs → 4503599627370496 * P k ≤ (f.natAbs : Int) := by
    intro k hk e
    subst e
    have := pow_expo_le 0 f.natAbs hk
    have := Int.ofNat_le.2 this
    rwa [P52] at this
  have hl : (f.natAbs : Int) < 9007199254740992 * P (expo 0 f.natAbs) := by
    have := Int.ofNat_lt.2 (lt_pow_expo 0 f.natAbs)
    rwa [P53] at this
  have hd : P (expo 0 f.natAbs) ∣ f := by
    by_cases h0 : expo 0 f.natAbs = 0
    · rw [h0, P_zero]; exact Int.one_dvd _
    · exact F_big _ h (hb _ (by omega) rfl)
  refine ⟨expo 0 f.natAbs, hd, ?_, ?_⟩
  · have hp := P_pos (expo 0 f.natAbs)
    have h9 : P (expo 0 f.natAbs) ∣ 9007199254740992 * P (expo 0 f.natAbs) := Int.dvd_mul_left ..
    have := dvd_le (n := (f.natAbs : Int) + P (expo 0 f.natAbs)) (m := 9007199254740992 * P (expo 0 f.natAbs)) hp (Int.dvd_add (Int.dvd_natAbs.2 hd) (Int.dvd_refl _)) h9 (by omega)
    exact this
  · by_cases h0 : expo 0 f.natAbs = 0
    · exact .inl h0
    · exact .inr (hb _ (by omega) rfl)

theorem dvd_of_le {f g : Int} {k : Nat} (hg : F g) (hk : k = 0 ∨ 4503599627370496 * P k ≤ (f.natAbs : Int)) (h : f.natAbs ≤ g.natAbs) : P k ∣ g := by
  rcases hk with rfl | hk
  · rw [P_zero]; exact Int.one_dvd _
  · exact F_big k hg (by omega)

theorem err_F0 {a b : Int} (ha : F a) (hb : F b) (h : b.natAbs ≤ a.natAbs) : F (a + b - rn (a + b)) := by
  obtain ⟨k, h1, h2, h3⟩ := ulp hb
  have h4 : P k ∣ a := dvd_of_le ha h3 h
  have h5 : P k ∣ a + b := Int.dvd_add h4 h1
  have h6 := rn_near (a + b) a ha
  have hp := P_pos k
  exact F_of k (Int.dvd_sub h5 (rn_dvd k h5)) (by omega)
/-- The error of a sum is such a number. -/
theorem err_F {a b : Int} (ha : F a) (hb : F b) : F (a + b - rn (a + b)) := by
  by_cases h : b.natAbs ≤ a.natAbs
  · exact err_F0 ha hb h
  · rw [Int.add_comm]; exact err_F0 hb ha (by omega)

/-- Sterbenz. -/
theorem sterbenz {a b : Int} (ha : F a) (hb : F b) (h1 : b.natAbs ≤ a.natAbs) (h2 : (a + b).natAbs ≤ b.natAbs) : F (a + b) := by
  obtain ⟨k, k1, k2, k3⟩ := ulp hb
  have h4 : P k ∣ a := dvd_of_le ha k3 h1
  have hp := P_pos k
  exact F_of k (Int.dvd_add h4 k1) (by omega)

theorem dekker_pos {a b : Int} (ha : F a) (hb : F b) (h : b.natAbs ≤ a.natAbs) (h0 : 0 < a) : F (rn (a + b) - a) := by
  obtain ⟨k, k1, k2, k3⟩ := ulp ha
  have hp := P_pos k
  have half := rn_half (n := a + b) (k + 1) (by rw [P_succ]; omega)
  rw [P_succ] at half
  by_cases hs : P k ∣ rn (a + b)
  · exact F_of k (Int.dvd_sub hs k1) (by omega)
  · rcases k3 with rfl | k3
    · exact absurd (by rw [P_zero]; exact Int.one_dvd _) hs
    · have hlt : rn (a + b) < 4503599627370496 * P k := by
        by_cases hh : 4503599627370496 * P k ≤ rn (a + b)
        · exact absurd (F_big k (rn_F _) (by omega)) hs
        · omega
      by_cases hst : (a + b).natAbs ≤ b.natAbs
      · rw [rn_id (sterbenz ha hb h hst)]
        rw [show a + b - a = b by omega]; exact hb
      · have hab : a + b ≤ 4503599627370496 * P k := by
          by_cases hh : a + b ≤ 4503599627370496 * P k
          · exact hh
          · have := rn_mono (show 4503599627370496 * P k ≤ a + b by omega)
            rw [rn_id (F_52 k)] at this; omega
        rcases Nat.eq_zero_or_pos k with rfl | hk
        · exact absurd (by rw [P_zero]; exact Int.one_dvd _) hs
        · obtain ⟨j, rfl⟩ : ∃ j, k = j + 1 := ⟨k - 1, by omega⟩
          have hV := P_pos j
          rw [P_succ] at k2 k3 hlt hab
          have hlow : 4503599627370496 * P j ≤ rn (a + b) := by
            have := rn_mono (show 4503599627370496 * P j ≤ a + b by omega)
            rwa [rn_id (F_52 j)] at this
          have hVs : P j ∣ rn (a + b) := F_big j (rn_F _) (by omega)
          have hVa : P j ∣ a := Int.dvd_trans (P_dvd (by omega)) k1
          have hVd : P j ∣ rn (a + b) - a := Int.dvd_sub hVs hVa
          have half2 := rn_half (n := a + b) j (by omega)
          have hmb : P j ∣ 9007199254740992 * P j := Int.dvd_mul_left ..
          have := dvd_le (n := ((rn (a + b) - a).natAbs : Int)) (m := 9007199254740992 * P j) hV (Int.dvd_natAbs.2 hVd) hmb (by omega)
          exact F_of j hVd this
/-- Dekker: the first difference is exact. -/
theorem dekker {a b : Int} (ha : F a) (hb : F b) (h : b.natAbs ≤ a.natAbs) : F (rn (a + b) - a) := by
  by_cases h0 : 0 < a
  · exact dekker_pos ha hb h h0
  · by_cases h1 : a = 0
    · have : b = 0 := by omega
      subst h1; subst this; simp [rn_zero, F_zero]
    · have := dekker_pos (F_neg ha) (F_neg hb) (by omega) (by omega)
      rw [show -a + -b = -(a + b) by omega, rn_neg] at this
      have := F_neg this
      rwa [show -(-rn (a + b) - -a) = rn (a + b) - a by omega] at this

/-- FastTwoSum. -/
theorem fastTwoSum {a b : Int} (ha : F a) (hb : F b) (h : b.natAbs ≤ a.natAbs) : rn (b - rn (rn (a + b) - a)) = a + b - rn (a + b) := by
  rw [rn_id (dekker ha hb h), show b - (rn (a + b) - a) = a + b - rn (a + b) by omega]
  exact rn_id (err_F ha hb)

theorem knuth_pos {a b : Int} (ha : F a) (hb : F b) (h : a.natAbs < b.natAbs) (h0 : 0 < b) :
    F (rn (a + b) - rn (rn (a + b) - a)) ∧ F (b - rn (rn (a + b) - a)) := by
  have hd := err_F ha hb
  have near := rn_near (a + b) b hb
  by_cases hdz : rn (a + b) = a + b
  · have e : rn (rn (a + b) - a) = b := by rw [hdz, show a + b - a = b by omega]; exact rn_id hb
    rw [e, hdz]
    exact ⟨by rw [show a + b - b = a by omega]; exact ha, by rw [Int.sub_self]; exact F_zero⟩
  have nst : ¬ (a + b).natAbs ≤ a.natAbs := by
    intro hh
    have := sterbenz hb ha (by omega) (by rw [Int.add_comm]; exact hh)
    rw [Int.add_comm] at this
    exact hdz (rn_id this)
  obtain ⟨k, k1, k2, k3⟩ := ulp hb
  have hp := P_pos k
  have half := rn_half (n := a + b) (k + 1) (by rw [P_succ]; omega)
  rw [P_succ] at half
  have hbb := rn_half (n := rn (a + b) - a) k (by omega)
  have hη : F (rn (a + b) - a - rn (rn (a + b) - a)) := by
    have := err_F (rn_F (a + b)) (F_neg ha)
    rwa [show rn (a + b) + -a = rn (a + b) - a by omega] at this
  generalize hs : rn (a + b) = s at *
  have hsF : F s := by rw [← hs]; exact rn_F _
  generalize hbbe : rn (s - a) = bb at *
  have hbF : F bb := by rw [← hbbe]; exact rn_F _
  rcases Nat.eq_zero_or_pos k with rfl | hk
  · rw [P_zero] at hbb
    have : bb = s - a := by omega
    rw [this]
    exact ⟨by rw [show s - (s - a) = a by omega]; exact ha, by rw [show b - (s - a) = a + b - s by omega]; exact hd⟩
  · obtain ⟨j, rfl⟩ : ∃ j, k = j + 1 := ⟨k - 1, by omega⟩
    have hV := P_pos j
    have k3' : 4503599627370496 * P (j + 1) ≤ (b.natAbs : Int) := by
      rcases k3 with k3 | k3
      · omega
      · exact k3
    have hUV := P_succ j
    have hVb : P j ∣ b := Int.dvd_trans (P_dvd (by omega)) k1
    have hVbb : P j ∣ bb := F_big j hbF (by omega)
    have low : 4503599627370496 * P j ≤ s := by
      have := rn_mono (show 4503599627370496 * P j ≤ a + b by omega)
      rwa [rn_id (F_52 j), hs] at this
    have hVs : P j ∣ s := F_big j hsF (by omega)
    have hmb : P j ∣ 9007199254740992 * P j := Int.dvd_mul_left ..
    have d1 : P j ∣ s - bb := Int.dvd_sub hVs hVbb
    have d2 : P j ∣ b - bb := Int.dvd_sub hVb hVbb
    refine ⟨?_, F_of j d2 (by omega)⟩
    by_cases hU : P (j + 1) ∣ s ∧ P (j + 1) ∣ bb
    · exact F_of (j + 1) (Int.dvd_sub hU.1 hU.2) (by omega)
    · have small : (a.natAbs : Int) < 9007199254740992 * P j := by
        by_cases hUs : P (j + 1) ∣ s
        · have hlt : bb < 4503599627370496 * P (j + 1) := by
            by_cases hh : 4503599627370496 * P (j + 1) ≤ bb
            · exact absurd ⟨hUs, F_big (j + 1) hbF (by omega)⟩ hU
            · omega
          have h1 : s - a < 4503599627370496 * P (j + 1) := by
            by_cases hh : s - a < 4503599627370496 * P (j + 1)
            · exact hh
            · have := rn_mono (show 4503599627370496 * P (j + 1) ≤ s - a by omega)
              rw [rn_id (F_52 (j + 1)), hbbe] at this; omega
          have h2 := dvd_le (n := b) (m := 4503599627370496 * P (j + 1)) (P_pos (j + 1)) k1 (Int.dvd_mul_left ..) (by omega)
          omega
        · have hlt : s < 4503599627370496 * P (j + 1) := by
            by_cases hh : 4503599627370496 * P (j + 1) ≤ s
            · exact absurd (F_big (j + 1) hsF (by omega)) hUs
            · omega
          have h1 : a + b < 4503599627370496 * P (j + 1) := by
            by_cases hh : a + b < 4503599627370496 * P (j + 1)
            · exact hh
            · have := rn_mono (show 4503599627370496 * P (j + 1) ≤ a + b by omega)
              rw [rn_id (F_52 (j + 1)), hs] at this; omega
          omega
      have := dvd_le (n := ((s - bb).natAbs : Int)) (m := 9007199254740992 * P j) hV (Int.dvd_natAbs.2 d1) hmb (by omega)
      exact F_of j d1 this

theorem knuth {a b : Int} (ha : F a) (hb : F b) (h : a.natAbs < b.natAbs) :
    F (rn (a + b) - rn (rn (a + b) - a)) ∧ F (b - rn (rn (a + b) - a)) := by
  by_cases h0 : 0 < b
  · exact knuth_pos ha hb h h0
  · have := knuth_pos (F_neg ha) (F_neg hb) (by omega) (by omega)
    rw [show -a + -b = -(a + b) by omega, rn_neg, show -rn (a + b) - -a = -(rn (a + b) - a) by omega, rn_neg] at this
    refine ⟨?_, ?_⟩
    · have := F_neg this.1
      rwa [show -(-rn (a + b) - -rn (rn (a + b) - a)) = rn (a + b) - rn (rn (a + b) - a) by omega] at this
    · have := F_neg this.2
      rwa [show -(-b - -rn (rn (a + b) - a)) = b - rn (rn (a + b) - a) by omega] at this

/-- TwoSum. -/
theorem twoSum {a b s bb aa db da : Int} (ha : F a) (hb : F b) (hs : s = rn (a + b)) (hbb : bb = rn (s - a)) (haa : aa = rn (s - bb)) (hdb : db = rn (b - bb)) (hda : da = rn (a - aa)) :
    rn (da + db) = a + b - s := by
  have he := err_F ha hb
  rw [← hs] at he
  by_cases h : b.natAbs ≤ a.natAbs
  · have h1 := dekker ha hb h
    rw [← hs] at h1
    have e1 : bb = s - a := by rw [hbb]; exact rn_id h1
    have e2 : aa = a := by rw [haa, e1, show s - (s - a) = a by omega]; exact rn_id ha
    have e3 : db = a + b - s := by rw [hdb, e1, show b - (s - a) = a + b - s by omega]; exact rn_id he
    have e4 : da = 0 := by rw [hda, e2, Int.sub_self]; exact rn_zero
    rw [e3, e4, Int.zero_add]; exact rn_id he
  · have ⟨k1, k2⟩ := knuth ha hb (by omega)
    rw [← hs, ← hbb] at k1 k2
    have e2 : aa = s - bb := by rw [haa]; exact rn_id k1
    have e3 : db = b - bb := by rw [hdb]; exact rn_id k2
    have hη : F (s - a - bb) := by
      have := err_F (show F s by rw [hs]; exact rn_F _) (F_neg ha)
      rwa [show s + -a = s - a by omega, ← hbb] at this
    have e4 : da = a - aa := by
      rw [hda, e2]
      refine rn_id ?_
      have := F_neg hη
      rwa [show -(s - a - bb) = a - (s - bb) by omega] at this
    rw [e4, e3, e2, show a - (s - bb) + (b - bb) = a + b - s by omega]
    exact rn_id he

end Rn
