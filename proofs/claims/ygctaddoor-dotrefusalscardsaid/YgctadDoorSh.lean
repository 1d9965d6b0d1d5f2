/-
  PLAIN: sums in parts that do not overlap, after Shewchuk. No Go here.
-/
import Derived.Test.YgctadDoorEft
namespace Rn
set_option linter.unusedVariables false

/-- Partials, least first: each lies wholly below all that follow. -/
def Par : List Int → Prop
  | [] => True
  | a :: l => F a ∧ a ≠ 0 ∧ (∃ s, (a.natAbs : Int) < P s ∧ ∀ p ∈ l, P s ∣ p) ∧ Par l

/-- Amid 'Grow': the kept errors, the sum on its way, the partials to come. -/
def Gr : List Int → Int → List Int → Prop
  | [], x, rest => F x ∧ Par rest
  | a :: h, x, rest => F a ∧ a ≠ 0 ∧ (∃ s, (a.natAbs : Int) < P s ∧ (∀ p ∈ h, P s ∣ p) ∧ P s ∣ x ∧ ∀ p ∈ rest, P s ∣ p) ∧ Gr h x rest

theorem Gr.start {x : Int} {ps : List Int} (hx : F x) (h : Par ps) : Gr [] x ps := ⟨hx, h⟩
theorem Gr.x {x : Int} {rest : List Int} : ∀ {h : List Int}, Gr h x rest → F x
  | [], hg => hg.1
  | _ :: _, hg => Gr.x hg.2.2.2
theorem Gr.rest {x : Int} {rest : List Int} : ∀ {h : List Int}, Gr h x rest → Par rest
  | [], hg => hg.2
  | _ :: _, hg => Gr.rest hg.2.2.2

theorem rn_dvd_expo (n : Int) : P (expo 0 n.natAbs) ∣ rn n := by
  have h : P (expo 0 n.natAbs) ∣ ((rnU 0 n.natAbs : Nat) : Int) := by
    unfold rnU P; rw [Int.natCast_mul]; exact Int.dvd_mul_left ..
  unfold rn
  split
  · exact Int.dvd_neg.2 h
  · exact h
theorem rn_err_expo (n : Int) : 2 * ((n - rn n).natAbs : Int) ≤ P (expo 0 n.natAbs) := by
  refine rn_half _ ?_
  have := Int.ofNat_le.2 (Nat.le_of_lt (lt_pow_expo 0 n.natAbs))
  rwa [P53] at this

theorem Gr.step {x p : Int} {rest : List Int} : ∀ {h : List Int}, Gr h x (p :: rest) →
    (x + p - rn (x + p) ≠ 0 → Gr (h ++ [x + p - rn (x + p)]) (rn (x + p)) rest) ∧ (x + p - rn (x + p) = 0 → Gr h (rn (x + p)) rest)
  | [], hg => by
    obtain ⟨hx, hp, hp0, ⟨t, t1, t2⟩, hr⟩ := hg
    refine ⟨fun he => ⟨err_F hx hp, he, ?_, rn_F _, hr⟩, fun _ => ⟨rn_F _, hr⟩⟩
    have e1 := rn_err_expo (x + p)
    have e2 := rn_dvd_expo (x + p)
    have e3 := rn_near (x + p) x hx
    generalize expo 0 (x + p).natAbs = k at *
    have hk := P_pos k
    by_cases hkt : k ≤ t
    · exact ⟨k, by omega, fun q hq => absurd hq (List.not_mem_nil), e2, fun q hq => Int.dvd_trans (P_dvd hkt) (t2 q hq)⟩
    · exact ⟨t, by omega, fun q hq => absurd hq (List.not_mem_nil), Int.dvd_trans (P_dvd (by omega)) e2, t2⟩
  | a :: h, hg => by
    obtain ⟨fa, a0, ⟨s, s1, s2, s3, s4⟩, hg'⟩ := hg
    have ih := Gr.step hg'
    have d1 : P s ∣ x + p := Int.dvd_add s3 (s4 p (List.mem_cons_self ..))
    have d2 := rn_dvd s d1
    have d3 := Int.dvd_sub d1 d2
    refine ⟨fun he => ⟨fa, a0, ⟨s, s1, ?_, d2, fun q hq => s4 q (List.mem_cons_of_mem _ hq)⟩, ih.1 he⟩, fun he => ⟨fa, a0, ⟨s, s1, s2, d2, fun q hq => s4 q (List.mem_cons_of_mem _ hq)⟩, ih.2 he⟩⟩
    intro q hq
    rcases List.mem_append.1 hq with hq | hq
    · exact s2 q hq
    · rw [List.mem_singleton.1 hq]; exact d3

theorem Gr.done {x : Int} : ∀ {h : List Int}, Gr h x [] → (x ≠ 0 → Par (h ++ [x])) ∧ (x = 0 → Par h)
  | [], hg => ⟨fun h0 => ⟨hg.1, h0, ⟨x.natAbs, by unfold P; exact Int.ofNat_lt.2 Nat.lt_two_pow_self, fun q hq => absurd hq List.not_mem_nil⟩, trivial⟩, fun _ => trivial⟩
  | a :: h, hg => by
    obtain ⟨fa, a0, ⟨s, s1, s2, s3, _⟩, hg'⟩ := hg
    have ih := Gr.done hg'
    refine ⟨fun h0 => ⟨fa, a0, ⟨s, s1, ?_⟩, ih.1 h0⟩, fun h0 => ⟨fa, a0, ⟨s, s1, s2⟩, ih.2 h0⟩⟩
    intro q hq
    rcases List.mem_append.1 hq with hq | hq
    · exact s2 q hq
    · rw [List.mem_singleton.1 hq]; exact s3

theorem dvd_sum {s : Nat} : ∀ {l : List Int}, (∀ p ∈ l, P s ∣ p) → P s ∣ l.sum
  | [], _ => Int.dvd_zero _
  | a :: l, h => by
    rw [List.sum_cons]
    exact Int.dvd_add (h a (List.mem_cons_self ..)) (dvd_sum fun p hp => h p (List.mem_cons_of_mem _ hp))

theorem le_of_dvd {k : Nat} {n : Int} (h : P k ∣ n) (h0 : n ≠ 0) : P k ≤ (n.natAbs : Int) := by
  have := Nat.le_of_dvd (by omega) (Int.natAbs_dvd_natAbs.2 h)
  have h2 : (P k).natAbs = 2 ^ k := by unfold P; exact Int.natAbs_natCast _
  rw [h2] at this
  exact Int.ofNat_le.2 this

theorem lt_of_P_lt {j k : Nat} (h : P j < P k) : j < k := by
  by_cases h1 : j < k
  · exact h1
  · have := P_le (show k ≤ j by omega); omega

/-- What lies below: less than a unit of all above, and of the sign of its last. -/
theorem Par.low {q : Int} {rest : List Int} : ∀ {l : List Int}, Par (l ++ q :: rest) → ∃ s, ((l ++ [q]).sum.natAbs : Int) < P s ∧ (∀ r ∈ rest, P s ∣ r) ∧ (l ++ [q]).sum ≠ 0 ∧ (0 < (l ++ [q]).sum ↔ 0 < q)
  | [], h => by
    obtain ⟨_, h0, ⟨s, s1, s2⟩, _⟩ := h
    exact ⟨s, by simpa using s1, s2, by simpa using h0, by simp⟩
  | a :: l, h => by
    obtain ⟨_, h0, ⟨s, s1, s2⟩, h'⟩ := h
    obtain ⟨t, t1, t2, t3, t4⟩ := Par.low h'
    have ds : P s ∣ (l ++ [q]).sum := dvd_sum fun p hp => s2 p (by
      rcases List.mem_append.1 hp with hp | hp
      · exact List.mem_append_left _ hp
      · rw [List.mem_singleton.1 hp]; exact List.mem_append_right _ (List.mem_cons_self ..))
    have l1 := le_of_dvd ds t3
    have hst : s < t := lt_of_P_lt (by omega)
    have dt : P s ∣ P t := P_dvd (by omega)
    have hs := P_pos s
    rw [List.cons_append, List.sum_cons]
    generalize (l ++ [q]).sum = z at *
    have b1 : z ≤ P t - P s := dvd_le hs ds (Int.dvd_sub dt (Int.dvd_refl _)) (by omega)
    have b2 : -z ≤ P t - P s := dvd_le hs (Int.dvd_neg.2 ds) (Int.dvd_sub dt (Int.dvd_refl _)) (by omega)
    exact ⟨t, by omega, t2, by omega, by rw [← t4]; omega⟩

theorem Par.tail {l : List Int} {rest : List Int} : Par (l ++ rest) → Par rest := by
  induction l with
  | nil => exact id
  | cons a l ih => exact fun h => ih h.2.2.2
theorem Par.sum_ne : ∀ {l : List Int}, Par l → l ≠ [] → l.sum ≠ 0
  | [], _, h => absurd rfl h
  | [a], h, _ => by simpa using h.2.1
  | a :: b :: l, h, _ => by
    obtain ⟨_, h0, ⟨s, s1, s2⟩, h'⟩ := h
    have := Par.sum_ne h' (by simp)
    have := le_of_dvd (dvd_sum s2) this
    rw [List.sum_cons]
    omega

theorem rn_unique {g : Nat} {T c : Int} (h1 : 4503599627370496 * P g ≤ T) (h2 : T ≤ 9007199254740992 * P g) (hc : P g ∣ c) (h : 2 * ((T - c).natAbs : Int) < P g) : rn T = c := by
  have hg := P_pos g
  have a1 : 4503599627370496 * P g ≤ rn T := by have := rn_mono h1; rwa [rn_id (F_52 g)] at this
  have a2 : P g ∣ rn T := F_big g (rn_F T) (by omega)
  have a3 := rn_half (n := T) g (by omega)
  have b1 : rn T ≤ c := dvd_le hg a2 hc (by omega)
  have b2 : c ≤ rn T := dvd_le hg hc a2 (by omega)
  omega

/-- The last rounding, for a positive sum. -/
theorem finish_pos {Y R : Int} {s : Nat} (hY : 0 < Y) (hs : P s ∣ Y) (hR : (R.natAbs : Int) < P s) (hR0 : R ≠ 0) (hl : Y - rn Y ≠ 0) :
    ((0 < R ↔ 0 < Y - rn Y) → rn (Y + R) = if rn (rn (rn Y + 2 * (Y - rn Y)) - rn Y) = 2 * (Y - rn Y) then rn (rn Y + 2 * (Y - rn Y)) else rn Y) ∧
    (¬ (0 < R ↔ 0 < Y - rn Y) → rn (Y + R) = rn Y) := by
  have e1 := rn_err_expo Y
  have e2 := rn_dvd_expo Y
  have u1 : Y < 9007199254740992 * P (expo 0 Y.natAbs) := by
    have := Int.ofNat_lt.2 (lt_pow_expo 0 Y.natAbs)
    rw [P53] at this
    omega
  have g1 : 0 < expo 0 Y.natAbs := by
    by_cases h : expo 0 Y.natAbs = 0
    · rw [h, P_zero] at e1; omega
    · omega
  have u2 : 4503599627370496 * P (expo 0 Y.natAbs) ≤ Y := by
    have := Int.ofNat_le.2 (pow_expo_le 0 Y.natAbs g1)
    rw [P52] at this
    omega
  generalize expo 0 Y.natAbs = g at *
  obtain ⟨j, rfl⟩ : ∃ j, g = j + 1 := ⟨g - 1, by omega⟩
  have hG := P_succ j
  have hj := P_pos j
  have hps := P_pos s
  have dl : P s ∣ Y - rn Y := Int.dvd_sub hs (rn_dvd s hs)
  have l1 := le_of_dvd dl hl
  have hsj : s ≤ j := by
    by_cases h : s ≤ j
    · exact h
    · have := P_le (show j + 1 ≤ s by omega); omega
  have dsj : P s ∣ P j := P_dvd hsj
  have dsG : P s ∣ P (j + 1) := P_dvd (by omega)
  have d52 : P s ∣ 4503599627370496 * P (j + 1) := Int.dvd_trans dsG (Int.dvd_mul_left ..)
  have d53 : P s ∣ 9007199254740992 * P (j + 1) := Int.dvd_trans dsG (Int.dvd_mul_left ..)
  have v2 : 4503599627370496 * P (j + 1) + P s ≤ Y := by
    by_cases h : Y = 4503599627370496 * P (j + 1)
    · exact absurd (by rw [h, rn_id (F_52 _)]; omega) hl
    · by_cases h' : Y < 4503599627370496 * P (j + 1) + P s
      · have := dvd_le hps hs d52 h'; omega
      · omega
  have v1 : Y + P s ≤ 9007199254740992 * P (j + 1) := by
    by_cases h' : 9007199254740992 * P (j + 1) < Y + P s
    · have := dvd_le hps d53 hs h'; omega
    · omega
  -- the ends of the stretch
  obtain ⟨H, hH⟩ : ∃ H, rn Y = H := ⟨_, rfl⟩
  obtain ⟨L, hL⟩ : ∃ L, Y - H = L := ⟨_, rfl⟩
  rw [hH] at e1 e2 hl dl l1 ⊢
  rw [hL] at e1 hl dl l1 ⊢
  have hY' : Y = H + L := by omega
  subst hY'
  have w1 : 4503599627370496 * P (j + 1) ≤ H := by have := rn_mono u2; rwa [rn_id (F_52 _), hH] at this
  have w2 : H ≤ 9007199254740992 * P (j + 1) := by have := rn_mono (Int.le_of_lt u1); rwa [rn_id (F_53 _), hH] at this
  have dG := Int.dvd_refl (P (j + 1))
  have x1 : 0 < L → H + P (j + 1) ≤ 9007199254740992 * P (j + 1) := fun h => by
    by_cases h' : 9007199254740992 * P (j + 1) < H + P (j + 1)
    · have := dvd_le (P_pos _) (Int.dvd_mul_left ..) e2 h'; omega
    · omega
  have x2 : L < 0 → 4503599627370496 * P (j + 1) + P (j + 1) ≤ H := fun h => by
    by_cases h' : H < 4503599627370496 * P (j + 1) + P (j + 1)
    · have := dvd_le (P_pos _) e2 (Int.dvd_mul_left ..) h'; omega
    · omega
  have nL : 2 * (L.natAbs : Int) < P (j + 1) → (L.natAbs : Int) + P s ≤ P j := fun h => by
    have y1 : L ≤ P j - P s := dvd_le hps dl (Int.dvd_sub dsj (Int.dvd_refl _)) (by omega)
    have y2 : -L ≤ P j - P s := dvd_le hps (Int.dvd_neg.2 dl) (Int.dvd_sub dsj (Int.dvd_refl _)) (by omega)
    omega
  by_cases hh : 2 * (L.natAbs : Int) < P (j + 1)
  · have n1 := nL hh
    have key : rn (H + L + R) = H := rn_unique (g := j + 1) (by omega) (by omega) e2 (by omega)
    refine ⟨fun _ => ?_, fun _ => key⟩
    rw [key]
    have r1 : 4503599627370496 * P (j + 1) ≤ rn (H + 2 * L) := by
      have := rn_mono (show 4503599627370496 * P (j + 1) ≤ H + 2 * L by omega)
      rwa [rn_id (F_52 _)] at this
    have r2 : P (j + 1) ∣ rn (H + 2 * L) := F_big (j + 1) (rn_F _) (by omega)
    have r3 := rn_half (n := H + 2 * L) (j + 1) (by omega)
    have r4 : P (j + 1) ∣ rn (H + 2 * L) - H := Int.dvd_sub r2 e2
    have r5 : rn (rn (H + 2 * L) - H) = rn (H + 2 * L) - H := rn_id (F_of (j + 1) r4 (by omega))
    rw [if_neg]
    rw [r5]
    intro h
    rw [h] at r4
    have := le_of_dvd r4 (by omega)
    omega
  · have hh' : 2 * (L.natAbs : Int) = P (j + 1) := by omega
    have d2L : P (j + 1) ∣ 2 * L := by
      have : 2 * L = P (j + 1) ∨ 2 * L = -P (j + 1) := by omega
      rcases this with h | h
      · rw [h]; exact Int.dvd_refl _
      · rw [h]; exact Int.dvd_neg.2 (Int.dvd_refl _)
    have dN : P (j + 1) ∣ H + 2 * L := Int.dvd_add e2 d2L
    have rN : rn (H + 2 * L) = H + 2 * L := rn_id (F_of (j + 1) dN (by omega))
    have r5 : rn (H + 2 * L - H) = 2 * L := by
      rw [show H + 2 * L - H = 2 * L by omega]
      exact rn_id (F_of (j + 1) d2L (by omega))
    rw [rN, r5, if_pos rfl]
    exact ⟨fun h => rn_unique (g := j + 1) (by omega) (by omega) dN (by omega), fun h => rn_unique (g := j + 1) (by omega) (by omega) e2 (by omega)⟩

theorem finish_any {Y R : Int} {s : Nat} (hs : P s ∣ Y) (hR : (R.natAbs : Int) < P s) (hR0 : R ≠ 0) (hl : Y - rn Y ≠ 0) :
    ((0 < R ↔ 0 < Y - rn Y) → rn (Y + R) = if rn (rn (rn Y + 2 * (Y - rn Y)) - rn Y) = 2 * (Y - rn Y) then rn (rn Y + 2 * (Y - rn Y)) else rn Y) ∧
    (¬ (0 < R ↔ 0 < Y - rn Y) → rn (Y + R) = rn Y) := by
  by_cases hY : 0 < Y
  · exact finish_pos hY hs hR hR0 hl
  · have hY0 : Y ≠ 0 := by rintro rfl; exact hl (by rw [rn_zero]; rfl)
    have h := finish_pos (Y := -Y) (R := -R) (s := s) (by omega) (Int.dvd_neg.2 hs) (by omega) (by omega) (by rw [rn_neg]; omega)
    rw [rn_neg, show -Y - -rn Y = -(Y - rn Y) by omega, show -Y + -R = -(Y + R) by omega, rn_neg, show -rn Y + 2 * -(Y - rn Y) = -(rn Y + 2 * (Y - rn Y)) by omega, rn_neg,
      show -rn (rn Y + 2 * (Y - rn Y)) - -rn Y = -(rn (rn Y + 2 * (Y - rn Y)) - rn Y) by omega, rn_neg] at h
    obtain ⟨h1, h2⟩ := h
    refine ⟨fun h => ?_, fun h => ?_⟩
    · have := h1 (by omega)
      by_cases hc : rn (rn (rn Y + 2 * (Y - rn Y)) - rn Y) = 2 * (Y - rn Y)
      · rw [if_pos hc]; rw [if_pos (by omega)] at this; omega
      · rw [if_neg hc]; rw [if_neg (by omega)] at this; omega
    · have := h2 (by omega)
      omega

end Rn
