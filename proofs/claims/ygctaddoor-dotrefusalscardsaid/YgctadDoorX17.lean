import Derived.Test.YgctadDoorX16
import Derived.Test.YgctadDoorX5
import Derived.Test.YgctadDoorSw
import Derived.Deep.CutBlock
namespace Go.Proofs.YgctadDoor
open Go.RowKit Go.Acc Rn
set_option linter.unusedSimpArgs false
set_option linter.unusedVariables false

theorem joinTo_top {E : Nat} (hE : E ≤ 2040) : JoinTo 9007199254740992 ((E : Int) - 1074) 53 (-1074) 1024 (E * 4503599627370496 + 9007199254740992) true := fun w hT => by
  have hj : jnorm 9007199254740992 53 54 ((E : Int) - 1074) 53 (-1074) = (((E + 2) * 2 ^ 52 + 0 : Nat) : Int) :=
    jnorm_eq (F := E + 2) (q := 52) (f := 0) (k := 52) (by decide) (by decide) (by omega) (by decide) (by decide) (by decide) (by omega)
  have := join_norm 9007199254740992 53 54 ((E : Int) - 1074) 53 (-1074) 1024 (by decide) (by decide) (show Lib.ctz 64 9007199254740992 = 53 by decide +kernel) (show Lib.bitLen 9007199254740992 = 54 by decide +kernel) (by decide) (by decide) (by decide) (by omega) (by omega) (by decide) (by decide) (by decide) (by decide) (by omega) (by omega) (by omega) (by omega) w hT
  rw [hj, show (E + 2) * 2 ^ 52 + 0 = E * 4503599627370496 + 9007199254740992 by omega] at this
  exact this

theorem joinTo_round {n : Nat} (h0 : n ≠ 0) (hE : expo 0 n ≤ 2040) : JoinTo (cutE n (expo 0 n)) ((expo 0 n : Int) - 1074) 53 (-1074) 1024 (rung 0 n) true := by
  have hle := cutE_le 0 n
  have hge : expo 0 n = 0 ∨ 4503599627370496 ≤ cutE n (expo 0 n) := by
    by_cases h : 0 < expo 0 n
    · exact .inr (cutE_ge 0 n h)
    · exact .inl (by omega)
  have hz : expo 0 n = 0 → cutE n (expo 0 n) ≠ 0 := fun h => by
    rw [h]
    have := cutE_exact n 0 (by simp)
    simp at this
    omega
  unfold rung
  generalize cutE n (expo 0 n) = c at *
  generalize expo 0 n = E at *
  rw [Nat.sub_zero]
  by_cases h1 : c < 4503599627370496
  · have hE0 : E = 0 := by omega
    subst hE0
    have := joinTo_sub (m := c) (q := 52) (p := 53) (l := -1074) (t := 1024) (hz rfl) (by decide) (by omega) (by decide) (by decide) (by decide) (by decide) (by decide)
    rw [Nat.zero_mul, Nat.zero_add]
    exact this
  · by_cases h2 : c = 9007199254740992
    · subst h2; exact joinTo_top hE
    · have := joinTo_norm (q := 52) (f := c - 4503599627370496) (F := E + 1) (e := (E : Int) - 1074) (p := 53) (l := -1074) (t := 1024) (by decide) (by omega) (by decide) (by omega) (by omega) (by omega) (by decide) (by decide) (by decide) (by omega) (by omega)
      rw [show 2 ^ 52 + (c - 4503599627370496) = c by omega, show (E + 1) * 2 ^ 52 + (c - 4503599627370496) = E * 4503599627370496 + c by omega] at this
      exact this

/-- The word that 'Round' hands back. -/
theorem round_word {S : Int} (hS : (S.natAbs : Int) ≤ P 2060) : rung 0 S.natAbs < 9218868437227405312 ∧ Fw (rung 0 S.natAbs + if decide (S < 0) = true then 9223372036854775808 else 0) ∧ vz (rung 0 S.natAbs + if decide (S < 0) = true then 9223372036854775808 else 0) = rn S := by
  have hl : rung 0 S.natAbs < 9218868437227405312 := by
    refine rung_lt 0 _ ?_
    have h1 := lt_pow (m := rn S) (k := 2060) (t := TOP + 0) (by decide) (rn_le 2060 hS)
    rw [rn_abs] at h1
    exact h1
  have hm := mg_rung_rn 0 S.natAbs
  rw [Nat.pow_zero, Nat.mul_one] at hm
  refine ⟨hl, ?_, ?_⟩
  · generalize rung 0 S.natAbs = R at *
    unfold Fw fin
    by_cases h : S < 0
    · rw [if_pos (decide_eq_true h)]
      exact ⟨decide_eq_true (by omega), by omega⟩
    · rw [decide_eq_false h, if_neg (by decide)]
      exact ⟨decide_eq_true (by omega), by omega⟩
  · rw [rn_sign, ← hm]
    generalize rung 0 S.natAbs = R at *
    unfold vz
    by_cases h : S < 0
    · rw [if_pos (decide_eq_true h), if_pos h]
      have : sg (R + 9223372036854775808) = true := by unfold sg; rw [show (R + 9223372036854775808) / 9223372036854775808 % 2 = 1 by omega]; rfl
      rw [if_pos this, show (R + 9223372036854775808) % 9223372036854775808 = R by omega]
    · have hz : (if decide (S < 0) = true then 9223372036854775808 else 0) = 0 := by rw [decide_eq_false h]; rfl
      rw [hz, if_neg h, Nat.add_zero]
      have : sg R = false := by unfold sg; rw [show R / 9223372036854775808 % 2 = 0 by omega]; rfl
      rw [this, if_neg (by decide), show R % 9223372036854775808 = R by omega]

theorem zero_of {n N a : Nat} (hN : N = n * 2 ^ a) (h : N = 0) : n = 0 := by
  rw [h] at hN
  rcases Nat.mul_eq_zero.1 hN.symm with h2 | h2
  · exact h2
  · exact absurd h2 (Nat.ne_of_gt (Nat.two_pow_pos _))
theorem k_le {n N k a b : Nat} (hN : N = n * 2 ^ a) (hn : n ≤ 2 ^ b) (h : 2 ^ k ≤ N) : k ≤ b + a := by
  have h1 : 2 ^ k ≤ 2 ^ (b + a) := by
    rw [Nat.pow_add]
    exact Nat.le_trans (by rw [← hN]; exact h) (Nat.mul_le_mul_right _ hn)
  exact (Nat.pow_le_pow_iff_right (by decide)).1 h1
theorem N_lt {n N a b c : Nat} (hN : N = n * 2 ^ a) (hn : n ≤ 2 ^ b) (h : b + a < c) : N < 2 ^ c := by
  have h1 : N ≤ 2 ^ (b + a) := by rw [hN, Nat.pow_add]; exact Nat.mul_le_mul_right _ hn
  exact Nat.lt_of_le_of_lt h1 (Nat.pow_lt_pow_right (by decide) h)
theorem sgd_of {v : Int} {n a b : Nat} (hN : v.natAbs = n * 2 ^ a) (hn : n ≤ 2 ^ b) (h : b + a < 4351) : Sgd v := by
  have h1 := N_lt hN hn h
  have h2 : (v.natAbs : Int) < P 4351 := Int.ofNat_lt.2 h1
  unfold Sgd
  exact ⟨by omega, by omega⟩

set_option maxRecDepth 100000 in
set_option maxHeartbeats 2000000 in
theorem round_any (B : Nat) (S : Int) (hS : (S.natAbs : Int) ≤ P 2060) (w : World) (hT : Tab w) (hA : AccAt w B (dig (S * P 1074))) :
    Calls Tadg.prog 10 #[.pointer (some ⟨B, 0, none⟩)] w fun e w' => ∃ r, e = .returned (.float .f64 r) ∧ Fw r ∧ vz r = rn S ∧ (S = 0 → r = 0) ∧ Below w.heap.size w w' := by
  have hSn : Hid (S.natAbs ≤ 2 ^ 2060) := Int.ofNat_le.1 hS
  obtain ⟨rl, rw1, rw2⟩ := round_word hS
  have RW : Hid (Fw (rung 0 S.natAbs + if decide (S < 0) = true then 9223372036854775808 else 0) ∧ vz (rung 0 S.natAbs + if decide (S < 0) = true then 9223372036854775808 else 0) = rn S) := ⟨rw1, rw2⟩
  obtain ⟨v, hv⟩ : ∃ v, S * P 1074 = v := ⟨_, rfl⟩
  rw [hv] at hA
  obtain ⟨N, hN⟩ : ∃ N : Nat, v.natAbs = N := ⟨_, rfl⟩
  have hN' : N = S.natAbs * 2 ^ 1074 := by rw [← hN, ← hv, Int.natAbs_mul, natAbs_P]
  have hSg : Sgd v := sgd_of (by rw [hN]; exact hN') hSn.out (by decide)
  obtain ⟨A, hA1⟩ : ∃ A : Nat, Hid (A = 1074) := ⟨1074, rfl⟩
  have HN : Hid (N = S.natAbs * 2 ^ A) := by unfold Hid; rw [hA1.out]; exact hN'
  obtain ⟨M, hM⟩ : ∃ M : Nat, Hid (M = 68) := ⟨68, rfl⟩
  have HNl : Hid (N < 2 ^ (64 * M)) := N_lt hN' hSn.out (by have := hM.out; omega)
  have hsg : Hid (decide (sgn v < 0) = decide (S < 0)) := by
    have h1 : sgn v < 0 ↔ v < 0 := by
      unfold sgn
      by_cases a : v < 0
      · rw [if_pos a]; omega
      · rw [if_neg a]
        by_cases b : v = 0
        · rw [if_pos b]; omega
        · rw [if_neg b]; omega
    have h2 := (mul_pos_iff (c := S) (P_pos 1074)).1
    rw [hv] at h2
    unfold Hid
    exact decide_eq_decide.2 (h1.trans h2)
  clear hS hN' rw1 rw2 hv
  have hz := Tadg.zero29
  have n0 := AccAt.new w (dig 0)
  go_enter Tadg.func10, Tadg.ntmps10
  go_upto_region 7 with (first
    | (refine wpList_load_row rfl 29 _ rfl B rfl 29 _ (0, 0) _ hA Tadg.underlying29 rfl (Tadg.size29 _) ?_)
    | (refine wpList_store_row rfl 29 _ _ rfl w.heap.size _ rfl rfl 29 _ n0 (Tadg.size29 _) (by rw [accC_size, accC_size]) (accC_one _) ?_)
    | (go_at_call 30; refine (sign_any w.heap.size v hSg _ n0.setRow).mono ?_; rintro e w' ⟨rfl, hq⟩; obtain rfl := hq.symm)
    | (go_at_call 31; refine (abs_any w.heap.size v hSg _ n0.setRow).mono ?_; rintro e w2 ⟨rfl, hA2, o2⟩; rw [hN] at hA2)
    | (go_at_call 32; refine (highest_any w.heap.size N M hM HNl.out _ hA2).mono ?_; rintro e w' ⟨h, rfl, hq, hh0, hh1⟩; obtain rfl := hq.symm))
  have hB : Below w.heap.size w w2 := (below_row ((Below.refl _ _).alloc (Nat.le_refl _) _) (Nat.le_refl _) _).trans (o2.below (Nat.le_refl _))
  have hT2 : Tab w2 := hT.below hB hT.lt
  clear n0 o2 hA hT
  by_cases h0 : N = 0
  · obtain rfl := hh0 h0
    have hS0 : Hid (S = 0) := by have := zero_of HN.out h0; unfold Hid; omega
    clear hh0 hh1 h0 hA2
    go_wp2
    go_ret
    exact ⟨0, rfl, ⟨by decide, by decide⟩, by rw [hS0.out, rn_zero]; decide, fun _ => rfl, hB⟩
  · obtain ⟨k, rfl, k1, k2⟩ := hh1 h0
    have hn0 : S.natAbs ≠ 0 := by
      intro e
      exact h0 (by rw [HN.out, e, Nat.zero_mul])
    have hA2 := hA1.out
    have hk3 : k ≤ 3134 := by have := k_le HN.out hSn.out k1; omega
    obtain ⟨l, hl⟩ : ∃ l, l = max (k - 52) A := ⟨_, rfl⟩
    obtain ⟨L1, hL1⟩ : ∃ L1, l = L1 + 1 := ⟨l - 1, by omega⟩
    rw [HN.out] at k1 k2
    obtain ⟨p1, p2, p3⟩ := round_plain hn0 k1 k2 (by omega) hl
    rw [← HN.out, show l - 1 = L1 by omega] at p3
    rw [← HN.out] at p2
    have hl1 : l ≤ 3082 := by omega
    have hl2 : 1074 ≤ l := by omega
    have hJ : Hid (JoinTo (cutE S.natAbs (expo 0 S.natAbs)) ((l : Int) - 2148) 53 (-1074) 1024 (rung 0 S.natAbs) true) := by
      have := joinTo_round hn0 (by omega)
      rw [show ((expo 0 S.natAbs : Nat) : Int) - 1074 = (l : Int) - 2148 by omega] at this
      exact this
    obtain ⟨C, hC⟩ : ∃ C, cutE S.natAbs (expo 0 S.natAbs) = C := ⟨_, rfl⟩
    have hCle : C ≤ 9007199254740992 := by rw [← hC]; exact cutE_le 0 _
    rw [hC] at hJ p3
    obtain ⟨Q, hQ⟩ : ∃ Q, N / 2 ^ l = Q := ⟨_, rfl⟩
    rw [hQ] at p2 p3
    have HQ : Hid (N / 2 ^ l % 9007199254740992 = Q) := by unfold Hid; rw [hQ]; exact Nat.mod_eq_of_lt p2
    have HC : Hid (C = Q + if N / 2 ^ L1 % 2 = 1 ∧ (Q % 2 = 1 ∨ N % 2 ^ L1 ≠ 0) then 1 else 0) := p3
    have eL : (l : Int) - 1 = (L1 : Int) := by omega
    have hl3 : L1 < 4352 := by omega
    have HLk : Hid ((((k : Int) - 52 < 1074) → l = 1074) ∧ (¬ ((k : Int) - 52 < 1074) → (k : Int) - 52 = (l : Int))) := ⟨fun h => by omega, fun h => by omega⟩
    have HS0 : Hid (S ≠ 0) := fun e => hn0 (by rw [e]; rfl)
    obtain ⟨R, hR⟩ : ∃ R, rung 0 S.natAbs = R := ⟨_, rfl⟩
    rw [hR] at hJ rl RW
    clear hA2 p1 p3 k1 k2 hh0 hh1 h0 hn0 hl hL1 hQ hR hC
    go_upto_if 24 with fail
    go_cut [6] (fun lv wx => lv = .int .i64 l ∧ wx = w2)
    case first =>
      by_cases c : (k : Int) - 52 < 1074
      · have e : Hid (l = 1074) := HLk.out.1 c
        go_wp2
        all_goals
          go_meet
          first
            | exact ⟨by have h := e.out; go_num, rfl⟩
            | (exfalso; omega)
      · have e : Hid ((k : Int) - 52 = (l : Int)) := HLk.out.2 c
        go_wp2
        all_goals
          go_meet
          first
            | exact ⟨by have h := e.out; go_num, rfl⟩
            | (exfalso; omega)
    case rest =>
      obtain ⟨rfl, hwc⟩ := hcut
      obtain rfl := hwc.symm
      clear HLk
      go_upto_region 13 with (go_at_call 33; refine (field_any w.heap.size N l (l / 64) (l % 64) (by omega) (by unfold Hid; omega) (by omega) _ hA2).mono ?_; rintro e w' ⟨rfl, hq⟩; obtain rfl := hq.symm; rw [HQ.out])
      obtain ⟨up, hup⟩ : ∃ up, up = decide (N / 2 ^ L1 % 2 = 1 ∧ (Q % 2 = 1 ∨ N % 2 ^ L1 ≠ 0)) := ⟨_, rfl⟩
      have HU : Hid (up = decide (N / 2 ^ L1 % 2 = 1 ∧ (Q % 2 = 1 ∨ N % 2 ^ L1 ≠ 0))) := hup
      clear hup
      have hQ64 : Q < 18446744073709551616 := by omega
      have hand : bits .and .u64 (Q : Int) 1 = ((Q % 2 : Nat) : Int) := by
        have := u64_and_nat Q 1 hQ64 (by decide)
        rw [show ((1 : Nat) : Int) = 1 from rfl] at this
        rw [this, Nat.and_one_is_mod]
      go_cut [39] (fun bv wx => bv = .bool up ∧ wx = w2)
      case first =>
        by_cases hb : N / 2 ^ L1 % 2 = 1
        · by_cases ho : Q % 2 = 1
          · have h1 : (bits .and .u64 (Q : Int) 1 != 0) = true := by rw [hand, ho]; rfl
            have hu : Hid (up = true) := by unfold Hid; rw [HU.out]; exact decide_eq_true ⟨hb, .inl ho⟩
            clear hand HU
            go_wp2_with (go_at_call 34; refine (bit_any w.heap.size N L1 (L1 / 64) (L1 % 64) hl3 (by unfold Hid; omega) (by omega) _ hA2).mono ?_; rintro e w' ⟨rfl, hq⟩; obtain rfl := hq.symm; rw [decide_eq_true hb])
            go_meet
            exact ⟨by rw [hu.out], rfl⟩
          · have h1 : (bits .and .u64 (Q : Int) 1 != 0) = false := by rw [hand, show Q % 2 = 0 by omega]; rfl
            have hu : Hid (up = !decide (N % 2 ^ L1 = 0)) := by
              unfold Hid; rw [HU.out]
              by_cases hs : N % 2 ^ L1 = 0
              · rw [decide_eq_false (by rintro ⟨_, h | h⟩ <;> contradiction), decide_eq_true hs]; rfl
              · rw [decide_eq_true ⟨hb, .inr hs⟩, decide_eq_false hs]; rfl
            clear hand HU
            go_wp2_with (first
              | (go_at_call 34; refine (bit_any w.heap.size N L1 (L1 / 64) (L1 % 64) hl3 (by unfold Hid; omega) (by omega) _ hA2).mono ?_; rintro e w' ⟨rfl, hq⟩; obtain rfl := hq.symm; rw [decide_eq_true hb])
              | (go_at_call 35; refine (anyBelow_any w.heap.size N L1 (L1 / 64) (L1 % 64) hl3 (by unfold Hid; omega) (by omega) _ hA2).mono ?_; rintro e w' ⟨rfl, hq⟩; obtain rfl := hq.symm; rw [← hu.out]))
            go_meet
            exact ⟨rfl, rfl⟩
        · have hu : Hid (up = false) := by unfold Hid; rw [HU.out]; exact decide_eq_false fun h => hb h.1
          clear hand HU
          go_wp2_with (go_at_call 34; refine (bit_any w.heap.size N L1 (L1 / 64) (L1 % 64) hl3 (by unfold Hid; omega) (by omega) _ hA2).mono ?_; rintro e w' ⟨rfl, hq⟩; obtain rfl := hq.symm; rw [decide_eq_false hb])
          go_meet
          exact ⟨by rw [hu.out], rfl⟩
      case rest =>
        obtain ⟨rfl, hwc⟩ := hcut
        obtain rfl := hwc.symm
        clear hand
        rw [hsg.out]
        clear hsg
        generalize decide (S < 0) = ng at *
        cases up with
        | true =>
          have hC : Hid (C = Q + 1) := by unfold Hid; rw [HC.out, if_pos (of_decide_eq_true HU.out.symm)]
          have hJ1 : Hid (JoinTo (Q + 1) ((l : Int) - 2148) 53 (-1074) 1024 R true) := by unfold Hid; rw [← hC.out]; exact hJ.out
          clear HC HU
          cases ng
          all_goals go_wp2_with (go_at_call 36; refine (join64_ok _ (Q + 1) R ((l : Int) - 2148) (by omega) (by omega) hJ1.out (by omega) _ hT2).mono ?_; rintro e w' ⟨m, rfl, rfl⟩)
          all_goals
            go_ret
            exact ⟨_, rfl, RW.out.1, RW.out.2, fun h => absurd h HS0.out, below_drewN hB _⟩
        | false =>
          have hC : Hid (C = Q) := by unfold Hid; rw [HC.out, if_neg (of_decide_eq_false HU.out.symm)]; rfl
          have hJ1 : Hid (JoinTo Q ((l : Int) - 2148) 53 (-1074) 1024 R true) := by unfold Hid; rw [← hC.out]; exact hJ.out
          clear HC HU
          cases ng
          all_goals go_wp2_with (go_at_call 36; refine (join64_ok _ Q R ((l : Int) - 2148) (by omega) (by omega) hJ1.out (by omega) _ hT2).mono ?_; rintro e w' ⟨m, rfl, rfl⟩)
          all_goals
            go_ret
            exact ⟨_, rfl, RW.out.1, RW.out.2, fun h => absurd h HS0.out, below_drewN hB _⟩
end Go.Proofs.YgctadDoor
