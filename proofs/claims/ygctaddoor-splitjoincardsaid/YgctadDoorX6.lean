import Derived.Test.YgctadDoorX5
import Derived.Test.YgctadDoorSp
namespace Go.Proofs.YgctadDoor
open Go.RowKit
set_option linter.unusedSimpArgs false
set_option linter.unusedVariables false

set_option maxHeartbeats 1000000 in
theorem sj64_norm (p F m R m1 m2 : Nat) (N : Bool) (hp : p < 18446744073709551616) (w : World) (hT : Tab w)
    (s1 : Fl.spNeg p = N) (s2 : Fl.spMan p = m + 4503599627370496) (s3 : Fl.spExp p = (F : Int) - 1075) (s4 : Fl.spCls p = 1)
    (e1 : bits .and .u64 ((p : Int) / 4503599627370496) 2047 = (F : Int)) (e2 : bits .and .u64 (p : Int) 4503599627370495 = (m : Int)) (e6 : ((p : Int) / 9223372036854775808 != 0) = N)
    (f1 : (F : Int) ≠ 0) (f2 : (F : Int) ≠ 2047) (fl : F < 2048) (ml : m < 4503599627370496)
    (HJ : Hid (JoinTo (m + 4503599627370496) ((F : Int) - 1075) 53 (-1074) 1024 R true)) (hR : R < 9223372036854775808) (hQ : Hid ((R + if N then 9223372036854775808 else 0) = p))
    (o1 : bits .or .u64 (bits .or .u64 ((m : Int) + 4503599627370496) 9007199254740992) 1 = (m1 : Int)) (o2 : bits .or .u64 ((m : Int) + 4503599627370496) 1 = (m2 : Int))
    (HA : Hid (JoinTo m1 ((F : Int) - 1075) 53 (-1074) 1024 0 false)) (HB : Hid (∀ E : Int, E = -1075 ∨ E = 1024 → JoinTo m2 E 53 (-1074) 1024 0 false)) :
    Calls Tadg.prog 26 #[.int .u64 p] w fun x w' => ∃ n, x = .returned (.bool true) ∧ w' = w.drewN n := by
  have HT : Hid (Tab w) := hT
  go_enter Tadg.func26, Tadg.ntmps26
  go_wp2_with (first
    | (go_at_call 18; refine (f64_any _ _).mono ?_; rintro x w' ⟨rfl, hq⟩; obtain rfl := hq.symm; rw [Int.toNat_natCast])
    | (go_at_call 24; refine (split64_any _ hp _).mono ?_; rintro x w' ⟨rfl, hq⟩; obtain rfl := hq.symm; rw [s1, s2, s3, s4])
    | (go_at_call 36; refine (join64_ok N (m + 4503599627370496) R ((F : Int) - 1075) (by omega) (by omega) HJ.out hR _ HT.out).mono ?_; rintro x w' ⟨n1, rfl, rfl⟩; rw [hQ.out])
    | (go_at_call 38; refine (b64_any _ _).mono ?_; rintro x w' ⟨rfl, rfl⟩)
    | (go_at_call_of 51 (Value.int IntKind.u64 (m1 : Int)); refine (refused64_any N m1 _ (by omega) (by omega) HA.out _ (HT.out.drewN _)).mono ?_; rintro x w' ⟨n2, rfl, rfl⟩)
    | (go_at_call_of 51 (Value.int IntKind.u64 (m2 : Int)); refine (refused64_any N m2 _ (by omega) (by omega) (HB.out _ (by first | exact .inl rfl | exact .inr rfl)) _ (HT.out.drewN _)).mono ?_; rintro x w' ⟨n3, rfl, rfl⟩))
  go_ret
  first
    | exact ⟨_, rfl, rfl⟩
    | exact ⟨rfl, _, rfl⟩
set_option maxHeartbeats 1000000 in
theorem sj64_sub (p m R m1 m2 : Nat) (N : Bool) (hp : p < 18446744073709551616) (w : World) (hT : Tab w)
    (s1 : Fl.spNeg p = N) (s2 : Fl.spMan p = m) (s3 : Fl.spExp p = -1074) (s4 : Fl.spCls p = 1)
    (e1 : bits .and .u64 ((p : Int) / 4503599627370496) 2047 = 0) (e2 : bits .and .u64 (p : Int) 4503599627370495 = (m : Int)) (e6 : ((p : Int) / 9223372036854775808 != 0) = N)
    (f1 : (m : Int) ≠ 0) (ml : m < 4503599627370496)
    (HJ : Hid (JoinTo (m) (-1074) 53 (-1074) 1024 R true)) (hR : R < 9223372036854775808) (hQ : Hid ((R + if N then 9223372036854775808 else 0) = p))
    (o1 : bits .or .u64 (bits .or .u64 ((m : Int)) 9007199254740992) 1 = (m1 : Int)) (o2 : bits .or .u64 ((m : Int)) 1 = (m2 : Int))
    (HA : Hid (JoinTo m1 (-1074) 53 (-1074) 1024 0 false)) (HB : Hid (∀ E : Int, E = -1075 ∨ E = 1024 → JoinTo m2 E 53 (-1074) 1024 0 false)) :
    Calls Tadg.prog 26 #[.int .u64 p] w fun x w' => ∃ n, x = .returned (.bool true) ∧ w' = w.drewN n := by
  have HT : Hid (Tab w) := hT
  go_enter Tadg.func26, Tadg.ntmps26
  go_wp2_with (first
    | (go_at_call 18; refine (f64_any _ _).mono ?_; rintro x w' ⟨rfl, hq⟩; obtain rfl := hq.symm; rw [Int.toNat_natCast])
    | (go_at_call 24; refine (split64_any _ hp _).mono ?_; rintro x w' ⟨rfl, hq⟩; obtain rfl := hq.symm; rw [s1, s2, s3, s4])
    | (go_at_call 36; refine (join64_ok N (m) R (-1074) (by omega) (by omega) HJ.out hR _ HT.out).mono ?_; rintro x w' ⟨n1, rfl, rfl⟩; rw [hQ.out])
    | (go_at_call 38; refine (b64_any _ _).mono ?_; rintro x w' ⟨rfl, rfl⟩)
    | (go_at_call_of 51 (Value.int IntKind.u64 (m1 : Int)); refine (refused64_any N m1 _ (by omega) (by omega) HA.out _ (HT.out.drewN _)).mono ?_; rintro x w' ⟨n2, rfl, rfl⟩)
    | (go_at_call_of 51 (Value.int IntKind.u64 (m2 : Int)); refine (refused64_any N m2 _ (by omega) (by omega) (HB.out _ (by first | exact .inl rfl | exact .inr rfl)) _ (HT.out.drewN _)).mono ?_; rintro x w' ⟨n3, rfl, rfl⟩))
  go_ret
  first
    | exact ⟨_, rfl, rfl⟩
    | exact ⟨rfl, _, rfl⟩
set_option maxHeartbeats 1000000 in
theorem sj64_zero (p R m1 m2 : Nat) (N : Bool) (hp : p < 18446744073709551616) (w : World) (hT : Tab w)
    (s1 : Fl.spNeg p = N) (s2 : Fl.spMan p = 0) (s3 : Fl.spExp p = 0) (s4 : Fl.spCls p = 0)
    (e1 : bits .and .u64 ((p : Int) / 4503599627370496) 2047 = 0) (e2 : bits .and .u64 (p : Int) 4503599627370495 = 0) (e6 : ((p : Int) / 9223372036854775808 != 0) = N)
    
    (HJ : Hid (JoinTo (0) 0 53 (-1074) 1024 R true)) (hR : R < 9223372036854775808) (hQ : Hid ((R + if N then 9223372036854775808 else 0) = p))
    (o1 : bits .or .u64 (bits .or .u64 0 9007199254740992) 1 = (m1 : Int)) (o2 : bits .or .u64 0 1 = (m2 : Int))
    (HA : Hid (JoinTo m1 0 53 (-1074) 1024 0 false)) (HB : Hid (∀ E : Int, E = -1075 ∨ E = 1024 → JoinTo m2 E 53 (-1074) 1024 0 false)) :
    Calls Tadg.prog 26 #[.int .u64 p] w fun x w' => ∃ n, x = .returned (.bool true) ∧ w' = w.drewN n := by
  have HT : Hid (Tab w) := hT
  go_enter Tadg.func26, Tadg.ntmps26
  go_wp2_with (first
    | (go_at_call 18; refine (f64_any _ _).mono ?_; rintro x w' ⟨rfl, hq⟩; obtain rfl := hq.symm; rw [Int.toNat_natCast])
    | (go_at_call 24; refine (split64_any _ hp _).mono ?_; rintro x w' ⟨rfl, hq⟩; obtain rfl := hq.symm; rw [s1, s2, s3, s4])
    | (go_at_call 36; refine (join64_ok N (0) R 0 (by omega) (by omega) HJ.out hR _ HT.out).mono ?_; rintro x w' ⟨n1, rfl, rfl⟩; rw [hQ.out])
    | (go_at_call 38; refine (b64_any _ _).mono ?_; rintro x w' ⟨rfl, rfl⟩)
    | (go_at_call_of 51 (Value.int IntKind.u64 (m1 : Int)); refine (refused64_any N m1 _ (by omega) (by omega) HA.out _ (HT.out.drewN _)).mono ?_; rintro x w' ⟨n2, rfl, rfl⟩)
    | (go_at_call_of 51 (Value.int IntKind.u64 (m2 : Int)); refine (refused64_any N m2 _ (by omega) (by omega) (HB.out _ (by first | exact .inl rfl | exact .inr rfl)) _ (HT.out.drewN _)).mono ?_; rintro x w' ⟨n3, rfl, rfl⟩))
  go_ret
  first
    | exact ⟨_, rfl, rfl⟩
    | exact ⟨rfl, _, rfl⟩
set_option maxHeartbeats 1000000 in
theorem sj64_inf (p m : Nat) (N : Bool) (hp : p < 18446744073709551616) (w : World)
    (s1 : Fl.spNeg p = N) (s2 : Fl.spMan p = 0) (s3 : Fl.spExp p = 0) (s4 : Fl.spCls p = 2)
    (e1 : bits .and .u64 ((p : Int) / 4503599627370496) 2047 = 2047) (e2 : bits .and .u64 (p : Int) 4503599627370495 = 0) (e6 : ((p : Int) / 9223372036854775808 != 0) = N)  :
    Calls Tadg.prog 26 #[.int .u64 p] w fun x w' => ∃ n, x = .returned (.bool true) ∧ w' = w.drewN n := by
  go_enter Tadg.func26, Tadg.ntmps26
  go_wp2_with (first
    | (go_at_call 18; refine (f64_any _ _).mono ?_; rintro x w' ⟨rfl, hq⟩; obtain rfl := hq.symm; rw [Int.toNat_natCast])
    | (go_at_call 24; refine (split64_any _ hp _).mono ?_; rintro x w' ⟨rfl, hq⟩; obtain rfl := hq.symm; rw [s1, s2, s3, s4]))
  go_ret
  first
    | exact ⟨0, rfl, rfl⟩
    | exact ⟨rfl, 0, rfl⟩
set_option maxHeartbeats 1000000 in
theorem sj64_nan (p m : Nat) (N : Bool) (hp : p < 18446744073709551616) (w : World)
    (s1 : Fl.spNeg p = false) (s2 : Fl.spMan p = 0) (s3 : Fl.spExp p = 0) (s4 : Fl.spCls p = 3)
    (e1 : bits .and .u64 ((p : Int) / 4503599627370496) 2047 = 2047) (e2 : bits .and .u64 (p : Int) 4503599627370495 = (m : Int)) (e6 : ((p : Int) / 9223372036854775808 != 0) = N) (f1 : (m : Int) ≠ 0) :
    Calls Tadg.prog 26 #[.int .u64 p] w fun x w' => ∃ n, x = .returned (.bool true) ∧ w' = w.drewN n := by
  go_enter Tadg.func26, Tadg.ntmps26
  go_wp2_with (first
    | (go_at_call 18; refine (f64_any _ _).mono ?_; rintro x w' ⟨rfl, hq⟩; obtain rfl := hq.symm; rw [Int.toNat_natCast])
    | (go_at_call 24; refine (split64_any _ hp _).mono ?_; rintro x w' ⟨rfl, hq⟩; obtain rfl := hq.symm; rw [s1, s2, s3, s4]))
  go_ret
  first
    | exact ⟨0, rfl, rfl⟩
    | exact ⟨rfl, 0, rfl⟩
end Go.Proofs.YgctadDoor
