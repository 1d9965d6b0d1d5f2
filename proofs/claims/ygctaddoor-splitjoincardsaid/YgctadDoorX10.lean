import Derived.Test.YgctadDoorX9
namespace Go.Proofs.YgctadDoor
open Go.RowKit
set_option linter.unusedSimpArgs false
set_option linter.unusedVariables false
set_option maxHeartbeats 1000000 in
theorem sj32_norm (p F m R m1 m2 : Nat) (N : Bool) (hm1 : m1 < 4294967296) (hm2 : m2 < 4294967296) (hp : p < 4294967296) (w : World) (hT : Tab w)
    (s1 : spNeg32 p = N) (s2 : spMan32 p = m + 8388608) (s3 : spExp32 p = (F : Int) - 150) (s4 : spCls32 p = 1)
    (e1 : bits .and .u32 ((p : Int) / 8388608) 255 = (F : Int)) (e2 : bits .and .u32 (p : Int) 8388607 = (m : Int)) (e6 : ((p : Int) / 2147483648 != 0) = N)
    (f1 : (F : Int) ≠ 0) (f2 : (F : Int) ≠ 255) (fl : F < 256) (ml : m < 8388608)
    (HJ : Hid (JoinTo (m + 8388608) ((F : Int) - 150) 24 (-149) 128 R true)) (hR : R < 2147483648) (hQ : Hid ((R + if N then 2147483648 else 0) = p))
    (o1 : bits .or .u32 (bits .or .u32 ((m : Int) + 8388608) 16777216) 1 = (m1 : Int)) (o2 : bits .or .u32 ((m : Int) + 8388608) 1 = (m2 : Int))
    (HA : Hid (JoinTo m1 ((F : Int) - 150) 24 (-149) 128 0 false)) (HB : Hid (∀ E : Int, E = -150 ∨ E = 128 → JoinTo m2 E 24 (-149) 128 0 false)) :
    Calls Tadg.prog 27 #[.int .u32 p] w fun x w' => ∃ n, x = .returned (.bool true) ∧ w' = w.drewN n := by
  have HT : Hid (Tab w) := hT
  go_enter Tadg.func27, Tadg.ntmps27
  go_wp2_with (first
    | (go_at_call 53; refine (f32_any _ _).mono ?_; rintro x w' ⟨rfl, hq⟩; obtain rfl := hq.symm; rw [Int.toNat_natCast])
    | (go_at_call 52; refine (split32_any _ hp _).mono ?_; rintro x w' ⟨rfl, hq⟩; obtain rfl := hq.symm; rw [s1, s2, s3, s4])
    | (go_at_call 54; refine (join32_ok N (m + 8388608) R (by omega) ((F : Int) - 150) (by omega) (by omega) HJ.out hR _ HT.out).mono ?_; rintro x w' ⟨n1, rfl, rfl⟩; rw [hQ.out])
    | (go_at_call 55; refine (b32_any _ _).mono ?_; rintro x w' ⟨rfl, rfl⟩)
    | (go_at_call_of 56 (Value.int IntKind.u32 (m1 : Int)); refine (refused32_any N m1 hm1 _ (by omega) (by omega) HA.out _ (HT.out.drewN _)).mono ?_; rintro x w' ⟨n2, rfl, rfl⟩)
    | (go_at_call_of 56 (Value.int IntKind.u32 (m2 : Int)); refine (refused32_any N m2 hm2 _ (by omega) (by omega) (HB.out _ (by first | exact .inl rfl | exact .inr rfl)) _ (HT.out.drewN _)).mono ?_; rintro x w' ⟨n3, rfl, rfl⟩))
  go_ret
  first
    | exact ⟨_, rfl, rfl⟩
    | exact ⟨rfl, _, rfl⟩
set_option maxHeartbeats 1000000 in
theorem sj32_sub (p m R m1 m2 : Nat) (N : Bool) (hm1 : m1 < 4294967296) (hm2 : m2 < 4294967296) (hp : p < 4294967296) (w : World) (hT : Tab w)
    (s1 : spNeg32 p = N) (s2 : spMan32 p = m) (s3 : spExp32 p = -149) (s4 : spCls32 p = 1)
    (e1 : bits .and .u32 ((p : Int) / 8388608) 255 = 0) (e2 : bits .and .u32 (p : Int) 8388607 = (m : Int)) (e6 : ((p : Int) / 2147483648 != 0) = N)
    (f1 : (m : Int) ≠ 0) (ml : m < 8388608)
    (HJ : Hid (JoinTo (m) (-149) 24 (-149) 128 R true)) (hR : R < 2147483648) (hQ : Hid ((R + if N then 2147483648 else 0) = p))
    (o1 : bits .or .u32 (bits .or .u32 ((m : Int)) 16777216) 1 = (m1 : Int)) (o2 : bits .or .u32 ((m : Int)) 1 = (m2 : Int))
    (HA : Hid (JoinTo m1 (-149) 24 (-149) 128 0 false)) (HB : Hid (∀ E : Int, E = -150 ∨ E = 128 → JoinTo m2 E 24 (-149) 128 0 false)) :
    Calls Tadg.prog 27 #[.int .u32 p] w fun x w' => ∃ n, x = .returned (.bool true) ∧ w' = w.drewN n := by
  have HT : Hid (Tab w) := hT
  go_enter Tadg.func27, Tadg.ntmps27
  go_wp2_with (first
    | (go_at_call 53; refine (f32_any _ _).mono ?_; rintro x w' ⟨rfl, hq⟩; obtain rfl := hq.symm; rw [Int.toNat_natCast])
    | (go_at_call 52; refine (split32_any _ hp _).mono ?_; rintro x w' ⟨rfl, hq⟩; obtain rfl := hq.symm; rw [s1, s2, s3, s4])
    | (go_at_call 54; refine (join32_ok N (m) R (by omega) (-149) (by omega) (by omega) HJ.out hR _ HT.out).mono ?_; rintro x w' ⟨n1, rfl, rfl⟩; rw [hQ.out])
    | (go_at_call 55; refine (b32_any _ _).mono ?_; rintro x w' ⟨rfl, rfl⟩)
    | (go_at_call_of 56 (Value.int IntKind.u32 (m1 : Int)); refine (refused32_any N m1 hm1 _ (by omega) (by omega) HA.out _ (HT.out.drewN _)).mono ?_; rintro x w' ⟨n2, rfl, rfl⟩)
    | (go_at_call_of 56 (Value.int IntKind.u32 (m2 : Int)); refine (refused32_any N m2 hm2 _ (by omega) (by omega) (HB.out _ (by first | exact .inl rfl | exact .inr rfl)) _ (HT.out.drewN _)).mono ?_; rintro x w' ⟨n3, rfl, rfl⟩))
  go_ret
  first
    | exact ⟨_, rfl, rfl⟩
    | exact ⟨rfl, _, rfl⟩
set_option maxHeartbeats 1000000 in
theorem sj32_zero (p R m1 m2 : Nat) (N : Bool) (hm1 : m1 < 4294967296) (hm2 : m2 < 4294967296) (hp : p < 4294967296) (w : World) (hT : Tab w)
    (s1 : spNeg32 p = N) (s2 : spMan32 p = 0) (s3 : spExp32 p = 0) (s4 : spCls32 p = 0)
    (e1 : bits .and .u32 ((p : Int) / 8388608) 255 = 0) (e2 : bits .and .u32 (p : Int) 8388607 = 0) (e6 : ((p : Int) / 2147483648 != 0) = N)
    
    (HJ : Hid (JoinTo (0) 0 24 (-149) 128 R true)) (hR : R < 2147483648) (hQ : Hid ((R + if N then 2147483648 else 0) = p))
    (o1 : bits .or .u32 (bits .or .u32 0 16777216) 1 = (m1 : Int)) (o2 : bits .or .u32 0 1 = (m2 : Int))
    (HA : Hid (JoinTo m1 0 24 (-149) 128 0 false)) (HB : Hid (∀ E : Int, E = -150 ∨ E = 128 → JoinTo m2 E 24 (-149) 128 0 false)) :
    Calls Tadg.prog 27 #[.int .u32 p] w fun x w' => ∃ n, x = .returned (.bool true) ∧ w' = w.drewN n := by
  have HT : Hid (Tab w) := hT
  go_enter Tadg.func27, Tadg.ntmps27
  go_wp2_with (first
    | (go_at_call 53; refine (f32_any _ _).mono ?_; rintro x w' ⟨rfl, hq⟩; obtain rfl := hq.symm; rw [Int.toNat_natCast])
    | (go_at_call 52; refine (split32_any _ hp _).mono ?_; rintro x w' ⟨rfl, hq⟩; obtain rfl := hq.symm; rw [s1, s2, s3, s4])
    | (go_at_call 54; refine (join32_ok N (0) R (by omega) 0 (by omega) (by omega) HJ.out hR _ HT.out).mono ?_; rintro x w' ⟨n1, rfl, rfl⟩; rw [hQ.out])
    | (go_at_call 55; refine (b32_any _ _).mono ?_; rintro x w' ⟨rfl, rfl⟩)
    | (go_at_call_of 56 (Value.int IntKind.u32 (m1 : Int)); refine (refused32_any N m1 hm1 _ (by omega) (by omega) HA.out _ (HT.out.drewN _)).mono ?_; rintro x w' ⟨n2, rfl, rfl⟩)
    | (go_at_call_of 56 (Value.int IntKind.u32 (m2 : Int)); refine (refused32_any N m2 hm2 _ (by omega) (by omega) (HB.out _ (by first | exact .inl rfl | exact .inr rfl)) _ (HT.out.drewN _)).mono ?_; rintro x w' ⟨n3, rfl, rfl⟩))
  go_ret
  first
    | exact ⟨_, rfl, rfl⟩
    | exact ⟨rfl, _, rfl⟩
set_option maxHeartbeats 1000000 in
theorem sj32_inf (p m : Nat) (N : Bool) (hp : p < 4294967296) (w : World)
    (s1 : spNeg32 p = N) (s2 : spMan32 p = 0) (s3 : spExp32 p = 0) (s4 : spCls32 p = 2)
    (e1 : bits .and .u32 ((p : Int) / 8388608) 255 = 255) (e2 : bits .and .u32 (p : Int) 8388607 = 0) (e6 : ((p : Int) / 2147483648 != 0) = N)  :
    Calls Tadg.prog 27 #[.int .u32 p] w fun x w' => ∃ n, x = .returned (.bool true) ∧ w' = w.drewN n := by
  go_enter Tadg.func27, Tadg.ntmps27
  go_wp2_with (first
    | (go_at_call 53; refine (f32_any _ _).mono ?_; rintro x w' ⟨rfl, hq⟩; obtain rfl := hq.symm; rw [Int.toNat_natCast])
    | (go_at_call 52; refine (split32_any _ hp _).mono ?_; rintro x w' ⟨rfl, hq⟩; obtain rfl := hq.symm; rw [s1, s2, s3, s4]))
  go_ret
  first
    | exact ⟨0, rfl, rfl⟩
    | exact ⟨rfl, 0, rfl⟩
set_option maxHeartbeats 1000000 in
theorem sj32_nan (p m : Nat) (N : Bool) (hp : p < 4294967296) (w : World)
    (s1 : spNeg32 p = false) (s2 : spMan32 p = 0) (s3 : spExp32 p = 0) (s4 : spCls32 p = 3)
    (e1 : bits .and .u32 ((p : Int) / 8388608) 255 = 255) (e2 : bits .and .u32 (p : Int) 8388607 = (m : Int)) (e6 : ((p : Int) / 2147483648 != 0) = N) (f1 : (m : Int) ≠ 0) :
    Calls Tadg.prog 27 #[.int .u32 p] w fun x w' => ∃ n, x = .returned (.bool true) ∧ w' = w.drewN n := by
  go_enter Tadg.func27, Tadg.ntmps27
  go_wp2_with (first
    | (go_at_call 53; refine (f32_any _ _).mono ?_; rintro x w' ⟨rfl, hq⟩; obtain rfl := hq.symm; rw [Int.toNat_natCast])
    | (go_at_call 52; refine (split32_any _ hp _).mono ?_; rintro x w' ⟨rfl, hq⟩; obtain rfl := hq.symm; rw [s1, s2, s3, s4]))
  go_ret
  first
    | exact ⟨0, rfl, rfl⟩
    | exact ⟨rfl, 0, rfl⟩
end Go.Proofs.YgctadDoor
