/-
  PLAIN: Shewchuk's parts as words.
-/
import Derived.Test.YgctadDoorSh
import Derived.Test.YgctadDoorDl
import Derived.Test.YgctadDoorOr
namespace Rn
open Go.Fl
set_option linter.unusedVariables false

/-- A finite word. -/
def Fw (y : Nat) : Prop := fin y = true ∧ y < 18446744073709551616
/-- The sum of the sizes. -/
def asz : List Nat → Int
  | [] => 0
  | y :: l => ((vz y).natAbs : Int) + asz l
theorem asz_cons (y : Nat) (l : List Nat) : asz (y :: l) = ((vz y).natAbs : Int) + asz l := rfl
theorem asz_nonneg : ∀ l, 0 ≤ asz l
  | [] => Int.le_refl _
  | y :: l => by have := asz_nonneg l; unfold asz; omega
theorem asz_snoc (e : Nat) : ∀ l, asz (l ++ [e]) = asz l + ((vz e).natAbs : Int)
  | [] => by simp [asz]
  | y :: l => by rw [List.cons_append, asz, asz_snoc e l, asz]; omega
theorem asz_mem {y : Nat} : ∀ {l}, y ∈ l → ((vz y).natAbs : Int) ≤ asz l
  | [], h => absurd h List.not_mem_nil
  | x :: l, h => by
    have h0 := asz_nonneg l
    rcases List.mem_cons.1 h with rfl | h
    · unfold asz; omega
    · have := asz_mem h; unfold asz; omega

structure Pw (b T : Int) (ns : List Nat) : Prop where
  par : Par (ns.map vz)
  w : ∀ y ∈ ns, Fw y
  sum : (ns.map vz).sum = T
  sz : asz ns ≤ b

structure Gw (b T : Int) (hs : List Nat) (x : Nat) (rest : List Nat) : Prop where
  gr : Gr (hs.map vz) (vz x) (rest.map vz)
  h : ∀ y ∈ hs, Fw y
  wx : Fw x
  r : ∀ y ∈ rest, Fw y
  sum : (hs.map vz).sum + vz x + (rest.map vz).sum = T
  sz : asz hs + ((vz x).natAbs : Int) + asz rest ≤ b

theorem Pw.nil {b : Int} (hb : 0 ≤ b) : Pw b 0 [] := ⟨trivial, fun _ h => absurd h List.not_mem_nil, rfl, hb⟩
theorem Pw.grow {b d T : Int} {ns : List Nat} {x : Nat} (h : Pw b T ns) (hx : Fw x) (hd : ((vz x).natAbs : Int) ≤ d) : Gw (b + d) (T + vz x) [] x ns :=
  ⟨Gr.start (vz_F x) h.par, fun _ h => absurd h List.not_mem_nil, hx, h.w, by have := h.sum; simp; omega, by have := h.sz; simp [asz]; omega⟩

theorem P1995 : P 2047 = 4503599627370496 * P 1995 := by rw [show (2047 : Nat) = 52 + 1995 by decide, P_add]; rfl
theorem P2096_47 : P 2047 ≤ P 2096 := P_le (by decide)

theorem Gw.step {b T : Int} {hs rest : List Nat} {x p s bb aa db da e : Nat} (h : Gw b T hs x (p :: rest)) (hb : b ≤ P 2047)
    (s1 : Res .add x p s) (s2 : Res .sub s x bb) (s3 : Res .sub s bb aa) (s4 : Res .sub p bb db) (s5 : Res .sub x aa da) (s6 : Res .add da db e) :
    Fw e ∧ (vz e ≠ 0 → Gw (b + P 1995) T (hs ++ [e]) s rest) ∧ (vz e = 0 → Gw (b + P 1995) T hs s rest) := by
  have hP := P2096_47
  have fp := h.r p (List.mem_cons_self ..)
  have z1 := asz_nonneg hs
  have z2 := asz_nonneg rest
  have hsz := h.sz
  rw [asz_cons] at hsz
  obtain ⟨fs, ls, fe, le, vs, ve⟩ := twoSum_words h.wx.1 fp.1 (by omega) (by omega) s1 s2 s3 s4 s5 s6
  have hrel := rn_rel (vz x + vz p)
  have hbd := P1995
  have eE : vz x + vz p - rn (vz x + vz p) = vz e := by omega
  obtain ⟨g1, g2⟩ := Gr.step h.gr
  rw [eE, ← vs] at g1 g2
  rw [eE] at hrel
  have hsum := h.sum
  rw [List.map_cons, List.sum_cons] at hsum
  refine ⟨⟨fe, le⟩, fun h0 => ⟨?_, ?_, ⟨fs, ls⟩, fun y hy => h.r y (List.mem_cons_of_mem _ hy), ?_, ?_⟩, fun h0 => ⟨g2 h0, h.h, ⟨fs, ls⟩, fun y hy => h.r y (List.mem_cons_of_mem _ hy), by omega, by omega⟩⟩
  · rw [List.map_append, List.map_singleton]; exact g1 h0
  · intro y hy
    rcases List.mem_append.1 hy with hy | hy
    · exact h.h y hy
    · rw [List.mem_singleton.1 hy]; exact ⟨fe, le⟩
  · rw [List.map_append, List.map_singleton, List.sum_append, List.sum_singleton]; omega
  · rw [asz_snoc]; omega

theorem Gw.done {b T : Int} {hs : List Nat} {x : Nat} (h : Gw b T hs x []) : (vz x ≠ 0 → Pw b T (hs ++ [x])) ∧ (vz x = 0 → Pw b T hs) := by
  obtain ⟨d1, d2⟩ := Gr.done h.gr
  have hsum := h.sum
  have hsz := h.sz
  simp only [List.map_nil, List.sum_nil, asz] at hsum hsz
  refine ⟨fun h0 => ⟨?_, ?_, ?_, ?_⟩, fun h0 => ⟨d2 h0, h.h, by omega, by omega⟩⟩
  · rw [List.map_append, List.map_singleton]; exact d1 h0
  · intro y hy
    rcases List.mem_append.1 hy with hy | hy
    · exact h.h y hy
    · rw [List.mem_singleton.1 hy]; exact h.wx
  · rw [List.map_append, List.map_singleton, List.sum_append, List.sum_singleton]; omega
  · rw [asz_snoc]; omega

/-- 'Finish' before a rest comes up: 'pre' to come, 'hi' the exact sum of what has gone in. -/
structure Fi (T : Int) (pre : List Nat) (hi : Nat) : Prop where
  suf : ∃ suf : List Int, suf ≠ [] ∧ Par (pre.map vz ++ suf) ∧ vz hi = suf.sum
  sum : (pre.map vz).sum + vz hi = T
  w : ∀ y ∈ pre, Fw y
  whi : Fw hi
  sz : asz pre + ((vz hi).natAbs : Int) ≤ P 2047

/-- .. and behind. -/
structure Fb (T : Int) (pre : List Nat) (hi lo : Nat) : Prop where
  y : ∃ Y, vz hi = rn Y ∧ vz lo = Y - rn Y ∧ T = Y + (pre.map vz).sum ∧ ∀ l q, pre = l ++ [q] → ∃ s, P s ∣ Y ∧ ((pre.map vz).sum.natAbs : Int) < P s ∧ (pre.map vz).sum ≠ 0 ∧ (0 < (pre.map vz).sum ↔ 0 < vz q) ∧ vz q ≠ 0
  lo0 : vz lo ≠ 0
  whi : Fw hi
  wlo : Fw lo
  w : ∀ y ∈ pre, Fw y
  sz1 : ((vz hi).natAbs : Int) ≤ P 2048
  sz2 : ((vz lo).natAbs : Int) ≤ P 2048

theorem P2048 : P 2048 = 2 * P 2047 := P_succ 2047
theorem P2096_48 : P 2048 ≤ P 2096 := P_le (by decide)

theorem Pw.finish {b T : Int} {l : List Nat} {p : Nat} (h : Pw b T (l ++ [p])) (hb : b ≤ P 2047) : Fi T l p := by
  have hs := h.sum
  have hz := h.sz
  rw [List.map_append, List.map_singleton, List.sum_append, List.sum_singleton] at hs
  rw [asz_snoc] at hz
  exact ⟨⟨[vz p], by simp, by have := h.par; rwa [List.map_append, List.map_singleton] at this, by simp⟩, hs, fun y hy => h.w y (List.mem_append_left _ hy), h.w p (List.mem_append_right _ (List.mem_singleton.2 rfl)), by omega⟩

theorem map_snoc (l : List Nat) (q : Nat) : (l ++ [q]).map vz = l.map vz ++ [vz q] := by rw [List.map_append, List.map_singleton]

theorem Fi.step {T : Int} {l : List Nat} {p hi s z lo : Nat} (h : Fi T (l ++ [p]) hi) (s1 : Res .add hi p s) (s2 : Res .sub s hi z) (s3 : Res .sub p z lo) :
    Fw lo ∧ (vz lo = 0 → Fi T l s) ∧ (vz lo ≠ 0 → Fb T l s lo) := by
  have hP := P2096_48
  have hP2 := P2048
  obtain ⟨suf, hne, hpar, hsuf⟩ := h.suf
  have hsum := h.sum
  have hsz := h.sz
  have fp := h.w p (List.mem_append_right _ (List.mem_singleton.2 rfl))
  have z1 := asz_nonneg l
  rw [map_snoc] at hpar hsum
  rw [List.sum_append, List.sum_singleton] at hsum
  rw [asz_snoc] at hsz
  rw [List.append_assoc, List.singleton_append] at hpar
  have hp2 := Par.tail hpar
  obtain ⟨fvp, p0, ⟨t, t1, t2⟩, hp3⟩ := hp2
  have hs0 := Par.sum_ne hp3 hne
  have hsd := dvd_sum t2
  have hle := le_of_dvd hsd hs0
  rw [← hsuf] at hs0 hsd hle
  obtain ⟨fs, ls, fl, ll, vs, vl⟩ := fastTwoSum_words h.whi.1 fp.1 (by omega) (by omega) s1 s2 s3
  have r1 := rn_le2 (vz hi + vz p)
  have hwl : ∀ y ∈ l, Fw y := fun y hy => h.w y (List.mem_append_left _ hy)
  have hrel := rn_rel (vz hi + vz p)
  refine ⟨⟨fl, ll⟩, fun h0 => ⟨⟨vz p :: suf, by simp, hpar, ?_⟩, ?_, hwl, ⟨fs, ls⟩, ?_⟩, fun h0 => ⟨⟨vz hi + vz p, vs, by omega, by omega, ?_⟩, h0, ⟨fs, ls⟩, ⟨fl, ll⟩, hwl, by omega, by omega⟩⟩
  · rw [List.sum_cons]; omega
  · omega
  · omega
  · intro l' q hl
    have hpq : Par (l'.map vz ++ vz q :: (vz p :: suf)) := by
      rw [hl, map_snoc, List.append_assoc, List.singleton_append] at hpar; exact hpar
    obtain ⟨u, u1, u2, u3, u4⟩ := Par.low hpq
    rw [hl, map_snoc]
    exact ⟨u, Int.dvd_add (by rw [hsuf]; exact dvd_sum fun r hr => u2 r (List.mem_cons_of_mem _ hr)) (u2 _ (List.mem_cons_self ..)), u1, u3, u4, (Par.tail hpq).2.1⟩

theorem vz_two : vz 4611686018427387904 = 2 * P 1074 := by
  have h1 : 2 * P 1074 = 4503599627370496 * P 1023 := by rw [← P_succ, show (1074 + 1 : Nat) = 52 + 1023 by decide, P_add, show P 52 = 4503599627370496 by decide]
  obtain ⟨w, hw⟩ : ∃ w, 2 ^ 1023 = w := ⟨_, rfl⟩
  have h2 := mg_pow 4611686018427387904 1023 w (by decide) (by decide) (by decide) hw
  have h3 := P_eq 1023 w hw
  unfold vz
  rw [if_neg (by decide), show (4611686018427387904 % 9223372036854775808 : Nat) = 4611686018427387904 by decide, h2, h1, h3]
  omega
theorem fin_two : fin 4611686018427387904 = true := by decide
theorem F_dbl {n : Int} (h : F n) : F (2 * n) := by
  obtain ⟨k, ⟨c, hc⟩, h2⟩ := h
  exact ⟨k + 1, ⟨c, by rw [P_succ, hc, Int.mul_assoc]⟩, by rw [P_succ]; omega⟩

theorem P2097_48 : 16 * P 2048 ≤ P 2097 := by
  have : P 2052 = 16 * P 2048 := by rw [show (2052 : Nat) = 4 + 2048 by decide, P_add]; rfl
  rw [← this]; exact P_le (by decide)

theorem same_sign {a b : Int} (ha : a ≠ 0) (hb : b ≠ 0) : ((0 < a ∧ 0 < b) ∨ (a < 0 ∧ b < 0)) ↔ (0 < a ↔ 0 < b) := by omega

/-- The end of 'Finish' behind a rest. -/
theorem Fb.last {T : Int} {l : List Nat} {q hi lo tw r d : Nat} (h : Fb T (l ++ [q]) hi lo) (m1 : Res .mul 4611686018427387904 lo tw) (m2 : Res .add hi tw r) (m3 : Res .sub r hi d) :
    Fw q ∧ Fw d ∧ Fw tw ∧ Fw r ∧ (((0 < vz q ∧ 0 < vz lo) ∨ (vz q < 0 ∧ vz lo < 0)) → (vz d = vz tw → vz r = rn T) ∧ (vz d ≠ vz tw → vz hi = rn T)) ∧ (¬ ((0 < vz q ∧ 0 < vz lo) ∨ (vz q < 0 ∧ vz lo < 0)) → vz hi = rn T) := by
  obtain ⟨Y, y1, y2, y3, y4⟩ := h.y
  obtain ⟨s, e1, e2, e3, e4, q0⟩ := y4 l q rfl
  have hb := P2097_48
  have b1 := h.sz1
  have b2 := h.sz2
  have l0 := h.lo0
  have hq := h.w q (List.mem_append_right _ (List.mem_singleton.2 rfl))
  have r1 := rn_le2 (2 * vz lo)
  obtain ⟨ft, vt, lt⟩ := res_mul fin_two h.wlo.1 (c := 2 * vz lo) (by rw [vz_two, Int.mul_right_comm]) (by omega) m1
  rw [rn_id (F_dbl (vz_F lo))] at vt
  have r2 := rn_le2 (vz hi + vz tw)
  obtain ⟨fr, vr, lr⟩ := res_add h.whi.1 ft (by omega) m2
  have r3 := rn_le2 (vz r - vz hi)
  obtain ⟨fd, vd, ld⟩ := res_sub fr h.whi.1 (by omega) m3
  obtain ⟨f1, f2⟩ := finish_any e1 e2 e3 (by rw [← y2]; exact l0)
  rw [← y2, ← y1, ← vt, ← vr, ← vd, ← y3] at f1
  rw [← y2, ← y1, ← y3] at f2
  refine ⟨hq, ⟨fd, ld⟩, ⟨ft, lt⟩, ⟨fr, lr⟩, fun hc => ?_, fun hc => ?_⟩
  · have := f1 (by rw [e4]; exact (same_sign q0 l0).1 hc)
    exact ⟨fun h1 => by rw [this, if_pos h1], fun h1 => by rw [this, if_neg h1]⟩
  · exact (f2 (by rw [e4]; exact fun hh => hc ((same_sign q0 l0).2 hh))).symm
end Rn
