/- matrixBegun. No condition. -/
import Derived.Test.YtphehfllcmbpkaaBegC
namespace Go.Proofs.Ytphehfllcmbpkaa
open Go Go.RowKit GF
set_option maxRecDepth 100000
set_option maxHeartbeats 2000000
theorem RBytes.lit (w : World) (cs : Array Value) (T : TypeId) (n : Nat) (l : List UInt8) (h : cs.toList = l.map bv) (hn : l.length = n) (hm : n ≤ 100) : RBytes (w.alloc (.cells cs T)) (.slice (some ⟨w.heap.size, 0, none⟩) n n) l :=
  Rds.lit w cs T n _ h (by simpa using hn) (by unfold maxLen; omega)
theorem RMat.lit2 (w : World) (c1 c2 : Array Value) (T1 T2 T3 : TypeId) (n : Nat) (l1 l2 : List UInt8) (h1 : c1.toList = l1.map bv) (h2 : c2.toList = l2.map bv) (n1 : l1.length = n) (n2 : l2.length = n) (hm : n ≤ 100) :
    RMat (((w.alloc (.cells c1 T1)).alloc (.cells c2 T2)).alloc (.cells #[.slice (some ⟨w.heap.size, 0, none⟩) n n, .slice (some ⟨w.heap.size + 1, 0, none⟩) n n] T3)) (.slice (some ⟨w.heap.size + 1 + 1, 0, none⟩) 2 2) [l1, l2] := by
  have s1 : (w.alloc (.cells c1 T1)).heap.size = w.heap.size + 1 := by simp
  have s2 : ((w.alloc (.cells c1 T1)).alloc (.cells c2 T2)).heap.size = w.heap.size + 1 + 1 := by simp
  have r1 := (RBytes.lit w c1 T1 n l1 h1 n1 hm).below (((Below.refl _ _).alloc (Nat.le_refl _) (.cells c2 T2)).alloc (by simp) (.cells #[.slice (some ⟨w.heap.size, 0, none⟩) n n, .slice (some ⟨w.heap.size + 1, 0, none⟩) n n] T3))
  have r2 := (RBytes.lit (w.alloc (.cells c1 T1)) c2 T2 n l2 h2 n2 hm).below ((Below.refl _ _).alloc (Nat.le_refl _) (.cells #[.slice (some ⟨w.heap.size, 0, none⟩) n n, .slice (some ⟨w.heap.size + 1, 0, none⟩) n n] T3))
  rw [s1] at r2
  have r3 := Rds.lit ((w.alloc (.cells c1 T1)).alloc (.cells c2 T2)) #[.slice (some ⟨w.heap.size, 0, none⟩) n n, .slice (some ⟨w.heap.size + 1, 0, none⟩) n n] T3 2 [.slice (some ⟨w.heap.size, 0, none⟩) n n, .slice (some ⟨w.heap.size + 1, 0, none⟩) n n] rfl rfl (by unfold maxLen; omega)
  rw [s2] at r3
  refine ⟨_, rfl, r3, fun i r hr => ?_⟩
  match i, hr with
  | 0, hr => obtain rfl : l1 = r := by simpa using hr
             exact ⟨_, rfl, r1⟩
  | 1, hr => obtain rfl : l2 = r := by simpa using hr
             exact ⟨_, rfl, r2⟩
  | i + 2, hr => simp at hr
theorem below_lit2 {w w' : World} {o p q : Obj} (h : Below (((w.alloc o).alloc p).alloc q).heap.size (((w.alloc o).alloc p).alloc q) w') : Below w.heap.size w w' := by
  refine ((((Below.refl _ w).alloc (Nat.le_refl _) o).alloc (by simp) p).alloc (by simp; omega) q).trans (h.mono ?_)
  simp; omega
/-- the facts of matrixBegun's own matrices, under names -/
structure BegM (A V U R S Z N : List (List UInt8)) (I : List Int) : Prop where
  a : A = [[1, 2], [3, 4]]
  u : U = [[1, 0], [0, 1]]
  r : R = [[1, 2, 3], [2, 4, 6]]
  s : S = [[1, 2], [2, 4]]
  n : N = [[3, 4], [1, 2]]
  i1 : (minv A).2 = 0
  i2 : (minv A).1 = V
  m1 : mmulE V A = 0
  m2 : mmul V A = U
  ut : tab 2 2 unitE = U
  r1 : (mrank R).1 = 1
  r2 : (mrank R).2 = 0
  s1 : (minv S).2 = 5
  z1 : tab 2 3 (cauE 2) = Z
  z2 : nb (Z.getD 0 []) 0 = 142
  z3 : Z.length = 2
  z4 : (Z.getD 0 []).length = 3
  im : (#[.int .i64 1, .int .i64 0] : Array Value).toList = I.map iv
  il : I.length = 2
  is : ∀ s ∈ I, -100 ≤ s ∧ s ≤ 100
  n1 : mrowsE A I = 0
  n2 : mrowsOf A I = N
  ck : mcheck [] = 1
theorem begM : BegM [[1, 2], [3, 4]] (minv [[1, 2], [3, 4]]).1 [[1, 0], [0, 1]] [[1, 2, 3], [2, 4, 6]] [[1, 2], [2, 4]] (tab 2 3 (cauE 2)) [[3, 4], [1, 2]] [1, 0] where
  a := rfl
  u := rfl
  r := rfl
  s := rfl
  n := rfl
  i1 := by decide +kernel
  i2 := rfl
  m1 := by decide +kernel
  m2 := by decide +kernel
  ut := by decide +kernel
  r1 := by decide +kernel
  r2 := by decide +kernel
  s1 := by decide +kernel
  z1 := rfl
  z2 := by decide +kernel
  z3 := by decide +kernel
  z4 := by decide +kernel
  im := rfl
  il := rfl
  is := by decide
  n1 := by decide +kernel
  n2 := by
    have h : mrowsE [[1, 2], [3, 4]] [1, 0] = 0 := by decide +kernel
    unfold mrowsOf; rw [if_pos h]; decide +kernel
  ck := by decide +kernel
theorem matrixBegun_core (A V U R S Z N : List (List UInt8)) (I : List Int) (h : BegM A V U R S Z N I) (w : World) : Calls Try.prog 17 #[] w fun e w' => e = .returned (.bool true) ∧ Below w.heap.size w w' := by
  have H := Lib.hid h
  clear h
  go_enter Try.func17, Try.ntmps17
  go_wp2_with fail
  have hA0 := RMat.lit2 w #[.int .u8 1, .int .u8 2] #[.int .u8 3, .int .u8 4] 5 5 25 2 [1, 2] [3, 4] rfl rfl rfl rfl (by decide)
  rw [← H.out.a] at hA0
  refine (Inverse_calls _ A _ hA0).mono ?_
  rw [H.out.i1, H.out.i2]
  rintro e w1 ⟨x1, rfl, ho1, hb1⟩
  have HA1 := Lib.hid (hA0.below hb1)
  have HV1 := Lib.hid ho1.rd
  have HB1 := Lib.hid (below_lit2 hb1)
  clear hA0 ho1 hb1
  dsimp only
  go_wp2_with fail
  refine (Mul_calls _ _ V A _ HV1.out HA1.out).mono ?_
  rw [H.out.m1, H.out.m2]
  rintro e w2 ⟨x2, rfl, ho2, hb2⟩
  have HA2 := Lib.hid (HA1.out.below hb2)
  have HM2 := Lib.hid ho2.rd
  have HB2 := Lib.hid (HB1.out.trans (hb2.mono HB1.out.size))
  clear ho2 hb2 HA1 HV1 HB1
  dsimp only
  go_wp2_with fail
  refine (Unit_yes 2 (by decide) (by decide) _).mono ?_
  rw [H.out.ut]
  rintro e w3 ⟨x3, rfl, ho3, hb3⟩
  have HA3 := Lib.hid (HA2.out.below hb3)
  have HM3 := Lib.hid (HM2.out.below hb3)
  have HU3 := Lib.hid ho3.rd
  have HB3 := Lib.hid (HB2.out.trans (hb3.mono HB2.out.size))
  clear ho3 hb3 HA2 HM2 HB2
  dsimp only
  go_wp2_with fail
  have hR := RMat.lit2 w3 #[.int .u8 1, .int .u8 2, .int .u8 3] #[.int .u8 2, .int .u8 4, .int .u8 6] 5 5 25 3 [1, 2, 3] [2, 4, 6] rfl rfl rfl rfl (by decide)
  rw [← H.out.r] at hR
  refine (Rank_calls _ R _ hR).mono ?_
  rw [H.out.r1, H.out.r2]
  rintro e w4 ⟨rfl, hb4'⟩
  have hb4 := below_lit2 hb4'
  have HA4 := Lib.hid (HA3.out.below hb4)
  have HM4 := Lib.hid (HM3.out.below hb4)
  have HU4 := Lib.hid (HU3.out.below hb4)
  have HB4 := Lib.hid (HB3.out.trans (hb4.mono HB3.out.size))
  clear hR hb4 hb4' HA3 HM3 HB3 HU3
  dsimp only
  go_wp2_with fail
  have hS := RMat.lit2 w4 #[.int .u8 1, .int .u8 2] #[.int .u8 2, .int .u8 4] 5 5 25 2 [1, 2] [2, 4] rfl rfl rfl rfl (by decide)
  rw [← H.out.s] at hS
  refine (Inverse_calls _ S _ hS).mono ?_
  rw [H.out.s1]
  rintro e w5 ⟨x5, rfl, -, hb5'⟩
  have hb5 := below_lit2 hb5'
  have HA5 := Lib.hid (HA4.out.below hb5)
  have HM5 := Lib.hid (HM4.out.below hb5)
  have HU5 := Lib.hid (HU4.out.below hb5)
  have HB5 := Lib.hid (HB4.out.trans (hb5.mono HB4.out.size))
  clear hS hb5 hb5' HA4 HM4 HB4 HU4
  dsimp only
  go_wp2_with fail
  refine (Cauchy_yes 2 3 (by decide) (by decide) (by decide) (by decide) _).mono ?_
  rw [H.out.z1]
  rintro e w6 ⟨x6, rfl, ho6, hb6⟩
  have HA6 := Lib.hid (HA5.out.below hb6)
  have HM6 := Lib.hid (HM5.out.below hb6)
  have HU6 := Lib.hid (HU5.out.below hb6)
  have HB6 := Lib.hid (HB5.out.trans (hb6.mono HB5.out.size))
  obtain ⟨gz, cz, gk, ck, hv, z1, z2, _, _, z3, z4, z5, z6, z7, z8, _, _⟩ := ho6.rowAt (i := 0) (k := 0) (by rw [H.out.z3]; decide) (by rw [H.out.z4]; decide)
  rw [H.out.z3] at hv z1
  rw [H.out.z4] at z5 z6
  rw [H.out.z2] at z8
  subst hv
  have Z5 := Lib.hid z5
  have Z8 := Lib.hid z8
  unfold maxLen at z2 z7
  clear ho6 hb6 HA5 HM5 HB5 HU5 z5 z8
  dsimp only
  go_wp2_with fail
  have hI := RInts.lit w6 #[.int .i64 1, .int .i64 0] 3 2 I H.out.im H.out.il (by decide) H.out.is
  refine (Rows_calls _ _ A I _ (HA6.out.below ((Below.refl _ _).alloc (Nat.le_refl _) _)) hI).mono ?_
  rw [H.out.n1, H.out.n2]
  rintro e w7 ⟨x7, rfl, ho7, hb7'⟩
  have hb7 := below_alloc hb7'
  have HM7 := Lib.hid (HM6.out.below hb7)
  have HU7 := Lib.hid (HU6.out.below hb7)
  have HN7 := Lib.hid ho7.rd
  have HB7 := Lib.hid (HB6.out.trans (hb7.mono HB6.out.size))
  have Z5' := Lib.hid ((hb7.cell (p := ⟨gz, 0, none⟩) z3).trans Z5.out)
  have Z8' := Lib.hid ((hb7.cell (p := ⟨gk, 0, none⟩) z4).trans Z8.out)
  have z3' : gz < w7.heap.size := Nat.lt_of_lt_of_le z3 hb7.size
  have z4' : gk < w7.heap.size := Nat.lt_of_lt_of_le z4 hb7.size
  clear hI ho7 hb7 hb7' HM6 HU6 HA6 HB6 Z5 Z8 z3 z4
  dsimp only
  go_wp2_with fail
  refine (sameMatrix_calls _ _ U U _ HM7.out HU7.out).mono ?_
  rw [decide_eq_true (rfl : U = U)]
  rintro e w8 ⟨rfl, n8, rfl⟩
  dsimp only
  go_wp2_with fail
  have hU := RMat.lit2 (w7.drewN n8) #[.int .u8 1, .int .u8 0] #[.int .u8 0, .int .u8 1] 5 5 25 2 [1, 0] [0, 1] rfl rfl rfl rfl (by decide)
  rw [← H.out.u] at hU
  have hb8 := below_lit2 (w := w7.drewN n8) (Below.refl _ ((((w7.drewN n8).alloc (Obj.cells #[Value.int IntKind.u8 1, Value.int IntKind.u8 0] 5)).alloc (Obj.cells #[Value.int IntKind.u8 0, Value.int IntKind.u8 1] 5)).alloc (Obj.cells #[Value.slice (some { block := w7.heap.size, off := 0 }) 2 2, Value.slice (some { block := w7.heap.size + 1, off := 0 }) 2 2] 25)))
  refine (sameMatrix_calls _ _ U U _ ((HU7.out.below (below_drewN _ n8)).below hb8) hU).mono ?_
  rw [decide_eq_true (rfl : U = U)]
  rintro e w9 ⟨rfl, n9, hw9⟩
  have hb9 : Below w7.heap.size w7 w9 := by rw [hw9]; exact (below_drewN w7 n8).trans (hb8.trans ((below_drewN _ n9).mono hb8.size))
  clear hU hb8 hw9
  have HN9 := Lib.hid (HN7.out.below hb9)
  have HB9 := Lib.hid (HB7.out.trans (hb9.mono HB7.out.size))
  have y5 := (hb9.cell (p := ⟨gz, 0, none⟩) z3').trans Z5'.out
  have y8 := (hb9.cell (p := ⟨gk, 0, none⟩) z4').trans Z8'.out
  rw [show B 142 = 142 from rfl] at y8
  clear hb9 HN7 HB7 Z5' Z8' HU7 HM7
  dsimp only
  go_wp2_with fail
  have hN := RMat.lit2 w9 #[.int .u8 3, .int .u8 4] #[.int .u8 1, .int .u8 2] 5 5 25 2 [3, 4] [1, 2] rfl rfl rfl rfl (by decide)
  rw [← H.out.n] at hN
  have hb10 := below_lit2 (w := w9) (Below.refl _ (((w9.alloc (Obj.cells #[Value.int IntKind.u8 3, Value.int IntKind.u8 4] 5)).alloc (Obj.cells #[Value.int IntKind.u8 1, Value.int IntKind.u8 2] 5)).alloc (Obj.cells #[Value.slice (some { block := w9.heap.size, off := 0 }) 2 2, Value.slice (some { block := w9.heap.size + 1, off := 0 }) 2 2] 25)))
  refine (sameMatrix_calls _ _ N N _ (HN9.out.below hb10) hN).mono ?_
  rw [decide_eq_true (rfl : N = N)]
  rintro e w10 ⟨rfl, n10, hw10⟩
  have hb11 : Below w9.heap.size w9 w10 := by rw [hw10]; exact hb10.trans ((below_drewN _ n10).mono hb10.size)
  have HB10 := Lib.hid (HB9.out.trans (hb11.mono HB9.out.size))
  clear hN hb10 hw10 hb11 y5 y8
  dsimp only
  go_wp2_with fail
  refine (mcheck_calls _ [] _ (OMat.nil (fun _ => True) _).rd).mono ?_
  rw [H.out.ck]
  rintro e w12 ⟨rfl, rfl⟩
  dsimp only
  go_wp2_with fail
  go_ret
  exact ⟨rfl, HB10.out⟩
theorem matrixBegun_calls (w : World) : Calls Try.prog 17 #[] w fun e w' => e = .returned (.bool true) ∧ Below w.heap.size w w' := matrixBegun_core _ _ _ _ _ _ _ _ begM w
end Go.Proofs.Ytphehfllcmbpkaa
