/- The contracts of package code, seventh part: Rebuild. No condition. -/
import Derived.Test.YtphehfllcmbpkaaCodeF
namespace Go.Proofs.Ytphehfllcmbpkaa
open Go Go.RowKit GF
set_option maxRecDepth 100000
set_option maxHeartbeats 2000000
theorem minv_shape {M : List (List UInt8)} (h : (minv M).2 = 0) : (minv M).1.length = M.length ∧ Flat (minv M).1 M.length := by
  unfold minv at h ⊢
  split at h
  · rename_i h1; exact (h1 h).elim
  · split at h
    · simp at h
    · split at h
      · simp at h
      · rename_i h1 h2 h3
        rw [if_neg h1, if_neg h2, if_neg h3]
        exact ⟨tab_len _ _ _, tab_flat _ _ _⟩
def inAt (l : List Int) (lim : Int) (k : Nat) : Bool := decide (0 ≤ ni l k) && decide (ni l k < lim)
def dupAt (l : List Int) (k : Nat) : Bool := someAt (fun j => decide (ni l k = ni l j)) k
/-- the places are looked through -/
def rbScan (l : List Int) (lim : Int) : Nat → Nat → Int
  | 0, _ => 0
  | n + 1, k => if inAt l lim k = false then 3 else if dupAt l k = true then 6 else rbScan l lim n (k + 1)
def rbE (many more : Int) (l : List Int) (p : List (List UInt8)) : Int :=
  if ¬ (1 ≤ many ∧ many ≤ 8) then 3 else if ¬ (1 ≤ more ∧ more ≤ 6) then 3 else if l.length ≠ p.length then 1 else if (l.length : Int) < many then 8 else if many < l.length then 2 else
    if rbScan l (many + more) l.length 0 ≠ 0 then rbScan l (many + more) l.length 0 else if alik p ≠ 0 then alik p else (minv (rbRows many.toNat more.toNat l)).2
def rb (many more : Int) (l : List Int) (p : List (List UInt8)) : List (List UInt8) :=
  if rbE many more l p = 0 then mix (minv (rbRows many.toNat more.toNat l)).1 p (ns p 0).length else []
theorem rbScan_ok {l : List Int} {lim : Int} : ∀ (n k : Nat), rbScan l lim n k = 0 → ∀ j, k ≤ j → j < k + n → inAt l lim j = true ∧ dupAt l j = false := by
  intro n
  induction n with
  | zero => intro k _ j h1 h2; omega
  | succ n ih =>
    intro k h j h1 h2
    unfold rbScan at h
    split at h
    · omega
    · split at h
      · omega
      · rename_i a1 a2
        by_cases e : j = k
        · subst e; exact ⟨by simpa using a1, by simpa using a2⟩
        · exact ih (k + 1) h j (by omega) (by omega)
theorem within_no {n m : Int} (h : ¬ (1 ≤ n ∧ n ≤ m)) : (decide (1 ≤ n) && decide (n ≤ m)) = false := by
  rw [Bool.and_eq_false_iff]
  by_cases h5 : 1 ≤ n
  · exact .inr (decide_eq_false fun h' => h ⟨h5, h'⟩)
  · exact .inl (decide_eq_false h5)
theorem within_yes {n m : Int} (h : 1 ≤ n ∧ n ≤ m) : (decide (1 ≤ n) && decide (n ≤ m)) = true := by simp [h.1, h.2]
theorem ni_take (l : List Int) {n k : Nat} (h : k < n) : ni (l.take n) k = ni l k := by simp [ni, List.getD, h]
theorem dupAt_take (l : List Int) (k : Nat) (hk : k ≤ l.length) : someAt (fun j => decide (ni l k = ni (l.take k) j)) (l.take k).length = dupAt l k := by
  rw [List.length_take, Nat.min_eq_left hk]
  unfold dupAt someAt
  rw [Bool.eq_iff_iff, List.any_eq_true, List.any_eq_true]
  constructor
  · rintro ⟨j, hj, h⟩; exact ⟨j, hj, by rw [ni_take l (List.mem_range.1 hj)] at h; exact h⟩
  · rintro ⟨j, hj, h⟩; exact ⟨j, hj, by rw [ni_take l (List.mem_range.1 hj)]; exact h⟩
theorem Rebuild_calls (many more : Int) (va vp : Value) (l : List Int) (p : List (List UInt8)) (w : World) (ha : RInts w va l) (hp : RStrs w vp p) :
    Calls Try.prog 54 #[.int .i64 many, .int .i64 more, va, vp] w fun e w' => ∃ x, e = .returned (.tuple #[x, .int .i64 (rbE many more l p)]) ∧ OStrs (fun k => w.heap.size ≤ k) w' x (rb many more l p) ∧ Below w.heap.size w w' := by
  obtain ⟨aa, ca, rfl, hc1, hm1, hx1⟩ := ha.open
  obtain ⟨ap, cp, rfl, hc2, hm2, hx2⟩ := hp.open
  have HAI := Lib.hid ha
  have HPS := Lib.hid hp
  have HX1 := Lib.hid hx1
  have HX2 := Lib.hid hx2
  have HRG := Lib.hid (ni_range ha.2)
  have HNO : Hid (∀ x : Int, x ≠ 0 → rbE many more l p = x → ∃ v, v = Value.slice none 0 0 ∧ OStrs (fun k => w.heap.size ≤ k) w v (rb many more l p)) := by
    refine Lib.hid fun x hx h => ⟨_, rfl, ?_⟩
    unfold rb
    rw [h, if_neg hx]; exact OStrs.nil _ _
  unfold maxLen at hm1 hm2
  clear ha hp hx1 hx2
  by_cases h1 : 1 ≤ many ∧ many ≤ 8
  · have HW1 := Lib.hid (within_yes h1)
    obtain ⟨h1a, h1b⟩ := h1
    obtain ⟨n, rfl⟩ := Int.eq_ofNat_of_zero_le (show 0 ≤ many by omega)
    by_cases h2 : 1 ≤ more ∧ more ≤ 6
    · have HW2 := Lib.hid (within_yes h2)
      obtain ⟨h2a, h2b⟩ := h2
      obtain ⟨m, rfl⟩ := Int.eq_ofNat_of_zero_le (show 0 ≤ more by omega)
      by_cases h3 : l.length = p.length
      · have h3' : ((l.length : Int) != (p.length : Int)) = false := by simp [h3]
        by_cases h4 : (l.length : Int) < n
        · have HE : Hid (rbE n m l p = 8) := by unfold rbE; rw [if_neg (by omega), if_neg (by omega), if_neg (not_not_intro h3), if_pos h4]; exact Lib.hid rfl
          clear h3
          go_enter Try.func54, Try.ntmps54
          go_wp2_with (first | (go_at_call 45; refine (within_calls _ _ _).mono ?_; rw [HW1.out]; rintro e w1 ⟨rfl, rfl⟩) | (go_at_call 45; refine (within_calls _ _ _).mono ?_; rw [HW2.out]; rintro e w1 ⟨rfl, rfl⟩))
          go_ret2
          exact ⟨_, by rw [HE.out]; rfl, by obtain ⟨_, rfl, h⟩ := HNO.out _ (by omega) HE.out; exact h, Below.refl _ _⟩
        by_cases h5 : (n : Int) < l.length
        · have HE : Hid (rbE n m l p = 2) := by unfold rbE; rw [if_neg (by omega), if_neg (by omega), if_neg (not_not_intro h3), if_neg h4, if_pos h5]; exact Lib.hid rfl
          clear h3
          go_enter Try.func54, Try.ntmps54
          go_wp2_with (first | (go_at_call 45; refine (within_calls _ _ _).mono ?_; rw [HW1.out]; rintro e w1 ⟨rfl, rfl⟩) | (go_at_call 45; refine (within_calls _ _ _).mono ?_; rw [HW2.out]; rintro e w1 ⟨rfl, rfl⟩))
          go_ret2
          exact ⟨_, by rw [HE.out]; rfl, by obtain ⟨_, rfl, h⟩ := HNO.out _ (by omega) HE.out; exact h, Below.refl _ _⟩
        have HE5 : Hid (rbE n m l p = if rbScan l ((n : Int) + m) l.length 0 ≠ 0 then rbScan l ((n : Int) + m) l.length 0 else if alik p ≠ 0 then alik p else (minv (rbRows n m l)).2) := by
          unfold rbE; rw [if_neg (by omega), if_neg (by omega), if_neg (not_not_intro h3), if_neg h4, if_neg h5]; exact Lib.hid rfl
        have hln : l.length = n := by omega
        have HLN := Lib.hid hln
        have hd4 : decide (l.length < n) = false := decide_eq_false (by omega)
        have hd5 : decide (n < l.length) = false := decide_eq_false (by omega)
        have HLP := Lib.hid h3
        have hn0 : 0 < l.length := by omega
        have hn8 : l.length ≤ 8 := by omega
        have hnp : p.length = l.length := h3.symm
        have HNP := Lib.hid hnp
        clear hln h3 hnp
        obtain ⟨ba, oa, rfl, hce⟩ := HX1.out hn0
        have HCE := Lib.hid hce
        clear hce HX1 HX2
        go_enter Try.func54, Try.ntmps54
        go_wp2_with (first | (go_at_call 45; refine (within_calls _ _ _).mono ?_; rw [HW1.out]; rintro e w1 ⟨rfl, rfl⟩) | (go_at_call 45; refine (within_calls _ _ _).mono ?_; rw [HW2.out]; rintro e w1 ⟨rfl, rfl⟩))
        go_loop [40] (fun x => ∃ k : Nat, k ≤ l.length ∧ x = .int .i64 k ∧ Hid (rbScan l ((n : Int) + m) l.length 0 = rbScan l ((n : Int) + m) (l.length - k) k)) (fun x => l.length - (intOf x).toNat)
        case atStart => exact ⟨0, by omega, rfl, Lib.hid rfl⟩
        case round =>
          obtain ⟨k, hk, rfl, hq⟩ := hrel
          by_cases hlt : k < l.length
          · have hcp := HCE.out k hlt
            have HS : Hid (rbScan l ((n : Int) + m) (l.length - k) k = if inAt l ((n : Int) + m) k = false then 3 else if dupAt l k = true then 6 else rbScan l ((n : Int) + m) (l.length - (k + 1)) (k + 1)) := by
              rw [show l.length - k = (l.length - (k + 1)) + 1 by omega]; exact Lib.hid rfl
            have hrg := HRG.out k
            have HT : Hid (RInts w (.slice (some ⟨ba, oa, none⟩) k ca) (l.take k)) := Lib.hid (HAI.out.take (by omega))
            have HDT := Lib.hid (dupAt_take l k (by omega))
            have hkc : ¬ ca = k := by omega
            by_cases hlo : ni l k < 0
            · have HR3 : Hid (rbScan l ((n : Int) + m) l.length 0 = 3) := by
                rw [hq.out, HS.out, if_pos (by unfold inAt; rw [Bool.and_eq_false_iff]; exact .inl (decide_eq_false (by omega)))]; exact Lib.hid rfl
              have HE : Hid (rbE n m l p = 3) := by rw [HE5.out, HR3.out]; exact Lib.hid rfl
              generalize ni l k = x at *
              go_wp2_with fail
              go_ret2
              exact ⟨_, by rw [HE.out]; rfl, by obtain ⟨_, rfl, h⟩ := HNO.out _ (by omega) HE.out; exact h, Below.refl _ _⟩
            by_cases hhi : ni l k < (n : Int) + m
            · have hin : inAt l ((n : Int) + m) k = true := by unfold inAt; simp; omega
              have HIN := Lib.hid hin
              clear hin
              cases hd : dupAt l k with
              | true =>
                have HR3 : Hid (rbScan l ((n : Int) + m) l.length 0 = 6) := by
                  rw [hq.out, HS.out, HIN.out, hd]; exact Lib.hid rfl
                have HE : Hid (rbE n m l p = 6) := by rw [HE5.out, HR3.out]; exact Lib.hid rfl
                have HC : Hid (Calls Try.prog 99 #[.slice (some ⟨ba, oa, none⟩) k ca, .int .i64 (ni l k)] w fun e w' => w = w' ∧ e = .returned (.bool true)) := by
                  have := hasInt_calls _ (l.take k) (ni l k) w HT.out
                  rw [HDT.out, hd] at this; exact Lib.hid this
                clear hd
                generalize ni l k = x at *
                go_wp2_with (with_reducible refine (HC.out).mono ?_; rintro e w1 ⟨rfl, rfl⟩)
                go_ret2
                exact ⟨_, by rw [HE.out]; rfl, by obtain ⟨_, rfl, h⟩ := HNO.out _ (by omega) HE.out; exact h, Below.refl _ _⟩
              | false =>
                have HR3 : Hid (rbScan l ((n : Int) + m) l.length 0 = rbScan l ((n : Int) + m) (l.length - (k + 1)) (k + 1)) := by
                  rw [hq.out, HS.out, HIN.out, hd]; exact Lib.hid rfl
                have HC : Hid (Calls Try.prog 99 #[.slice (some ⟨ba, oa, none⟩) k ca, .int .i64 (ni l k)] w fun e w' => w = w' ∧ e = .returned (.bool false)) := by
                  have := hasInt_calls _ (l.take k) (ni l k) w HT.out
                  rw [HDT.out, hd] at this; exact Lib.hid this
                clear hd
                generalize ni l k = x at *
                go_wp2_with (with_reducible refine (HC.out).mono ?_; rintro e w1 ⟨rfl, rfl⟩)
                go_round
                case rel => exact ⟨k + 1, by omega, by go_num, HR3⟩
                case measure => simp [intOf]; omega
            · have HR3 : Hid (rbScan l ((n : Int) + m) l.length 0 = 3) := by
                rw [hq.out, HS.out, if_pos (by unfold inAt; rw [Bool.and_eq_false_iff]; exact .inr (decide_eq_false (by omega)))]; exact Lib.hid rfl
              have HE : Hid (rbE n m l p = 3) := by rw [HE5.out, HR3.out]; exact Lib.hid rfl
              generalize ni l k = x at *
              go_wp2_with fail
              go_ret2
              exact ⟨_, by rw [HE.out]; rfl, by obtain ⟨_, rfl, h⟩ := HNO.out _ (by omega) HE.out; exact h, Below.refl _ _⟩
          · have : k = l.length := by omega
            subst this
            have HSC : Hid (rbScan l ((n : Int) + m) l.length 0 = 0) := by rw [hq.out, Nat.sub_self]; exact Lib.hid rfl
            have HIN : Hid (∀ k, k < l.length → 0 ≤ ni l k ∧ ni l k < (n : Int) + m) := by
              refine Lib.hid fun k hk => ?_
              have := (rbScan_ok _ _ HSC.out k (by omega) (by omega)).1
              unfold inAt at this
              simp at this; omega
            by_cases hz : alik p = 0
            · have HZ := Lib.hid hz
              have HE6 : Hid (rbE n m l p = (minv (rbRows n m l)).2) := by rw [HE5.out, HSC.out, if_neg (by omega), if_neg (not_not_intro hz)]; exact Lib.hid rfl
              have HAL := Lib.hid (alik_ok hz)
              clear hz
              have hrl : (rbRows n m l).length = l.length := by simp [rbRows]
              have HRL := Lib.hid hrl
              have HROW : Hid (Calls Try.prog 100 #[.int .i64 n, .int .i64 m, .slice (some ⟨ba, oa, none⟩) l.length ca] w fun e w' => ∃ x, e = .returned x ∧ RMat w' x (rbRows n m l) ∧ Below w.heap.size w w') :=
                Lib.hid (rowsOf_calls n m (by omega) (by omega) (by omega) (by omega) _ l w HAI.out (by omega) HIN.out)
              clear hrl
              by_cases hv : (minv (rbRows n m l)).2 = 0
              · have HV := Lib.hid hv
                have hsh := minv_shape hv
                rw [HRL.out] at hsh
                have HSL := Lib.hid hsh.1
                have HSF := Lib.hid hsh.2
                have HE7 : Hid (rbE n m l p = 0) := by rw [HE6.out]; exact HV
                clear hv hsh
                go_wp2_with (first | (go_at_call 46; refine (alike_calls _ p _ HPS.out).mono ?_; rw [HZ.out]; rintro e w1 ⟨rfl, rfl⟩) | (go_at_call 100; with_reducible refine (HROW.out).mono ?_; rintro e w1 ⟨x1, rfl, hm, hb⟩; have HM := Lib.hid hm; have HB1 := Lib.hid hb; clear hm hb) | (go_at_call 11; refine (Inverse_calls _ _ _ HM.out).mono ?_; rw [HV.out]; rintro e w2 ⟨x2, rfl, ho, hb⟩; have HO := Lib.hid ho; have HB2 := Lib.hid hb; clear ho hb) | (go_at_call 48; refine (mixed_calls _ _ (minv (rbRows n m l)).1 p l.length (ns p 0).length _ HO.out.rd (HPS.out.below (HB1.out.trans (HB2.out.mono HB1.out.size))) HSF.out (by rw [HNP.out]; omega) (by omega) (by rw [HNP.out]; exact hn0) (fun i hi => (HAL.out i hi).1) (by have := (HAL.out 0 (by rw [HNP.out]; exact hn0)).2; omega) (by rw [HSL.out]; omega)).mono ?_; rintro e w3 ⟨x3, rfl, ho, hb⟩; have HO3 := Lib.hid ho; have HB3 := Lib.hid hb; clear ho hb))
                go_ret2
                have hbb := HB1.out.trans ((HB2.out.mono HB1.out.size).trans (HB3.out.mono (Nat.le_trans HB1.out.size HB2.out.size)))
                refine ⟨_, by rw [HE7.out]; rfl, ?_, hbb⟩
                unfold rb
                rw [HE7.out, if_pos rfl]
                exact HO3.out.mono fun k hk => Nat.le_trans (Nat.le_trans HB1.out.size HB2.out.size) hk
              · have hv' : ((minv (rbRows n m l)).2 != 0) = true := by simp [hv]
                have HV := Lib.hid hv
                clear hv
                go_wp2_with (first | (go_at_call 46; refine (alike_calls _ p _ HPS.out).mono ?_; rw [HZ.out]; rintro e w1 ⟨rfl, rfl⟩) | (go_at_call 100; with_reducible refine (HROW.out).mono ?_; rintro e w1 ⟨x1, rfl, hm, hb⟩; have HM := Lib.hid hm; have HB1 := Lib.hid hb; clear hm hb) | (go_at_call 11; refine (Inverse_calls _ _ _ HM.out).mono ?_; rintro e w2 ⟨x2, rfl, ho, hb⟩; have HO := Lib.hid ho; have HB2 := Lib.hid hb; clear ho hb))
                go_ret2
                refine ⟨_, by rw [HE6.out]; rfl, ?_, HB1.out.trans (HB2.out.mono HB1.out.size)⟩
                unfold rb
                rw [HE6.out, if_neg HV.out]; exact OStrs.nil _ _
            · have hz' : (alik p != 0) = true := by simp [hz]
              have HE6 : Hid (rbE n m l p = alik p) := by rw [HE5.out, HSC.out, if_neg (by omega), if_pos hz]; exact Lib.hid rfl
              have HZ := Lib.hid hz
              clear hz
              go_wp2_with (go_at_call 46; refine (alike_calls _ p _ HPS.out).mono ?_; rintro e w1 ⟨rfl, rfl⟩)
              go_ret2
              refine ⟨_, by rw [HE6.out]; rfl, ?_, Below.refl _ _⟩
              unfold rb
              rw [HE6.out, if_neg HZ.out]; exact OStrs.nil _ _
      · have HE : Hid (rbE n m l p = 1) := by unfold rbE; rw [if_neg (by omega), if_neg (by omega), if_pos h3]; exact Lib.hid rfl
        have h3' : ((l.length : Int) != (p.length : Int)) = true := by simp [bne_iff_ne]; omega
        clear h3
        go_enter Try.func54, Try.ntmps54
        go_wp2_with (first | (go_at_call 45; refine (within_calls _ _ _).mono ?_; rw [HW1.out]; rintro e w1 ⟨rfl, rfl⟩) | (go_at_call 45; refine (within_calls _ _ _).mono ?_; rw [HW2.out]; rintro e w1 ⟨rfl, rfl⟩))
        go_ret2
        exact ⟨_, by rw [HE.out]; rfl, by obtain ⟨_, rfl, h⟩ := HNO.out _ (by omega) HE.out; exact h, Below.refl _ _⟩
    · have HE : Hid (rbE n more l p = 3) := by unfold rbE; rw [if_neg (by omega), if_pos h2]; exact Lib.hid rfl
      have HW2 := Lib.hid (within_no h2)
      clear h2
      go_enter Try.func54, Try.ntmps54
      go_wp2_with (first | (go_at_call 45; refine (within_calls _ _ _).mono ?_; rw [HW1.out]; rintro e w1 ⟨rfl, rfl⟩) | (go_at_call 45; refine (within_calls _ _ _).mono ?_; rw [HW2.out]; rintro e w1 ⟨rfl, rfl⟩))
      go_ret2
      exact ⟨_, by rw [HE.out]; rfl, by obtain ⟨_, rfl, h⟩ := HNO.out _ (by omega) HE.out; exact h, Below.refl _ _⟩
  · have HE : Hid (rbE many more l p = 3) := by unfold rbE; rw [if_pos h1]; exact Lib.hid rfl
    have HW1 := Lib.hid (within_no h1)
    clear h1
    go_enter Try.func54, Try.ntmps54
    go_wp2_with (go_at_call 45; refine (within_calls _ _ _).mono ?_; rw [HW1.out]; rintro e w1 ⟨rfl, rfl⟩)
    go_ret2
    exact ⟨_, by rw [HE.out]; rfl, by obtain ⟨_, rfl, h⟩ := HNO.out _ (by omega) HE.out; exact h, Below.refl _ _⟩
end Go.Proofs.Ytphehfllcmbpkaa
