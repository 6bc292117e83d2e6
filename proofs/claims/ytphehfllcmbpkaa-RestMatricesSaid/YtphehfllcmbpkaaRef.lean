/- The contracts of the reference's comparisons. No condition. -/
import Derived.Test.YtphehfllcmbpkaaCodeG
namespace Go.Proofs.Ytphehfllcmbpkaa
open Go Go.RowKit GF
set_option maxRecDepth 100000
set_option maxHeartbeats 2000000
theorem nb_ext {a b : List UInt8} (hl : a.length = b.length) (h : ∀ k, k < a.length → nb a k = nb b k) : a = b := by
  apply List.ext_getElem hl
  intro i h1 h2
  have := h i h1
  simpa [nb, List.getD, h1, h2] using this
theorem RBytes.drewN {w v l} (h : RBytes w v l) (n : Nat) : RBytes (w.drewN n) v l := h.below (below_drewN w n)
theorem sameBytes_calls (va vb : Value) (a b : List UInt8) (w : World) (ha : RBytes w va a) (hb : RBytes w vb b) :
    Calls Try.prog 55 #[va, vb] w fun e w' => e = .returned (.bool (decide (a = b))) ∧ ∃ n, w' = w.drewN n := by
  obtain ⟨aa, ca, rfl, hc1, hm1, hx1⟩ := ha.open
  obtain ⟨ab, cb, rfl, hc2, hm2, hx2⟩ := hb.open
  have HX1 := Lib.hid hx1
  have HX2 := Lib.hid hx2
  unfold maxLen at hm1 hm2
  clear ha hb hx1 hx2
  by_cases hl : a.length = b.length
  · have HLL := Lib.hid hl
    have hl' : ((a.length : Int) != (b.length : Int)) = false := by simp [hl]
    have hle : a.length ≤ b.length := by omega
    clear hl
    go_enter Try.func55, Try.ntmps55
    go_wp2_with fail
    go_loopw [5] (fun x wr => ∃ k m : Nat, k ≤ a.length ∧ x = .int .i64 k ∧ wr = w.drewN m ∧ Hid (∀ j, j < k → nb a j = nb b j)) (fun x _ => a.length - (intOf x).toNat)
    case atStart => exact ⟨0, 0, by omega, rfl, rfl, fun j hj => by omega⟩
    case round =>
      obtain ⟨k, m, hk, rfl, rfl, hq⟩ := hrel
      by_cases hlt : k < a.length
      · obtain ⟨b1, o1, rfl, hce1⟩ := HX1.out (by omega)
        obtain ⟨b2, o2, rfl, hce2⟩ := HX2.out (by omega)
        have h3 := hce1 k hlt
        have h4 := hce2 k (by omega)
        have hltb : k < b.length := by omega
        clear hce1 hce2
        by_cases he : nb a k = nb b k
        · have HE := Lib.hid he
          have he' : (B (nb a k) != B (nb b k)) = false := by rw [he]; simp
          clear he
          go_wp2_with fail
          go_quiet (fail)
          go_wp2_with fail
          go_roundw
          case rel =>
            refine ⟨k+1, m + _, by omega, by go_num, rfl, fun j hj => ?_⟩
            by_cases e : j = k
            · subst e; exact HE.out
            · exact hq.out j (by omega)
          case measure => simp [intOf]; omega
        · have HE := Lib.hid he
          have he' : (B (nb a k) != B (nb b k)) = true := by rw [bne_iff_ne]; intro h; exact he (B_eq.1 h)
          clear he
          go_wp2_with fail
          go_quiet (fail)
          go_wp2_with fail
          go_ret
          have hne : ¬ a = b := fun e => HE.out (by rw [e])
          exact ⟨by rw [decide_eq_false hne]; rfl, m + _, World.drewN_drewN _ _ _⟩
      · have : k = a.length := by omega
        subst this
        go_wp2_with fail
        go_ret
        have he : a = b := nb_ext HLL.out hq.out
        exact ⟨by rw [decide_eq_true he]; rfl, _, rfl⟩
  · have HLL := Lib.hid hl
    have hl' : ((a.length : Int) != (b.length : Int)) = true := by simp [bne_iff_ne]; omega
    clear hl
    go_enter Try.func55, Try.ntmps55
    go_wp2_with fail
    go_ret
    have hne : ¬ a = b := fun e => HLL.out (by rw [e])
    exact ⟨by rw [decide_eq_false hne]; rfl, 0, rfl⟩
theorem sameTexts_calls (va vb : Value) (a b : List (List UInt8)) (w : World) (ha : RStrs w va a) (hb : RStrs w vb b) :
    Calls Try.prog 21 #[va, vb] w fun e w' => e = .returned (.bool (decide (a = b))) ∧ ∃ n, w' = w.drewN n := by
  obtain ⟨aa, ca, rfl, hc1, hm1, hx1⟩ := ha.open
  obtain ⟨ab, cb, rfl, hc2, hm2, hx2⟩ := hb.open
  have HX1 := Lib.hid hx1
  have HX2 := Lib.hid hx2
  unfold maxLen at hm1 hm2
  clear ha hb hx1 hx2
  by_cases hl : a.length = b.length
  · have HLL := Lib.hid hl
    have hl' : ((a.length : Int) != (b.length : Int)) = false := by simp [hl]
    have hle : a.length ≤ b.length := by omega
    clear hl
    go_enter Try.func21, Try.ntmps21
    go_wp2_with fail
    go_loopw [5] (fun x wr => ∃ k m : Nat, k ≤ a.length ∧ x = .int .i64 k ∧ wr = w.drewN m ∧ Hid (∀ j, j < k → ns a j = ns b j)) (fun x _ => a.length - (intOf x).toNat)
    case atStart => exact ⟨0, 0, by omega, rfl, rfl, fun j hj => by omega⟩
    case round =>
      obtain ⟨k, m, hk, rfl, rfl, hq⟩ := hrel
      by_cases hlt : k < a.length
      · obtain ⟨b1, o1, rfl, hce1⟩ := HX1.out (by omega)
        obtain ⟨b2, o2, rfl, hce2⟩ := HX2.out (by omega)
        have h3 := hce1 k hlt
        have h4 := hce2 k (by omega)
        have hltb : k < b.length := by omega
        clear hce1 hce2
        have hsb : (ns a k == ns b k) = decide (ns a k = ns b k) := by rw [Bool.eq_iff_iff, beq_iff_eq, decide_eq_true_iff]
        by_cases he : ns a k = ns b k
        · rw [decide_eq_true he] at hsb
          have HE := Lib.hid he
          clear he
          go_wp2_with fail
          go_quiet (fail)
          go_wp2_with fail
          go_roundw
          case rel =>
            refine ⟨k+1, m + _, by omega, by go_num, rfl, fun j hj => ?_⟩
            by_cases e : j = k
            · subst e; exact HE.out
            · exact hq.out j (by omega)
          case measure => simp [intOf]; omega
        · rw [decide_eq_false he] at hsb
          have HE := Lib.hid he
          clear he
          go_wp2_with fail
          go_quiet (fail)
          go_wp2_with fail
          go_ret
          have hne : ¬ a = b := fun e => HE.out (by rw [e])
          exact ⟨by rw [decide_eq_false hne]; rfl, m + _, World.drewN_drewN _ _ _⟩
      · have : k = a.length := by omega
        subst this
        go_wp2_with fail
        go_ret
        have he : a = b := ns_ext HLL.out hq.out
        exact ⟨by rw [decide_eq_true he]; rfl, _, rfl⟩
  · have HLL := Lib.hid hl
    have hl' : ((a.length : Int) != (b.length : Int)) = true := by simp [bne_iff_ne]; omega
    clear hl
    go_enter Try.func21, Try.ntmps21
    go_wp2_with fail
    go_ret
    have hne : ¬ a = b := fun e => HLL.out (by rw [e])
    exact ⟨by rw [decide_eq_false hne]; rfl, 0, rfl⟩
theorem mat_ext {a b : List (List UInt8)} (hl : a.length = b.length) (h : ∀ k, k < a.length → a.getD k [] = b.getD k []) : a = b := ns_ext hl h
theorem sameMatrix_calls (va vb : Value) (a b : List (List UInt8)) (w : World) (ha : RMat w va a) (hb : RMat w vb b) :
    Calls Try.prog 20 #[va, vb] w fun e w' => e = .returned (.bool (decide (a = b))) ∧ ∃ n, w' = w.drewN n := by
  obtain ⟨aa, ca, rfl, hc1, hm1, hx1⟩ := ha.open
  obtain ⟨ab, cb, rfl, hc2, hm2, hx2⟩ := hb.open
  have HX1 := Lib.hid hx1
  have HX2 := Lib.hid hx2
  unfold maxLen at hm1 hm2
  clear ha hb hx1 hx2
  by_cases hl : a.length = b.length
  · have HLL := Lib.hid hl
    have hl' : ((a.length : Int) != (b.length : Int)) = false := by simp [hl]
    have hle : a.length ≤ b.length := by omega
    clear hl
    go_enter Try.func20, Try.ntmps20
    go_wp2_with fail
    go_loopw [5] (fun x wr => ∃ k m : Nat, k ≤ a.length ∧ x = .int .i64 k ∧ Hid (wr = w.drewN m) ∧ Hid (∀ j, j < k → a.getD j [] = b.getD j [])) (fun x _ => a.length - (intOf x).toNat)
    case atStart => exact ⟨0, 0, by omega, rfl, Lib.hid rfl, fun j hj => by omega⟩
    case round =>
      obtain ⟨k, m, hk, rfl, hw, hq⟩ := hrel
      by_cases hlt : k < a.length
      · obtain ⟨b1, o1, rfl, hce1⟩ := HX1.out (by omega)
        obtain ⟨b2, o2, rfl, hce2⟩ := HX2.out (by omega)
        have hltb : k < b.length := by omega
        obtain ⟨u1, h3, r1⟩ := hce1 k (a.getD k []) (by simp [List.getD, hlt])
        obtain ⟨u2, h4, r2⟩ := hce2 k (b.getD k []) (by simp [List.getD, hltb])
        have HC : Hid (∀ n, Calls Try.prog 55 #[u1, u2] (wr.drewN n) fun e w'' => e = .returned (.bool (decide (a.getD k [] = b.getD k []))) ∧ ∃ q, w'' = wr.drewN q) := by
          refine Lib.hid fun n => (sameBytes_calls u1 u2 _ _ (wr.drewN n) (RBytes.drewN (by rw [hw.out]; exact r1.drewN m) n) (RBytes.drewN (by rw [hw.out]; exact r2.drewN m) n)).mono ?_
          rintro e w' ⟨h, q, rfl⟩; exact ⟨h, n + q, World.drewN_drewN _ _ _⟩
        have h3' : wr.cell? ⟨b1, o1 + k, none⟩ = some u1 := by rw [hw.out]; exact h3
        have h4' : wr.cell? ⟨b2, o2 + k, none⟩ = some u2 := by rw [hw.out]; exact h4
        clear hce1 hce2 r1 r2 h3 h4
        by_cases he : a.getD k [] = b.getD k []
        · rw [decide_eq_true he] at HC
          have HE := Lib.hid he
          clear he
          go_wp2_with fail
          go_quiet ((go_at_call 55; go_loud (exact HC.out _)))
          go_wp2_with fail
          go_roundw
          case rel =>
            refine ⟨k+1, m + _, by omega, by go_num, Lib.hid (by rw [hw.out]; exact World.drewN_drewN _ _ _), fun j hj => ?_⟩
            by_cases e : j = k
            · subst e; exact HE.out
            · exact hq.out j (by omega)
          case measure => simp [intOf]; omega
        · rw [decide_eq_false he] at HC
          have HE := Lib.hid he
          clear he
          go_wp2_with fail
          go_quiet ((go_at_call 55; go_loud (exact HC.out _)))
          go_wp2_with fail
          go_ret
          have hne : ¬ a = b := fun e => HE.out (by rw [e])
          exact ⟨by rw [decide_eq_false hne]; rfl, m + _, by rw [hw.out]; exact World.drewN_drewN _ _ _⟩
      · have : k = a.length := by omega
        subst this
        go_wp2_with fail
        go_ret
        have he : a = b := mat_ext HLL.out hq.out
        exact ⟨by rw [decide_eq_true he]; rfl, _, hw.out⟩
  · have HLL := Lib.hid hl
    have hl' : ((a.length : Int) != (b.length : Int)) = true := by simp [bne_iff_ne]; omega
    clear hl
    go_enter Try.func20, Try.ntmps20
    go_wp2_with fail
    go_ret
    have hne : ¬ a = b := fun e => HLL.out (by rw [e])
    exact ⟨by rw [decide_eq_false hne]; rfl, 0, rfl⟩
end Go.Proofs.Ytphehfllcmbpkaa
