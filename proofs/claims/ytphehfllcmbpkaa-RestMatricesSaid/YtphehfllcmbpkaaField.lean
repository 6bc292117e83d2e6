/- The contracts of package field: products. No condition. -/
import Derived.Test.YtphehfllcmbpkaaProg
import Derived.Test.YtphehfllcmbpkaaMem
namespace Go.Proofs.Ytphehfllcmbpkaa
open Go Go.RowKit GF
theorem xt_hi (p : UInt8) (h : 127 < B p) : bits .xor .u8 (B p * 2 % 256) 29 = B (xt p) := by
  have := all_spec (p := fun p => decide (127 < B p → bits .xor .u8 (B p * 2 % 256) 29 = B (xt p))) (by decide +kernel) p
  simpa using of_decide_eq_true this h
theorem xt_lo (p : UInt8) (h : B p ≤ 127) : B p * (2:Int) = B (xt p) := by
  have := all_spec (p := fun p => decide (B p ≤ 127 → B p * (2:Int) = B (xt p))) (by decide +kernel) p
  exact of_decide_eq_true this h
theorem shr1 (q : UInt8) : B q / (2:Int) = B (q >>> (1:UInt8)) := by
  have := all_spec (p := fun q => decide (B q / (2:Int) = B (q >>> (1:UInt8)))) (by decide +kernel) q
  exact of_decide_eq_true this
theorem and1 (q : UInt8) : (bits .and .u8 (B q) 1 != 0) = bit q 0 := by
  have := all_spec (p := fun q => decide ((bits .and .u8 (B q) 1 != 0) = bit q 0)) (by decide +kernel) q
  exact of_decide_eq_true this
theorem bit_shr (q : UInt8) (i : Nat) : bit (q >>> 1) i = bit q (i + 1) := by
  simp [bit, UInt8.toNat_shiftRight, Nat.testBit_shiftRight, Nat.add_comm]
theorem bit8 (q : UInt8) : bit q 8 = false := by
  unfold bit; exact Nat.testBit_lt_two_pow (by have := q.toNat_lt; omega)
theorem mulN_shift (n : Nat) (p q : UInt8) : mulN (n+1) p q = term q 0 p ^^^ mulN n (xt p) (q >>> 1) := by
  induction n with
  | zero => simp [mulN, Nat.repeat]
  | succ n ih =>
    rw [mulN, ih, mulN, UInt8.xor_assoc]
    congr 2
    simp only [term, bit_shr, rep_xt]; rfl
theorem gmul_step (p q : UInt8) : gmul p q = term q 0 p ^^^ gmul (xt p) (q >>> 1) := by
  have h := mulN_shift 8 p q
  have h9 : mulN 9 p q = gmul p q := by
    rw [mulN, term, bit8]; simp [gmul]
  rw [← h9]; exact h
theorem gmul_step1 {p q : UInt8} (h : bit q 0 = true) (r : UInt8) : (r ^^^ p) ^^^ gmul (xt p) (q >>> 1) = r ^^^ gmul p q := by
  rw [gmul_step p q, term, if_pos h, UInt8.xor_assoc]
theorem gmul_step0 {p q : UInt8} (h : bit q 0 = false) (r : UInt8) : r ^^^ gmul (xt p) (q >>> 1) = r ^^^ gmul p q := by
  rw [gmul_step p q, term, if_neg (by simp [h])]; simp
theorem mul_calls (x y : UInt8) (w : World) :
    Calls Try.prog 52 #[.int .u8 (B x), .int .u8 (B y)] w fun e w' => w = w' ∧ e = .returned (.int .u8 (B (gmul x y))) := by
  have hb := B_hi x; have hb2 := B_lo x; have hb3 := B_hi y; have hb4 := B_lo y
  go_enter Try.func52, Try.ntmps52
  go_wp2
  go_loop [0, 1, 5] (fun a b o => ∃ p q r : UInt8, a = .int .u8 (B p) ∧ b = .int .u8 (B q) ∧ o = .int .u8 (B r) ∧ Hid (r ^^^ gmul p q = gmul x y)) (fun a b o => (intOf b).toNat)
  case atStart => exact ⟨x, y, 0, rfl, rfl, rfl, Lib.hid (by simp)⟩
  case round =>
    obtain ⟨p, q, r, rfl, rfl, rfl, hg⟩ := hrel
    have hp := B_hi p; have hp2 := B_lo p; have hp3 := B_hi q; have hp4 := B_lo q
    by_cases hq : B q = 0
    · have hq' : (B q != 0) = false := by simp [hq]
      have hq0 : q = 0 := B_eq.1 hq
      subst hq0
      have hr : Hid (r = gmul x y) := Lib.hid (by have := hg.out; simpa [gmul_zero_r] using this)
      clear hg hq
      go_wp2
      go_ret
      exact ⟨rfl, by simp [hr.out]⟩
    · have hq' : (B q != 0) = true := by simpa using hq
      clear hq
      have hlt : (B (q >>> 1)).toNat < (B q).toNat := by rw [← shr1]; have := bne_iff_ne.1 hq'; omega
      by_cases h1 : bit q 0 = true
      · have h1' : (bits .and .u8 (B q) 1 != 0) = true := by rw [and1]; exact h1
        by_cases h2 : 127 < B p
        · go_wp2
          go_round
          case rel => exact ⟨_, _, _, by rw [xt_hi p h2], by rw [shr1], rfl, Lib.hid (by rw [gmul_step1 h1, hg.out])⟩
          case measure => simp only [intOf, shr1]; exact hlt
        · have h2' : B p ≤ 127 := by omega
          go_wp2
          go_round
          case rel => exact ⟨_, _, _, by rw [xt_lo p h2'], by rw [shr1], rfl, Lib.hid (by rw [gmul_step1 h1, hg.out])⟩
          case measure => simp only [intOf, shr1]; exact hlt
      · have h1 : bit q 0 = false := by simpa using h1
        have h1' : (bits .and .u8 (B q) 1 != 0) = false := by rw [and1]; exact h1
        by_cases h2 : 127 < B p
        · go_wp2
          go_round
          case rel => exact ⟨_, _, _, by rw [xt_hi p h2], by rw [shr1], rfl, Lib.hid (by rw [gmul_step0 h1, hg.out])⟩
          case measure => simp only [intOf, shr1]; exact hlt
        · have h2' : B p ≤ 127 := by omega
          go_wp2
          go_round
          case rel => exact ⟨_, _, _, by rw [xt_lo p h2'], by rw [shr1], rfl, Lib.hid (by rw [gmul_step0 h1, hg.out])⟩
          case measure => simp only [intOf, shr1]; exact hlt
/-- the tables of field.made behind k rounds, in block g -/
structure Tab (k : Nat) (w : World) (g : Nat) : Prop where
  ex : ∃ c : Array Value, w.heap[g]? = some (.cells c 174 (0,0)) ∧ c.size = 766 ∧
    ∀ j, j < k → c[j]? = some (.int .u8 (B (pwr j))) ∧ c[j+255]? = some (.int .u8 (B (pwr j))) ∧ c[510 + (B (pwr j)).toNat]? = some (.int .i64 j)
theorem Tab.at {k w g} (h : Tab k w g) (j : Nat) (hj : j < 766) : ∃ v, w.cell? ⟨g, j, none⟩ = some v := by
  obtain ⟨c, hc, hs, _⟩ := h.ex
  exact ⟨c[j], by simp [World.cell?, hc]⟩
theorem Tab.fz {k w g} (h : Tab k w g) (j : Nat) : w.frozen? ⟨g, j, none⟩ = false := by
  obtain ⟨c, hc, hs, _⟩ := h.ex
  simp [World.frozen?, hc]
theorem Tab.step {k w g} (h : Tab k w g) (hk : k < 255) : Tab (k+1)
    (((w.setCell ⟨g, k, none⟩ (.int .u8 (B (pwr k)))).setCell ⟨g, k + 255, none⟩ (.int .u8 (B (pwr k)))).setCell ⟨g, 510 + (B (pwr k)).toNat, none⟩ (.int .i64 k)).drew g := by
  obtain ⟨c, hc, hs, hj⟩ := h.ex
  have hp := B_hi (pwr k); have hp2 := B_lo (pwr k)
  refine ⟨_, heap_setCell_same _ _ _ _ _ _ (heap_setCell_same _ _ _ _ _ _ (heap_setCell_same _ _ _ _ _ _ hc)), by simp [hs], ?_⟩
  intro j hjk
  have hpj := B_hi (pwr j); have hpj2 := B_lo (pwr j)
  by_cases e : j = k
  · subst e
    simp only [Array.getElem?_setIfInBounds, Array.size_setIfInBounds, hs]
    refine ⟨?_, ?_, ?_⟩
    · rw [if_neg (by omega), if_neg (by omega), if_pos trivial, if_pos (by omega)]
    · rw [if_neg (by omega), if_pos trivial, if_pos (by omega)]
    · rw [if_pos trivial, if_pos (by omega)]
  · obtain ⟨h1, h2, h3⟩ := hj j (by omega)
    have hne : B (pwr j) ≠ B (pwr k) := fun e' => e (pwr_inj (by omega) hk (B_eq.1 e'))
    simp only [Array.getElem?_setIfInBounds, Array.size_setIfInBounds, hs]
    refine ⟨?_, ?_, ?_⟩
    · rw [if_neg (by omega), if_neg (by omega), if_neg (by omega)]; exact h1
    · rw [if_neg (by omega), if_neg (by omega), if_neg (by omega)]; exact h2
    · rw [if_neg (by omega), if_neg (by omega), if_neg (by omega)]; exact h3
theorem dbl_hi (p : UInt8) (h : 255 < B p * (2:Int)) : bits .xor .i64 (B p * (2:Int)) 285 = B (xt p) := by
  have := all_spec (p := fun p => decide (255 < B p * (2:Int) → bits .xor .i64 (B p * (2:Int)) 285 = B (xt p))) (by decide +kernel) p
  exact of_decide_eq_true this h
theorem dbl_lo (p : UInt8) (h : B p * (2:Int) ≤ 255) : B p * (2:Int) = B (xt p) := xt_lo p (by omega)
set_option maxRecDepth 100000 in
theorem made_calls (w : World) :
    Calls Try.prog 123 #[] w fun e w' => e = .returned (.pointer (some ⟨w.heap.size, 0, none⟩)) ∧ Tab 255 w' w.heap.size ∧ Below w.heap.size w w' := by
  go_enter Try.func123, Try.ntmps123
  go_wp2
  go_loopw [5, 2] (fun i x wr => ∃ (k : Nat), k ≤ 255 ∧ i = .int .i64 k ∧ x = .int .i64 (B (pwr k)) ∧ Tab k wr w.heap.size ∧ Below w.heap.size w wr) (fun i _ _ => 255 - (intOf i).toNat)
  case atStart =>
    refine ⟨0, by omega, rfl, rfl, ⟨_, heap_alloc_new _ _, by kernel_rfl, by omega⟩, (Below.refl _ _).alloc (Nat.le_refl _) _⟩
  case round =>
    obtain ⟨k, hk, rfl, rfl, ht, hb⟩ := hrel
    have hsz : w.heap.size < wr.heap.size := by
      obtain ⟨c, hc, _⟩ := ht.ex
      exact (Array.getElem?_eq_some_iff.1 hc).1
    by_cases hlt : k < 255
    · obtain ⟨v1, h1⟩ := ht.at k (by omega)
      obtain ⟨v2, h2⟩ := ht.at (k + 255) (by omega)
      obtain ⟨v3, h3⟩ := ht.at (510 + (B (pwr k)).toNat) (by have := B_hi (pwr k); omega)
      have f1 := ht.fz k
      have f2 := ht.fz (k + 255)
      have f3 := ht.fz (510 + (B (pwr k)).toNat)
      have hp := B_hi (pwr k); have hp2 := B_lo (pwr k)
      have hst := Lib.hid (ht.step hlt)
      have hbs : Hid (Below w.heap.size w (((wr.setCell ⟨w.heap.size, k, none⟩ (.int .u8 (B (pwr k)))).setCell ⟨w.heap.size, k + 255, none⟩ (.int .u8 (B (pwr k)))).setCell ⟨w.heap.size, 510 + (B (pwr k)).toNat, none⟩ (.int .i64 k)).drew) :=
        (((hb.setCell (Nat.le_refl _) _).setCell (Nat.le_refl _) _).setCell (Nat.le_refl _) _).drew
      by_cases h255 : 255 < B (pwr k) * (2:Int)
      · have hx := Lib.hid (dbl_hi _ h255)
        go_wp2
        go_region
        go_wp2
        go_roundw
        case rel => exact ⟨k+1, by omega, by go_num, by rw [hx.out]; rfl, hst.out, hbs.out⟩
        case measure => simp [intOf]; omega
      · have h255' : B (pwr k) * (2:Int) ≤ 255 := by omega
        have hx := Lib.hid (dbl_lo _ h255')
        go_wp2
        go_region
        go_wp2
        go_roundw
        case rel => exact ⟨k+1, by omega, by go_num, by rw [hx.out]; rfl, hst.out, hbs.out⟩
        case measure => simp [intOf]; omega
    · have : k = 255 := by omega
      subst this
      go_wp2
      go_ret
      exact ⟨rfl, ht, hb⟩
theorem Tab.log {w g} (h : Tab 255 w g) {a : UInt8} (ha : a ≠ 0) : w.cell? ⟨g, 510 + (B a).toNat, none⟩ = some (.int .i64 (glog a)) := by
  obtain ⟨c, hc, hs, hj⟩ := h.ex
  have hg := glog_spec a ha
  have := (hj (glog a) hg.1).2.2
  rw [hg.2] at this
  simp [World.cell?, hc, this]
theorem Tab.pow {w g} (h : Tab 255 w g) {n : Nat} (hn : n < 255) : w.cell? ⟨g, n, none⟩ = some (.int .u8 (B (pwr n))) := by
  obtain ⟨c, hc, hs, hj⟩ := h.ex
  simp [World.cell?, hc, (hj n hn).1]
theorem log_calls (a : UInt8) (ha : a ≠ 0) (w : World) :
    Calls Try.prog 113 #[.int .u8 (B a)] w fun e w' => e = .returned (.tuple #[.int .i64 (glog a), .int .i64 0]) ∧ Below w.heap.size w w' := by
  have h0 : (B a == 0) = false := by rw [B_beq0]; simpa using ha
  have hp := B_hi a; have hp2 := B_lo a
  go_enter Try.func113, Try.ntmps113
  go_wp2_with (go_at_call 123; refine (made_calls _).mono ?_; rintro e w1 ⟨rfl, ht, hb⟩; have hc := ht.log ha)
  go_ret2
  exact ⟨rfl, hb⟩
theorem log0_calls (w : World) :
    Calls Try.prog 113 #[.int .u8 (B 0)] w fun e w' => e = .returned (.tuple #[.int .i64 0, .int .i64 5]) ∧ w = w' := by
  have h0 : (B 0 == 0) = true := by rw [B_beq0]; rfl
  go_enter Try.func113, Try.ntmps113
  go_wp2
  go_ret2
  exact ⟨rfl, rfl⟩
theorem power_calls (n : Nat) (hn : n < 255) (w : World) :
    Calls Try.prog 114 #[.int .i64 (-(n:Int))] w fun e w' => e = .returned (.int .u8 (B (pwr ((255 - n) % 255)))) ∧ Below w.heap.size w w' := by
  have e1 : (-(n:Int)).tmod 255 = -(n:Int) := by rw [Int.neg_tmod, Int.tmod_eq_emod_of_nonneg (by omega)]; omega
  have e2 : Hid ((255 - n) % 255 = (-(n:Int) % 255).toNat) := Lib.hid (by omega)
  go_enter Try.func114, Try.ntmps114
  go_wp2_with (go_at_call 123; refine (made_calls _).mono ?_; rintro e w1 ⟨rfl, ht, hb⟩; have hc := ht.pow (n := (255 - n) % 255) (by omega); rw [e2.out] at hc)
  go_ret
  exact ⟨by simp [e2.out], hb⟩
def invE (a : UInt8) : Int := if a = 0 then 5 else 0
theorem invE_zero : invE 0 = 5 := rfl
theorem invE_ne {a : UInt8} (h : a ≠ 0) : invE a = 0 := if_neg h
theorem inverse_calls (a : UInt8) (w : World) :
    Calls Try.prog 91 #[.int .u8 (B a)] w fun e w' => e = .returned (.tuple #[.int .u8 (B (ginv a)), .int .i64 (invE a)]) ∧ Below w.heap.size w w' := by
  by_cases ha : a = 0
  · subst ha
    have hz := Lib.hid ginv_zero
    go_enter Try.func91, Try.ntmps91
    go_wp2_with (go_at_call 113; refine (log0_calls _).mono ?_; rintro e w1 ⟨rfl, rfl⟩)
    go_ret2
    exact ⟨by rw [hz.out]; rfl, Below.refl _ _⟩
  · have hl := glog_spec a ha
    have hlt := hl.1
    have hz := Lib.hid (ginv_pwr (glog a) hlt)
    have hz2 := Lib.hid hl.2
    have ha2 := Lib.hid ha
    have ha' := ha
    clear hl ha
    go_enter Try.func91, Try.ntmps91
    go_wp2_with (first | (go_at_call 113; refine (log_calls a ha2.out _).mono ?_; rintro e w1 ⟨rfl, hb⟩) | (go_at_call 114; refine (power_calls (glog a) hlt _).mono ?_; rintro e w2 ⟨rfl, hb2⟩))
    go_ret2
    refine ⟨?_, hb.trans (hb2.mono hb.size)⟩
    rw [hz.out, hz2.out, invE_ne ha2.out]; rfl
theorem dot_calls (va vb : Value) (la lb : List UInt8) (w : World) (ha : RBytes w va la) (hb : RBytes w vb lb) (hl : la.length ≤ lb.length) :
    Calls Try.prog 88 #[va, vb] w fun e w' => w = w' ∧ e = .returned (.int .u8 (B (dot la lb))) := by
  obtain ⟨a, ca, rfl, hca, hma, hxa⟩ := ha.open
  obtain ⟨b, cb, rfl, hcb, hmb, hxb⟩ := hb.open
  unfold maxLen at hma hmb
  go_enter Try.func88, Try.ntmps88
  go_wp2
  go_loop [9, 4] (fun i o => ∃ k : Nat, k ≤ la.length ∧ i = .int .i64 k ∧ o = .int .u8 (B (dotTo la lb k))) (fun i _ => la.length - (intOf i).toNat)
  case atStart => exact ⟨0, by omega, rfl, rfl⟩
  case round =>
    obtain ⟨k, hk, rfl, rfl⟩ := hrel
    by_cases hlt : k < la.length
    · obtain ⟨ba, oa, rfl, hxa'⟩ := hxa (by omega)
      obtain ⟨bb, ob, rfl, hxb'⟩ := hxb (by omega)
      have h1 := hxa' k hlt
      have h2 := hxb' k (by omega)
      clear hxa' hxb' hxa hxb
      go_wp2_with (go_at_call 52; refine (mul_calls _ _ _).mono ?_; rintro e w1 ⟨rfl, rfl⟩)
      go_round
      case rel => exact ⟨k+1, by omega, by go_num, rfl⟩
      case measure => simp [intOf]; omega
    · have : k = la.length := by omega
      clear hxa hxb
      subst this
      go_wp2
      go_ret
      exact ⟨rfl, rfl⟩
theorem mul_still (x y : UInt8) (w : World) :
    Calls Try.prog 52 #[.int .u8 (B x), .int .u8 (B y)] w fun e w' => e = .returned (.int .u8 (B (gmul x y))) ∧ w' = w := (mul_calls x y w).mono fun _ _ h => ⟨h.2, h.1.symm⟩
end Go.Proofs.Ytphehfllcmbpkaa
