/- The contracts of package code, fourth part: Verify. No condition. -/
import Derived.Test.YtphehfllcmbpkaaCodeC
namespace Go.Proofs.Ytphehfllcmbpkaa
open Go Go.RowKit GF
set_option maxRecDepth 100000
set_option maxHeartbeats 2000000
def verU (l : List (List UInt8)) (n : Nat) : Bool := someAt (fun i => decide ((ns (l.drop n) i).length ≠ (ns l 0).length)) (l.drop n).length
def verN (l : List (List UInt8)) (more : Int) : Nat := l.length - more.toNat
def verE (l : List (List UInt8)) (more : Int) : Int :=
  if ¬ (1 ≤ more ∧ more ≤ 6) then 3 else if (l.length : Int) ≤ more then 8 else
    if encE (l.take (verN l more)) more = 0 then (if verU l (verN l more) = true then 1 else 0) else encE (l.take (verN l more)) more
def verB (l : List (List UInt8)) (more : Int) : Bool := decide (verE l more = 0 ∧ enc (l.take (verN l more)) more = l.drop (verN l more))
theorem cap_eq (_w : World) (p : Addr) : (#[Value.string (str []), Value.pointer (some p)] : Array Value).size = 2 := rfl
theorem anyUnlike_calls (l : List (List UInt8)) (n : Nat) (p : Addr) (v vd : Value) (w : World) (hp : w.cell? p = some v) (h : RStrs w v l) (h0 : 0 < l.length) (hd : RStrs w vd (l.drop n)) :
    Calls Try.prog 49 #[vd, .func (.func 50) #[] #[.pointer (some p)]] w fun e w' => w = w' ∧ e = .returned (.bool (verU l n)) := by
  refine (anyStr_calls _ ((l.drop n).map sv) _ #[.pointer (some p)] (fun i => decide ((ns (l.drop n) i).length ≠ (ns l 0).length)) w (fun _ _ => rfl) hd.1 fun i u hu => ?_).mono ?_
  · rw [hd.slot i u hu]
    exact unlike_calls l (ns (l.drop n) i) p v w hp h h0 (ns_len hd.2 i)
  · rintro e w1 ⟨rfl, rfl⟩; exact ⟨rfl, by unfold verU; rw [List.length_map]⟩
theorem Verify_calls (v : Value) (l : List (List UInt8)) (more : Int) (w : World) (h : RStrs w v l) :
    Calls Try.prog 15 #[v, .int .i64 more] w fun e w' => e = .returned (.tuple #[.bool (verB l more), .int .i64 (verE l more)]) ∧ Below w.heap.size w w' := by
  obtain ⟨a, cap, rfl, hc, hcm, hx⟩ := h.open
  have HP := Lib.hid h
  have HX := Lib.hid hx
  have HB0 : Hid (∀ o, Below w.heap.size w (w.alloc o)) := Lib.hid fun o => (Below.refl _ w).alloc (Nat.le_refl _) o
  unfold maxLen at hcm
  clear h hx
  by_cases h3 : 1 ≤ more ∧ more ≤ 6
  · obtain ⟨h3a, h3b⟩ := h3
    have hw : (decide (1 ≤ more) && decide (more ≤ 6)) = true := by simp [h3a, h3b]
    have HW := Lib.hid hw
    clear hw
    obtain ⟨m, rfl⟩ := Int.eq_ofNat_of_zero_le (show 0 ≤ more by omega)
    by_cases h4 : l.length ≤ m
    · have HE : Hid (verE l m = 8) := by unfold verE; rw [if_neg (by omega), if_pos (by omega)]; exact Lib.hid rfl
      have HF : Hid (verB l m = false) := by unfold verB; rw [HE.out]; exact Lib.hid (decide_eq_false (by omega))
      go_enter Try.func15, Try.ntmps15
      go_wp2_with (go_at_call 45; refine (within_calls _ _ _).mono ?_; rw [HW.out]; rintro e w1 ⟨rfl, rfl⟩)
      go_ret2
      exact ⟨by rw [HE.out, HF.out]; rfl, HB0.out _⟩
    · obtain ⟨n, hn⟩ : ∃ n, n = l.length - m := ⟨_, rfl⟩
      have hn0 : 0 < n := by omega
      have hnl : n < l.length := by omega
      have hncap : ¬ cap = n := by omega
      have hs : (l.length : Int) - (m : Int) = (n : Int) := by omega
      have HV : Hid (verN l m = n) := by unfold verN; rw [hn]; exact Lib.hid rfl
      have HEU : Hid (verE l m = if encE (l.take n) m = 0 then (if verU l n = true then 1 else 0) else encE (l.take n) m) := by
        unfold verE; rw [if_neg (by omega), if_neg (by omega), HV.out]; exact Lib.hid rfl
      have HBU : Hid (verB l m = decide (verE l m = 0 ∧ enc (l.take n) m = l.drop n)) := by unfold verB; rw [HV.out]; exact Lib.hid rfl
      clear hn
      obtain ⟨b, off, rfl, _⟩ := HX.out (by omega)
      clear HX
      have HT : Hid (∀ w1, Below w.heap.size w w1 → RStrs w1 (.slice (some ⟨b, off, none⟩) n cap) (l.take n)) := Lib.hid fun w1 hb => (HP.out.below hb).take (by omega)
      have HD : Hid (∀ w1, Below w.heap.size w w1 → RStrs w1 (.slice (some ⟨b, off + n, none⟩) (l.length - n) (cap - n)) (l.drop n)) := Lib.hid fun w1 hb => (HP.out.below hb).drop (by omega)
      by_cases he : encE (l.take n) m = 0
      · have he' : (encE (l.take n) m == 0) = true := by simp [he]
        have HE := Lib.hid he
        clear he
        cases hu : verU l n with
        | true =>
          have HE1 : Hid (verE l m = 1) := by rw [HEU.out, if_pos HE.out, if_pos hu]; exact Lib.hid rfl
          have HF : Hid (verB l m = false) := by rw [HBU.out, HE1.out]; exact Lib.hid (decide_eq_false (by omega))
          have HU := Lib.hid hu
          clear hu
          go_enter Try.func15, Try.ntmps15
          go_wp2_with (first | (go_at_call 45; refine (within_calls _ _ _).mono ?_; rw [HW.out]; rintro e w1 ⟨rfl, rfl⟩) | (go_at_call 14; refine (Encode_calls _ (l.take n) m _ (HT.out _ (HB0.out _))).mono ?_; rintro e w1 ⟨x, rfl, ho, hb⟩; have HO := Lib.hid ho; have HB := Lib.hid hb; have hbx := box_kept hb; have hbc := hbx.1; have HBX := Lib.hid hbx.2; clear ho hb hbx) | (go_at_call 49; refine (anyUnlike_calls l n _ _ _ _ hbc (HP.out.below HBX.out) (by omega) (HD.out _ HBX.out)).mono ?_; rw [HU.out]; rintro e w2 ⟨rfl, rfl⟩))
          go_ret2
          exact ⟨by rw [HE1.out, HF.out]; rfl, HBX.out⟩
        | false =>
          have HE1 : Hid (verE l m = 0) := by rw [HEU.out, if_pos HE.out, if_neg (by rw [hu]; decide)]; exact Lib.hid rfl
          have HF : Hid (verB l m = decide (enc (l.take n) m = l.drop n)) := by rw [HBU.out, HE1.out]; exact Lib.hid (by simp)
          have HU := Lib.hid hu
          clear hu
          go_enter Try.func15, Try.ntmps15
          go_wp2_with (first | (go_at_call 45; refine (within_calls _ _ _).mono ?_; rw [HW.out]; rintro e w1 ⟨rfl, rfl⟩) | (go_at_call 14; refine (Encode_calls _ (l.take n) m _ (HT.out _ (HB0.out _))).mono ?_; rintro e w1 ⟨x, rfl, ho, hb⟩; have HO := Lib.hid ho; have HB := Lib.hid hb; have hbx := box_kept hb; have hbc := hbx.1; have HBX := Lib.hid hbx.2; clear ho hb hbx) | (go_at_call 49; refine (anyUnlike_calls l n _ _ _ _ hbc (HP.out.below HBX.out) (by omega) (HD.out _ HBX.out)).mono ?_; rw [HU.out]; rintro e w2 ⟨rfl, rfl⟩) | (go_at_call 51; refine (equalStr_calls _ _ (enc (l.take n) m) (l.drop n) _ HO.out.rd (HD.out _ HBX.out)).mono ?_; rintro e w2 ⟨rfl, hb⟩; have HB2 := Lib.hid hb; clear hb))
          go_ret2
          have HE2 : verE l m = encE (l.take n) m := by rw [HE1.out, HE.out]
          exact ⟨by rw [HE2, HF.out]; rfl, HBX.out.trans (HB2.out.mono HBX.out.size)⟩
      · have he' : (encE (l.take n) m == 0) = false := by rw [beq_eq_false_iff_ne]; exact he
        have HE1 : Hid (verE l m = encE (l.take n) m) := by rw [HEU.out, if_neg he]; exact Lib.hid rfl
        have HF : Hid (verB l m = false) := by rw [HBU.out, HE1.out]; exact Lib.hid (decide_eq_false fun h => he h.1)
        clear he
        go_enter Try.func15, Try.ntmps15
        go_wp2_with (first | (go_at_call 45; refine (within_calls _ _ _).mono ?_; rw [HW.out]; rintro e w1 ⟨rfl, rfl⟩) | (go_at_call 14; refine (Encode_calls _ (l.take n) m _ (HT.out _ (HB0.out _))).mono ?_; rintro e w1 ⟨x, rfl, ho, hb⟩; have HO := Lib.hid ho; have HB := Lib.hid hb; have hbx := box_kept hb; have hbc := hbx.1; have HBX := Lib.hid hbx.2; clear ho hb hbx))
        go_ret2
        exact ⟨by rw [HE1.out, HF.out]; rfl, HBX.out⟩
  · have HE : Hid (verE l more = 3) := by unfold verE; rw [if_pos h3]; exact Lib.hid rfl
    have HF : Hid (verB l more = false) := by unfold verB; rw [HE.out]; exact Lib.hid (decide_eq_false (by omega))
    have hw : (decide (1 ≤ more) && decide (more ≤ 6)) = false := by
      rw [Bool.and_eq_false_iff]
      by_cases h5 : 1 ≤ more
      · exact .inr (decide_eq_false fun h => h3 ⟨h5, h⟩)
      · exact .inl (decide_eq_false h5)
    have HW := Lib.hid hw
    clear hw h3
    go_enter Try.func15, Try.ntmps15
    go_wp2_with (go_at_call 45; refine (within_calls _ _ _).mono ?_; rw [HW.out]; rintro e w1 ⟨rfl, rfl⟩)
    go_ret2
    exact ⟨by rw [HE.out, HF.out]; rfl, HB0.out _⟩
end Go.Proofs.Ytphehfllcmbpkaa
