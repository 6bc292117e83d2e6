/- The contracts of package code, third part: Encode, Verify. No condition. -/
import Derived.Test.YtphehfllcmbpkaaCodeB
namespace Go.Proofs.Ytphehfllcmbpkaa
open Go Go.RowKit GF
set_option maxRecDepth 100000
set_option maxHeartbeats 2000000
def encE (l : List (List UInt8)) (more : Int) : Int :=
  if l.length = 0 then 8 else if 8 < l.length then 2 else if ¬ (1 ≤ more ∧ more ≤ 6) then 3 else alik l
def encOk (l : List (List UInt8)) (more : Nat) : List (List UInt8) := mix (tab more l.length (cauE more)) l (ns l 0).length
def enc (l : List (List UInt8)) (more : Int) : List (List UInt8) := if encE l more = 0 then encOk l more.toNat else []
theorem Encode_calls (v : Value) (l : List (List UInt8)) (more : Int) (w : World) (h : RStrs w v l) :
    Calls Try.prog 14 #[v, .int .i64 more] w fun e w' => ∃ x, e = .returned (.tuple #[x, .int .i64 (encE l more)]) ∧ OStrs (fun k => w.heap.size ≤ k) w' x (enc l more) ∧ Below w.heap.size w w' := by
  obtain ⟨a, cap, rfl, hc, hcm, hx⟩ := h.open
  have HP := Lib.hid h
  unfold maxLen at hcm
  clear h hx
  by_cases h1 : l.length = 0
  · have HE : Hid (encE l more = 8) := by unfold encE; rw [if_pos h1]; exact Lib.hid rfl
    have h1' : ((l.length : Int) == 0) = true := by simp [h1]
    clear h1
    go_enter Try.func14, Try.ntmps14
    go_wp2_with fail
    go_ret2
    exact ⟨_, by rw [HE.out]; rfl, by unfold enc; rw [HE.out, if_neg (by omega)]; exact OStrs.nil _ _, Below.refl _ _⟩
  have h1' : ((l.length : Int) == 0) = false := by rw [beq_eq_false_iff_ne]; omega
  have H1 := Lib.hid h1
  have h1a : 0 < l.length := Nat.pos_of_ne_zero h1
  clear h1
  by_cases h2 : 8 < l.length
  · have HE : Hid (encE l more = 2) := by unfold encE; rw [if_neg H1.out, if_pos h2]; exact Lib.hid rfl
    go_enter Try.func14, Try.ntmps14
    go_wp2_with fail
    go_ret2
    exact ⟨_, by rw [HE.out]; rfl, by unfold enc; rw [HE.out, if_neg (by omega)]; exact OStrs.nil _ _, Below.refl _ _⟩
  by_cases h3 : 1 ≤ more ∧ more ≤ 6
  · obtain ⟨h3a, h3b⟩ := h3
    have HE : Hid (encE l more = alik l) := by unfold encE; rw [if_neg H1.out, if_neg h2, if_neg (by omega)]; exact Lib.hid rfl
    have hw : (decide (1 ≤ more) && decide (more ≤ 6)) = true := by simp [h3a, h3b]
    have HW := Lib.hid hw
    clear hw
    by_cases h4 : alik l = 0
    · have HL := Lib.hid (alik_ok h4)
      have HE0 : Hid (encE l more = 0) := by rw [HE.out]; exact Lib.hid h4
      have HA := Lib.hid h4
      obtain ⟨m, rfl⟩ := Int.eq_ofNat_of_zero_le (show 0 ≤ more by omega)
      clear h4
      go_enter Try.func14, Try.ntmps14
      go_wp2_with (first | (go_at_call 45; refine (within_calls _ _ _).mono ?_; rw [HW.out]; rintro e w1 ⟨rfl, rfl⟩) | (go_at_call 46; refine (alike_calls _ l _ HP.out).mono ?_; rw [HA.out]; rintro e w1 ⟨rfl, rfl⟩) | (go_at_call 47; go_loud (refine (Cauchy_yes m l.length (by omega) (by omega) (by omega) (by omega) _).mono ?_; rintro e w1 ⟨v, rfl, ho, hb⟩; have HO := Lib.hid ho; have HB := Lib.hid hb; clear ho hb)) | (go_at_call 48; go_loud (refine (mixed_calls _ _ (tab m l.length (cauE m)) l l.length (ns l 0).length _ HO.out.rd (HP.out.below HB.out) (tab_flat _ _ _) (Nat.le_refl _) (by omega) (by omega) (fun i hi => (HL.out i hi).1) (by have := (HL.out 0 (by omega)).2; omega) (by rw [tab_len]; omega)).mono ?_; rintro e w2 ⟨x, rfl, ho, hb⟩; have HO2 := Lib.hid ho; have HB2 := Lib.hid hb; clear ho hb)))
      go_ret2
      refine ⟨_, by rw [HE0.out]; rfl, ?_, HB.out.trans (HB2.out.mono HB.out.size)⟩
      unfold enc
      rw [HE0.out, if_pos rfl]
      exact HO2.out.mono fun k hk => Nat.le_trans HB.out.size hk
    · have h4' : (alik l != 0) = true := by simp [h4]
      have HN := Lib.hid h4
      clear h4
      go_enter Try.func14, Try.ntmps14
      go_wp2_with (first | (go_at_call 45; refine (within_calls _ _ _).mono ?_; rw [HW.out]; rintro e w1 ⟨rfl, rfl⟩) | (go_at_call 46; refine (alike_calls _ l _ HP.out).mono ?_; rintro e w1 ⟨rfl, rfl⟩))
      go_ret2
      exact ⟨_, by rw [HE.out]; rfl, by unfold enc; rw [HE.out, if_neg HN.out]; exact OStrs.nil _ _, Below.refl _ _⟩
  · have HE : Hid (encE l more = 3) := by unfold encE; rw [if_neg H1.out, if_neg h2, if_pos h3]; exact Lib.hid rfl
    have hw : (decide (1 ≤ more) && decide (more ≤ 6)) = false := by
      rw [Bool.and_eq_false_iff]
      by_cases h5 : 1 ≤ more
      · exact .inr (decide_eq_false fun h => h3 ⟨h5, h⟩)
      · exact .inl (decide_eq_false h5)
    have HW := Lib.hid hw
    clear hw h3
    go_enter Try.func14, Try.ntmps14
    go_wp2_with (go_at_call 45; refine (within_calls _ _ _).mono ?_; rw [HW.out]; rintro e w1 ⟨rfl, rfl⟩)
    go_ret2
    exact ⟨_, by rw [HE.out]; rfl, by unfold enc; rw [HE.out, if_neg (by omega)]; exact OStrs.nil _ _, Below.refl _ _⟩
/-- the answer of the comparison of two lists of strings -/
theorem str_beq (a b : List UInt8) : (str a == str b) = decide (a = b) := by
  rw [Bool.eq_iff_iff, decide_eq_true_iff]
  show ((str a).data == (str b).data) = true ↔ _
  rw [beq_iff_eq]
  exact ⟨fun h => str_inj (ByteArray.ext h), fun h => by rw [h]⟩
theorem ns_ext {a b : List (List UInt8)} (hl : a.length = b.length) (h : ∀ k, k < a.length → ns a k = ns b k) : a = b := by
  apply List.ext_getElem hl
  intro i h1 h2
  have := h i h1
  simpa [ns, List.getD, h1, h2] using this
theorem equalStr_calls (va vb : Value) (a b : List (List UInt8)) (w : World) (ha : RStrs w va a) (hb : RStrs w vb b) :
    Calls Try.prog 51 #[va, vb] w fun e w' => e = .returned (.bool (decide (a = b))) ∧ Below w.heap.size w w' := by
  obtain ⟨aa, ca, rfl, hc1, hm1, hx1⟩ := ha.open
  obtain ⟨ab, cb, rfl, hc2, hm2, hx2⟩ := hb.open
  have HX1 := Lib.hid hx1
  have HX2 := Lib.hid hx2
  unfold maxLen at hm1 hm2
  clear ha hb hx1 hx2
  by_cases hl : a.length = b.length
  · have HLL := Lib.hid hl
    have hl' : ((a.length : Int) != (b.length : Int)) = false := by simp [hl]
    have hle : a.length ≤ b.length := by omega
    clear hl
    go_enter Try.func51, Try.ntmps51
    go_wp2_with fail
    go_loopw [13] (fun x wr => ∃ k : Nat, k ≤ a.length ∧ x = .int .i64 k ∧ Below w.heap.size w wr ∧ Hid (∀ j, j < k → ns a j = ns b j)) (fun x _ => a.length - (intOf x).toNat)
    case atStart => exact ⟨0, by omega, rfl, Below.refl _ _, fun j hj => by omega⟩
    case round =>
      obtain ⟨k, hk, rfl, hbb, hq⟩ := hrel
      have HB := Lib.hid hbb
      clear hbb
      by_cases hlt : k < a.length
      · obtain ⟨b1, o1, rfl, hce1⟩ := HX1.out (by omega)
        obtain ⟨b2, o2, rfl, hce2⟩ := HX2.out (by omega)
        have h3 := hce1 k hlt
        have h4 := hce2 k (by omega)
        have h5 := (HB.out.cell (p := ⟨b1, o1 + k, none⟩) (block_lt h3)).trans h3
        have h6 := (HB.out.cell (p := ⟨b2, o2 + k, none⟩) (block_lt h4)).trans h4
        have hltb : k < b.length := by omega
        clear hce1 hce2 h3 h4
        have hsb : (ns a k == ns b k) = decide (ns a k = ns b k) := by rw [Bool.eq_iff_iff, beq_iff_eq, decide_eq_true_iff]
        by_cases he : ns a k = ns b k
        · rw [decide_eq_true he] at hsb
          have HE := Lib.hid he
          clear he
          go_wp2_with fail
          go_quiet (fail)
          go_wp2_with fail
          go_roundw
          case rel =>
            refine ⟨k+1, by omega, by go_num, HB.out.trans ((below_drewN _ _).mono HB.out.size), fun j hj => ?_⟩
            by_cases e : j = k
            · subst e; exact HE.out
            · exact hq.out j (by omega)
          case measure => simp [intOf]; omega
        · rw [decide_eq_false he] at hsb
          have HE := Lib.hid he
          clear he
          go_wp2_with fail
          go_quiet (fail)
          go_wp2_with fail
          go_ret
          have hne : ¬ a = b := fun e => HE.out (by rw [e])
          exact ⟨by rw [decide_eq_false hne]; rfl, HB.out.trans ((below_drewN _ _).mono HB.out.size)⟩
      · have : k = a.length := by omega
        subst this
        go_wp2_with fail
        go_ret
        have he : a = b := ns_ext HLL.out hq.out
        exact ⟨by rw [decide_eq_true he]; rfl, HB.out⟩
  · have HLL := Lib.hid hl
    have hl' : ((a.length : Int) != (b.length : Int)) = true := by simp [bne_iff_ne]; omega
    clear hl
    go_enter Try.func51, Try.ntmps51
    go_wp2_with fail
    go_ret
    have hne : ¬ a = b := fun e => HLL.out (by rw [e])
    exact ⟨by rw [decide_eq_false hne]; rfl, Below.refl _ _⟩
theorem RStrs.take {w a l cap} (h : RStrs w (.slice a l.length cap) l) {n : Nat} (hn : n ≤ l.length) : RStrs w (.slice a n cap) (l.take n) := by
  obtain ⟨⟨a', n', c', he, hl, hc, hm, hno, hce⟩, hs⟩ := h
  simp only [Value.slice.injEq] at he
  obtain ⟨rfl, rfl, rfl⟩ := he
  refine ⟨⟨_, _, _, rfl, by simp; omega, by omega, hm, fun h => ⟨by have := (hno h).1; omega, (hno h).2⟩, fun ad had => ⟨fun h => (hce ad had).1 (by omega), fun j u hu => (hce ad had).2 j u ?_⟩⟩, fun s hs' => hs s (List.mem_of_mem_take hs')⟩
  rw [List.map_take, List.getElem?_take] at hu
  split at hu
  · exact hu
  · simp at hu
theorem RStrs.drop {w b off l cap} (h : RStrs w (.slice (some ⟨b, off, none⟩) l.length cap) l) {n : Nat} (hn : n ≤ l.length) : RStrs w (.slice (some ⟨b, off + n, none⟩) (l.length - n) (cap - n)) (l.drop n) := by
  obtain ⟨⟨a', n', c', he, hl, hc, hm, hno, hce⟩, hs⟩ := h
  simp only [Value.slice.injEq] at he
  obtain ⟨rfl, rfl, rfl⟩ := he
  refine ⟨⟨_, _, _, rfl, by simp, by omega, by omega, fun h => by simp at h, fun ad had => ?_⟩, fun s hs' => hs s (List.mem_of_mem_drop hs')⟩
  simp only [Option.some.injEq] at had
  subst had
  refine ⟨fun _ => rfl, fun j u hu => ?_⟩
  rw [List.map_drop, List.getElem?_drop] at hu
  have := (hce _ rfl).2 (n + j) u hu
  simpa [Nat.add_assoc] using this
theorem ns_drop (l : List (List UInt8)) (n k : Nat) : ns (l.drop n) k = ns l (n + k) := by simp [ns, List.getD]
theorem ns_take (l : List (List UInt8)) {n k : Nat} (h : k < n) : ns (l.take n) k = ns l k := by simp [ns, List.getD, h]
theorem unlike_calls (l : List (List UInt8)) (s : List UInt8) (p : Addr) (v : Value) (w : World) (hp : w.cell? p = some v) (h : RStrs w v l) (h0 : 0 < l.length) (hs : s.length ≤ maxLen) :
    Calls Try.prog 50 #[.string (str s), .pointer (some p)] w fun e w' => w = w' ∧ e = .returned (.bool (decide (s.length ≠ (ns l 0).length))) := by
  obtain ⟨a, cap, rfl, hc, hm, hx⟩ := h.open
  obtain ⟨b, off, rfl, hce⟩ := hx h0
  have h3 := hce 0 h0
  simp only [Nat.add_zero] at h3
  have HB : Hid ((((s.length : Int)) != ((ns l 0).length : Int)) = decide (s.length ≠ (ns l 0).length)) := by
    unfold Hid
    rw [Bool.eq_iff_iff, bne_iff_ne, decide_eq_true_iff]; omega
  have hs1 := hs
  unfold maxLen at hm hs1
  clear h hx hce
  go_enter Try.func50, Try.ntmps50
  go_wp2_with fail
  go_ret
  exact ⟨rfl, by rw [← HB.out]; rfl⟩
end Go.Proofs.Ytphehfllcmbpkaa
