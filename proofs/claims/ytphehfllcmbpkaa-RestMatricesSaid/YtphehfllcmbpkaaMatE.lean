/- The contracts of package matrix, fifth part: inverses, ranks, Cauchy matrices, rows. No condition. -/
import Derived.Test.YtphehfllcmbpkaaMatD
namespace Go.Proofs.Ytphehfllcmbpkaa
open Go Go.RowKit GF
set_option maxRecDepth 100000
set_option maxHeartbeats 2000000
theorem OMat.bounded {S w v M} (h : OMat S w v M) : OMat (fun k => S k ∧ k < w.heap.size) w v M := by
  obtain ⟨vs, h1, h2, h3, h4⟩ := h.ex
  exact ⟨vs, ⟨h1.1, fun g hg => ⟨h1.2 g hg, h1.lt hg⟩⟩, fun i r hr => let ⟨u, hu, ho⟩ := h2 i r hr; ⟨u, hu, ho.1, fun g hg => ⟨ho.2 g hg, ho.lt hg⟩⟩, h3, h4⟩
def augE (M : List (List UInt8)) (n i k : Nat) : UInt8 := if k < n then ent M i k else if k - n = i then 1 else 0
theorem inverse1_calls (i k n : Nat) (p q : Addr) (v : Value) (M : List (List UInt8)) (w : World) (hp : w.cell? p = some (.int .i64 n)) (hq : w.cell? q = some v) (h : RMat w v M) (hn : n ≤ 1000) (hk2 : k ≤ 10000) (hi2 : i ≤ 10000) (hi : i < M.length) (hk : k < n → k < (M.getD i []).length) :
    Calls Try.prog 40 #[.int .i64 i, .int .i64 k, .pointer (some p), .pointer (some q)] w fun e w' => w = w' ∧ e = .returned (.int .u8 (B (augE M n i k))) := by
  by_cases h1 : k < n
  · obtain ⟨b, off, cap, g, o2, c2, rfl, a1, a2, a3, a4, a5, a6⟩ := h.at hi (hk h1)
    have HE : Hid (augE M n i k = ent M i k) := by unfold augE; rw [if_pos h1]; exact Lib.hid rfl
    have hk' := hk h1
    generalize ent M i k = x at *
    generalize augE M n i k = y at *
    clear h hk
    generalize M.length = nn at *
    generalize (M.getD i []).length = m at *
    unfold maxLen at a2 a5
    go_enter Try.func40, Try.ntmps40
    go_wp2
    go_ret
    exact ⟨rfl, by rw [HE.out]; rfl⟩
  · clear h hk hi
    by_cases h2 : k - n = i
    · have HE : Hid (B (augE M n i k) = 1) := by unfold augE; rw [if_neg h1, if_pos h2]; exact Lib.hid rfl
      have h2' : ((k : Int) - (n : Int) == (i : Int)) = true := by rw [beq_iff_eq]; omega
      clear h2
      go_enter Try.func40, Try.ntmps40
      go_wp2
      go_ret
      exact ⟨rfl, by rw [HE.out]; rfl⟩
    · have HE : Hid (B (augE M n i k) = 0) := by unfold augE; rw [if_neg h1, if_neg h2]; exact Lib.hid rfl
      have h2' : ((k : Int) - (n : Int) == (i : Int)) = false := by rw [beq_eq_false_iff_ne]; omega
      clear h2
      go_enter Try.func40, Try.ntmps40
      go_wp2
      go_ret
      exact ⟨rfl, by rw [HE.out]; rfl⟩
theorem inverse2_calls (i k n : Nat) (p q : Addr) (v : Value) (M : List (List UInt8)) (w : World) (hp : w.cell? p = some v) (hq : w.cell? q = some (.int .i64 n)) (h : RMat w v M) (hn : n ≤ 1000) (hi : i < M.length) (hk : n + k < (M.getD i []).length) (hk2 : k ≤ 1000) :
    Calls Try.prog 42 #[.int .i64 i, .int .i64 k, .pointer (some p), .pointer (some q)] w fun e w' => Below w.heap.size w w' ∧ e = .returned (.int .u8 (B (ent M i (n + k)))) := by
  obtain ⟨b, off, cap, g, o2, c2, rfl, a1, a2, a3, a4, a5, a6⟩ := h.at hi hk
  generalize ent M i (n + k) = x at *
  clear h
  generalize M.length = nn at *
  generalize (M.getD i []).length = m at *
  unfold maxLen at a2 a5
  have e1 : IntKind.i64.wrap ((n : Int) + (k : Int)) = (n : Int) + (k : Int) := IntWalk.i64_in _ (by omega)
  have e2 : ((n : Int) + (k : Int)).toNat = n + k := by omega
  have e3 : (0 : Int) ≤ (n : Int) + (k : Int) := by omega
  have e4 : (n : Int) + (k : Int) < (m : Int) := by omega
  go_enter Try.func42, Try.ntmps42
  go_wp2_with fail
  go_quiet (fail)
  clear e1 e2 e3 e4
  go_wp2
  go_ret
  exact ⟨below_drewN _ _, rfl⟩
theorem rank1_calls (i k : Nat) (p : Addr) (v : Value) (M : List (List UInt8)) (w : World) (hp : w.cell? p = some v) (h : RMat w v M) (hi : i < M.length) (hk : k < (M.getD i []).length) :
    Calls Try.prog 44 #[.int .i64 i, .int .i64 k, .pointer (some p)] w fun e w' => w = w' ∧ e = .returned (.int .u8 (B (ent M i k))) := by
  obtain ⟨b, off, cap, g, o2, c2, rfl, a1, a2, a3, a4, a5, a6⟩ := h.at hi hk
  generalize ent M i k = x at *
  clear h
  generalize M.length = nn at *
  generalize (M.getD i []).length = m at *
  unfold maxLen at a2 a5
  go_enter Try.func44, Try.ntmps44
  go_wp2
  go_ret
  exact ⟨rfl, rfl⟩
def minv (M : List (List UInt8)) : List (List UInt8) × Int :=
  if mcheck M ≠ 0 then ([], mcheck M) else if M.length ≠ wid M then ([], 1) else
    if (clr M.length 0 (tab M.length (2 * M.length) (augE M M.length)) 0).2 < M.length then ([], 5)
    else (tab M.length M.length fun i k => ent (clr M.length 0 (tab M.length (2 * M.length) (augE M M.length)) 0).1 i (M.length + k), 0)
theorem Inverse_calls (v : Value) (M : List (List UInt8)) (w : World) (h : RMat w v M) :
    Calls Try.prog 11 #[v] w fun e w' => ∃ x, e = .returned (.tuple #[x, .int .i64 (minv M).2]) ∧ OMat (fun k => w.heap.size ≤ k) w' x (minv M).1 ∧ Below w.heap.size w w' := by
  obtain ⟨a, cap, rfl, hc, hm, hx⟩ := h.open
  have HX := Lib.hid hx
  have HM := Lib.hid h
  unfold maxLen at hm
  clear h hx
  have HB1 : Hid (∀ o, Below w.heap.size w (w.alloc o)) := fun o => (Below.refl _ w).alloc (Nat.le_refl _) o
  by_cases hz : mcheck M = 0
  · have hz' : (mcheck M != 0) = false := by simp [hz]
    have hok := mcheck_ok hz
    have h0 := hok.1
    have h16 := hok.2.1
    have hw16 := hok.2.2.2.2
    have HFL := Lib.hid hok.2.2.1
    have HZ := Lib.hid hz
    obtain ⟨b, off, rfl, hrow⟩ := HX.out h0
    obtain ⟨u, hu, hbr⟩ := hrow 0 (M.headD []) (by cases M <;> simp_all)
    obtain ⟨ar, cr, rfl, hcr, hmr, -⟩ := hbr.open
    rw [show (M.headD []).length = wid M from rfl] at *
    simp only [Nat.add_zero] at hu
    have hub := block_lt hu
    unfold maxLen at hmr
    clear hok hz hrow hbr
    by_cases hs : M.length = wid M
    · have hs' : ((M.length : Int) != (wid M : Int)) = false := by rw [← hs]; simp
      have HS := Lib.hid hs
      clear hs
      go_enter Try.func11, Try.ntmps11
      go_wp2_with (go_at_call 37; refine (mcheck_calls _ M _ (HM.out.below (HB1.out _))).mono ?_; rintro e w1 ⟨rfl, rfl⟩)
      go_quiet (fail)
      go_wp2_with fail
      have e2n : (2 * (M.length : Int)) = ((2 * M.length : Nat) : Int) := by omega
      rw [e2n]
      clear e2n
      have p1 : (((w.alloc (.cells #[.slice (some ⟨b, off, none⟩) M.length cap] 22)).alloc (.cells #[.int .i64 M.length] 3)).drewN nq).cell? ⟨w.heap.size + 1, 0, none⟩ = some (.int .i64 M.length) := by simp
      have p2 : (((w.alloc (.cells #[.slice (some ⟨b, off, none⟩) M.length cap] 22)).alloc (.cells #[.int .i64 M.length] 3)).drewN nq).cell? ⟨w.heap.size, 0, none⟩ = some (.slice (some ⟨b, off, none⟩) M.length cap) := by simp
      have p3 : (((w.alloc (.cells #[.slice (some ⟨b, off, none⟩) M.length cap] 22)).alloc (.cells #[.int .i64 M.length] 3)).drewN nq).heap.size = w.heap.size + 2 := by simp
      have p4 : Below w.heap.size w (((w.alloc (.cells #[.slice (some ⟨b, off, none⟩) M.length cap] 22)).alloc (.cells #[.int .i64 M.length] 3)).drewN nq) := ((HB1.out _).alloc (by simp) _).trans ((below_drewN _ _).mono (by simp; omega))
      generalize (((w.alloc (.cells #[.slice (some ⟨b, off, none⟩) M.length cap] 22)).alloc (.cells #[.int .i64 M.length] 3)).drewN nq) = W at *
      refine (filled_calls M.length (2 * M.length) (by omega) (by omega) 40 _ (augE M M.length) _ (fun _ _ => rfl) (fun w1 hb1 i k hi hk => by
        rw [append_two4]
        exact (inverse1_calls i k M.length _ _ _ M w1 ((hb1.cell (p := ⟨w.heap.size + 1, 0, none⟩) (by rw [p3]; simp)).trans p1) ((hb1.cell (p := ⟨w.heap.size, 0, none⟩) (by rw [p3]; simp)).trans p2) (HM.out.below (p4.trans (hb1.mono p4.size))) (by omega) (by omega) (by omega) hi (fun hh => by rw [HFL.out i hi, ← HS.out]; exact hh)).mono fun e w' h => ⟨h.2, by rw [← h.1]; exact Below.refl _ _⟩)).mono ?_
      rintro e w1 ⟨v2, rfl, ho, hb⟩
      dsimp only
      have hln := tab_len M.length (2 * M.length) (augE M M.length)
      have hfl := tab_flat M.length (2 * M.length) (augE M M.length)
      have HDR : Hid ((clr M.length 0 (tab M.length (2 * M.length) (augE M M.length)) 0).1.length = M.length ∧ Flat (clr M.length 0 (tab M.length (2 * M.length) (augE M M.length)) 0).1 (2 * M.length)) := clr_keeps _ _ _ _ _ _ hln hfl (by omega)
      have HMI : Hid (minv M = if (clr M.length 0 (tab M.length (2 * M.length) (augE M M.length)) 0).2 < M.length then ([], 5) else (tab M.length M.length fun i k => ent (clr M.length 0 (tab M.length (2 * M.length) (augE M M.length)) 0).1 i (M.length + k), 0)) := by
        unfold minv; rw [if_neg (not_not_intro HZ.out), if_neg (not_not_intro HS.out)]; exact Lib.hid rfl
      generalize hR0 : tab M.length (2 * M.length) (augE M M.length) = R0 at *
      generalize hRd : clr M.length 0 R0 0 = Rd at *
      obtain ⟨R, d⟩ := Rd
      simp only at HDR HMI
      obtain ⟨g2, c2, rfl, -, -, hc2, hm2, -, -⟩ := ho.shape (by rw [hln]; exact h0)
      rw [hln] at ho hc2 ⊢
      unfold maxLen at hm2
      have HO := Lib.hid ho.bounded
      have HBW := Lib.hid (p4.trans (hb.mono p4.size))
      have q1 := (hb.cell (p := ⟨w.heap.size + 1, 0, none⟩) (by rw [p3]; simp)).trans p1
      have q2 := (hb.cell (p := ⟨w.heap.size, 0, none⟩) (by rw [p3]; simp)).trans p2
      have q3 := hb.size
      rw [p3] at q3
      have q4 : w.heap.size < w1.heap.size := by omega
      have q5 : w.heap.size + 1 < w1.heap.size := by omega
      have HL0 := Lib.hid hln
      have HF0 := Lib.hid hfl
      have HRd := Lib.hid hRd
      clear p1 p2 p4 ho hb hln hfl hRd hR0
      go_wp2_with fail
      have r1 : (w1.alloc (.cells #[.slice (some ⟨g2, 0, none⟩) M.length c2] 81)).cell? ⟨w1.heap.size, 0, none⟩ = some (.slice (some ⟨g2, 0, none⟩) M.length c2) := by simp
      have r2 : (w1.alloc (.cells #[.slice (some ⟨g2, 0, none⟩) M.length c2] 81)).cell? ⟨w.heap.size + 1, 0, none⟩ = some (.int .i64 M.length) := by rw [World.cell?_alloc_lt (h := q5)]; exact q1
      have r3 : (w1.alloc (.cells #[.slice (some ⟨g2, 0, none⟩) M.length c2] 81)).heap.size = w1.heap.size + 1 := by simp
      have r4 := HO.out.grow ((Below.refl _ w1).alloc (Nat.le_refl _) (.cells #[.slice (some ⟨g2, 0, none⟩) M.length c2] 81))
      have r5 : Below w.heap.size w (w1.alloc (.cells #[.slice (some ⟨g2, 0, none⟩) M.length c2] 81)) := HBW.out.alloc (by omega) _
      generalize w1.alloc (.cells #[.slice (some ⟨g2, 0, none⟩) M.length c2] 81) = W3 at *
      have HO3 := Lib.hid r4
      have HB3 := Lib.hid r5
      have HSZ := Lib.hid r3
      have HP3 := Lib.hid p3
      have HPW : Hid (w.heap.size + 1 < w1.heap.size) := Lib.hid (by omega)
      clear r4 r5
      have hSb : ∀ k, (W.heap.size ≤ k ∧ k < w1.heap.size) → w.heap.size ≤ k ∧ k ≠ w.heap.size + 1 ∧ k ≠ w1.heap.size ∧ k < W3.heap.size := by intro k hk; rw [p3] at hk; omega
      have HSB := Lib.hid hSb
      clear hSb p3 r3
      have hn1 : M.length ≤ 2 * M.length := by omega
      clear hu hub hcr hmr hw16 hs' hz' q1 q2 q3 q4 q5
      have HCL : Hid (Calls Try.prog 41 #[.slice (some ⟨g2, 0, none⟩) M.length c2, .int .i64 M.length] W3.drew fun e w4 => e = .returned (.int .i64 d) ∧ OMat (fun k => W.heap.size ≤ k ∧ k < w1.heap.size) w4 (.slice (some ⟨g2, 0, none⟩) M.length c2) R ∧ w4.cell? ⟨w1.heap.size, 0, none⟩ = some (.slice (some ⟨g2, 0, none⟩) M.length c2) ∧ w4.cell? ⟨w.heap.size + 1, 0, none⟩ = some (.int .i64 M.length) ∧ Below w.heap.size w w4 ∧ Hid (W3.heap.size ≤ w4.heap.size)) := by
        refine Lib.hid ((clear_calls _ _ R0 (2 * M.length) M.length _ HO3.out.drew HF0.out (by rw [HL0.out]; exact h0) (by rw [HL0.out]; omega) (by omega) hn1 (fun k hk => (HSB.out k hk).2.2.2)).mono ?_)
        rintro e w4 ⟨he, ho4, hk4⟩
        rw [HRd.out] at he ho4
        refine ⟨he, ho4, ?_, ?_, ?_, hk4.size⟩
        · rw [World.cell?_of_block (w := W3.drew) (a := ⟨w1.heap.size, 0, none⟩) (hk4.block _ (by show w1.heap.size < W3.heap.size; rw [HSZ.out]; omega) (fun h => (HSB.out _ h).2.2.1 rfl))]; exact r1
        · rw [World.cell?_of_block (w := W3.drew) (a := ⟨w.heap.size + 1, 0, none⟩) (hk4.block _ (by show w.heap.size + 1 < W3.heap.size; have := HB3.out.size; have := HSZ.out; have := HP3.out; have := HPW.out; omega) (fun h => (HSB.out _ h).2.1 rfl))]; exact r2
        · exact HB3.out.drew.trans ⟨hk4.os, hk4.tape, hk4.output, hk4.size, fun k hk => hk4.block k (by have := HB3.out.size; show k < W3.heap.size; omega) (fun h => by have := (HSB.out _ h).1; omega)⟩
      go_cut [29] (fun s29 wx => s29 = .bool (decide (d < M.length)) ∧ OMat (fun k => W.heap.size ≤ k ∧ k < w1.heap.size) wx (.slice (some ⟨g2, 0, none⟩) M.length c2) R ∧ wx.cell? ⟨w1.heap.size, 0, none⟩ = some (.slice (some ⟨g2, 0, none⟩) M.length c2) ∧ wx.cell? ⟨w.heap.size + 1, 0, none⟩ = some (.int .i64 M.length) ∧ Below w.heap.size w wx ∧ Hid (W3.heap.size ≤ wx.heap.size))
      case first =>
        go_region_with (go_at_call 41; refine (HCL.out).mono ?_; rintro e w4 ⟨rfl, ho4, k1, k2, kb, ks⟩)
        all_goals go_wp2_with fail
        all_goals go_meet
        all_goals exact ⟨rfl, ho4, k1, k2, kb, ks⟩
      case rest =>
        obtain ⟨rfl, ho5, k1, k2, kb, ks⟩ := hcut
        have HO5 := Lib.hid ho5
        have HB5 := Lib.hid kb
        have K1 := Lib.hid k1
        have K2 := Lib.hid k2
        have hlt1 := block_lt k1
        have hlt2 := block_lt k2
        clear ho5 kb
        by_cases hd : d < M.length
        · have HE : Hid (minv M = ([], 5)) := by rw [HMI.out, if_pos hd]; exact Lib.hid rfl
          go_wp2_with fail
          go_ret2
          exact ⟨_, by rw [HE.out]; rfl, by rw [HE.out]; exact OMat.nil _ _, HB5.out⟩
        · have HE : Hid (minv M = (tab M.length M.length fun i k => ent R i (M.length + k), 0)) := by rw [HMI.out, if_neg hd]; exact Lib.hid rfl
          go_wp2_with (go_at_call 39; refine (filled_calls M.length M.length (by omega) (by omega) 42 _ (fun i k => ent R i (M.length + k)) _ (fun _ _ => rfl) (fun w2 hb2 i k hi hk => by rw [append_two4]; exact (inverse2_calls i k M.length _ _ _ R w2 ((hb2.cell (p := ⟨w1.heap.size, 0, none⟩) hlt1).trans K1.out) ((hb2.cell (p := ⟨w.heap.size + 1, 0, none⟩) hlt2).trans K2.out) (HO5.out.rd.below hb2) (by omega) (by rw [HDR.out.1]; exact hi) (by rw [HDR.out.2 i (by rw [HDR.out.1]; exact hi)]; omega) (by omega)).mono fun e w' h => ⟨h.2, h.1⟩)).mono ?_; rintro e w2 ⟨v5, rfl, ho6, hb6⟩)
          go_ret2
          refine ⟨_, by rw [HE.out]; rfl, ?_, HB5.out.trans (hb6.mono HB5.out.size)⟩
          rw [HE.out]; exact ho6.mono fun k hk => Nat.le_trans HB5.out.size hk
    · have hs' : ((M.length : Int) != (wid M : Int)) = true := by rw [bne_iff_ne]; omega
      have HE : Hid (minv M = ([], 1)) := by unfold minv; rw [if_neg (not_not_intro HZ.out), if_pos hs]; exact Lib.hid rfl
      clear hs
      go_enter Try.func11, Try.ntmps11
      go_wp2_with (go_at_call 37; refine (mcheck_calls _ M _ (HM.out.below (HB1.out _))).mono ?_; rintro e w1 ⟨rfl, rfl⟩)
      go_quiet (fail)
      go_wp2_with fail
      go_ret2
      exact ⟨_, by rw [HE.out]; rfl, by rw [HE.out]; exact OMat.nil _ _, ((HB1.out _).alloc (by simp) _).trans ((below_drewN _ _).mono (by simp; omega))⟩
  · have hz' : (mcheck M != 0) = true := by simp [hz]
    have HE : Hid (minv M = ([], mcheck M)) := by unfold minv; rw [if_pos hz]; exact Lib.hid rfl
    clear hz
    go_enter Try.func11, Try.ntmps11
    go_wp2_with (go_at_call 37; refine (mcheck_calls _ M _ (HM.out.below (HB1.out _))).mono ?_; rintro e w1 ⟨rfl, rfl⟩)
    go_ret2
    exact ⟨_, by rw [HE.out]; rfl, by rw [HE.out]; exact OMat.nil _ _, HB1.out _⟩
end Go.Proofs.Ytphehfllcmbpkaa
