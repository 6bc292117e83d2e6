/- The contracts of package matrix, sixth part: ranks, Cauchy matrices, rows. No condition. -/
import Derived.Test.YtphehfllcmbpkaaMatE
namespace Go.Proofs.Ytphehfllcmbpkaa
open Go Go.RowKit GF
set_option maxRecDepth 100000
set_option maxHeartbeats 2000000
def mrank (M : List (List UInt8)) : Nat × Int := if mcheck M ≠ 0 then (0, mcheck M) else ((clr (wid M) 0 (tab M.length (wid M) (ent M)) 0).2, 0)
theorem Rank_calls (v : Value) (M : List (List UInt8)) (w : World) (h : RMat w v M) :
    Calls Try.prog 13 #[v] w fun e w' => e = .returned (.tuple #[.int .i64 (mrank M).1, .int .i64 (mrank M).2]) ∧ Below w.heap.size w w' := by
  obtain ⟨a, cap, rfl, hc, hm, hx⟩ := h.open
  have HX := Lib.hid hx
  have HM := Lib.hid h
  unfold maxLen at hm
  clear h hx
  have HB1 : Hid (∀ o, Below w.heap.size w (w.alloc o)) := fun o => (Below.refl _ w).alloc (Nat.le_refl _) o
  by_cases hz : mcheck M = 0
  · have hz' : (mcheck M != 0) = false := by simp [hz]
    have hok := mcheck_ok hz
    have h0 := hok.1
    have h16 := hok.2.1
    have hw16 := hok.2.2.2.2
    have HFL := Lib.hid hok.2.2.1
    have HE : Hid (mrank M = ((clr (wid M) 0 (tab M.length (wid M) (ent M)) 0).2, 0)) := by unfold mrank; rw [if_neg (not_not_intro hz)]; exact Lib.hid rfl
    obtain ⟨b, off, rfl, hrow⟩ := HX.out h0
    obtain ⟨u, hu, hbr⟩ := hrow 0 (M.headD []) (by cases M <;> simp_all)
    obtain ⟨ar, cr, rfl, hcr, hmr, -⟩ := hbr.open
    rw [show (M.headD []).length = wid M from rfl] at *
    simp only [Nat.add_zero] at hu
    have hub := block_lt hu
    unfold maxLen at hmr
    clear hok hz hrow hbr
    go_enter Try.func13, Try.ntmps13
    go_wp2_with (go_at_call 37; refine (mcheck_calls _ M _ (HM.out.below (HB1.out _))).mono ?_; rintro e w1 ⟨rfl, rfl⟩)
    refine region_tail 7 (by kernel_rfl) (by kernel_rfl) ?_
    simp only [List.take_succ_cons, List.take_zero, List.drop_succ_cons, List.drop_zero]
    repeat still_step
    refine wpStill_nil ?_
    go_wp2_with fail
    refine (filled_calls M.length (wid M) (by omega) (by omega) 44 _ (ent M) _ (fun _ _ => rfl) (fun w1 hb1 i k hi hk => by rw [append_one3]; exact (rank1_calls i k _ _ M w1 (box_kept' hb1).1 (HM.out.below (box_kept' hb1).2) hi (by rw [HFL.out i hi]; exact hk)).mono fun e w' h => ⟨h.2, by rw [← h.1]; exact Below.refl _ _⟩)).mono ?_
    rintro e w1 ⟨v2, rfl, ho, hb⟩
    dsimp only
    have hbk := box_kept' hb
    have p1 := hbk.1
    have HB2 := Lib.hid hbk.2
    have hln := tab_len M.length (wid M) (ent M)
    have HF := Lib.hid (tab_flat M.length (wid M) (ent M))
    have HO := Lib.hid ho.bounded
    have hsz : w.heap.size < w1.heap.size := by have := hb.size; simp at this; omega
    have hu1 : w1.cell? ⟨b, off, none⟩ = some (.slice ar (wid M) cr) := by rw [HB2.out.cell (p := ⟨b, off, none⟩) hub]; exact hu
    have HL := Lib.hid hln
    have hS : ∀ k, ((w.alloc (.cells #[.slice (some ⟨b, off, none⟩) M.length cap] 22)).drew.heap.size ≤ k ∧ k < w1.heap.size) → w.heap.size ≤ k ∧ k < w1.heap.size := by intro k hk; simp at hk; omega
    have HS := Lib.hid hS
    clear hbk hln ho hb hS hu
    go_wp2_with (go_at_call 41; refine (clear_calls _ _ (tab M.length (wid M) (ent M)) (wid M) (wid M) _ HO.out HF.out (by rw [HL.out]; exact h0) (by rw [HL.out]; omega) (by omega) (Nat.le_refl _) (fun k hk => (HS.out k hk).2)).mono ?_; rintro e w4 ⟨rfl, ho4, hk4⟩)
    go_ret2
    refine ⟨by rw [HE.out]; rfl, HB2.out.trans ⟨hk4.os, hk4.tape, hk4.output, hk4.size, fun k hk => hk4.block k (Nat.lt_of_lt_of_le hk HB2.out.size) (fun h => by have := (HS.out k h).1; omega)⟩⟩
  · have hz' : (mcheck M != 0) = true := by simp [hz]
    have HE : Hid (mrank M = (0, mcheck M)) := by unfold mrank; rw [if_pos hz]; exact Lib.hid rfl
    clear hz
    go_enter Try.func13, Try.ntmps13
    go_wp2_with (go_at_call 37; refine (mcheck_calls _ M _ (HM.out.below (HB1.out _))).mono ?_; rintro e w1 ⟨rfl, rfl⟩)
    go_ret2
    exact ⟨by rw [HE.out]; rfl, HB1.out _⟩
def cauE (many i k : Nat) : UInt8 := ginv (UInt8.ofNat (i ^^^ (many + k)))
theorem xor_small {i j : Nat} (hi : i < 16) (hj : j < 32) : bits .xor .i64 (i : Int) (j : Int) = B (UInt8.ofNat (i ^^^ j)) := by
  have c : ((List.range 16).all fun i => (List.range 32).all fun j => bits .xor .i64 (i : Int) (j : Int) == B (UInt8.ofNat (i ^^^ j))) = true := by decide +kernel
  have c1 := List.all_eq_true.1 c i (List.mem_range.2 hi)
  have c2 := List.all_eq_true.1 c1 j (List.mem_range.2 hj)
  simpa using c2
theorem cauchy1_calls (many i k : Nat) (p : Addr) (w : World) (hp : w.cell? p = some (.int .i64 many)) (hi : i < 16) (hk : many + k < 32) :
    Calls Try.prog 96 #[.int .i64 i, .int .i64 k, .pointer (some p)] w fun e w' => e = .returned (.int .u8 (B (cauE many i k))) ∧ Below w.heap.size w w' := by
  have hx := xor_small hi hk
  have h1 := B_lo (UInt8.ofNat (i ^^^ (many + k)))
  have h2 := B_hi (UInt8.ofNat (i ^^^ (many + k)))
  have HE : Hid (cauE many i k = ginv (UInt8.ofNat (i ^^^ (many + k)))) := Lib.hid rfl
  generalize UInt8.ofNat (i ^^^ (many + k)) = x at *
  rw [show ((many + k : Nat) : Int) = (many : Int) + (k : Int) by omega] at hx
  go_enter Try.func96, Try.ntmps96
  go_wp2_with (go_at_call 91; refine (inverse_calls x _).mono ?_; rintro e w1 ⟨rfl, hb⟩)
  go_ret
  exact ⟨by rw [HE.out]; rfl, hb⟩
theorem append_one3' (a b c : Value) : (#[a, b] ++ #[c]) = #[a, b, c] := rfl
theorem Cauchy_yes (many cols : Nat) (h1 : 1 ≤ many) (h2 : many ≤ 16) (h3 : 1 ≤ cols) (h4 : cols ≤ 16) (w : World) :
    Calls Try.prog 47 #[.int .i64 many, .int .i64 cols] w fun e w' => ∃ v, e = .returned (.tuple #[v, .int .i64 0]) ∧ OMat (fun k => w.heap.size ≤ k) w' v (tab many cols (cauE many)) ∧ Below w.heap.size w w' := by
  go_enter Try.func47, Try.ntmps47
  go_wp2_with (first | (go_at_call 95; refine (size_yes _ _ (by omega) (by omega)).mono ?_; rintro e w1 ⟨rfl, rfl⟩) | (go_at_call 39; refine (filled_calls many cols (by omega) (by omega) 96 _ (cauE many) _ (fun _ _ => rfl) (fun w1 hb1 i k hi hk => by rw [append_one3]; exact cauchy1_calls many i k _ w1 (box_kept hb1).1 (by omega) (by omega))).mono ?_; rintro e w1 ⟨v, rfl, ho, hb⟩))
  go_ret2
  exact ⟨_, rfl, ho.mono fun k hk => by simp at hk; omega, below_alloc hb⟩
theorem oneCell_bv (l : List UInt8) : ∀ u ∈ l.map bv, u.oneCell' = true := by
  intro u hu
  obtain ⟨_, _, rfl⟩ := List.mem_map.1 hu
  rfl
theorem OBytes.nil (S : Nat → Prop) (w : World) : OBytes S w (.slice none 0 0) [] := ⟨World.ownsRow_nil w 0 _ 1, fun g hg => by simp [Value.ownBlock] at hg⟩
theorem cloneBytes_calls (v : Value) (l : List UInt8) (w : World) (h : RBytes w v l) (hl : l.length ≤ 140737488355328) :
    Calls Try.prog 43 #[v] w fun e w' => ∃ x, e = .returned x ∧ OBytes (fun k => w.heap.size ≤ k) w' x l ∧ Below w.heap.size w w' := by
  obtain ⟨a, cap, rfl, hc, hm, hx⟩ := h.open
  have HH := Lib.hid h
  clear h hx
  cases a with
  | none =>
    obtain ⟨a', n', cap', h1, hl', _, _, hno, _⟩ := HH.out
    simp only [Value.slice.injEq] at h1
    obtain ⟨rfl, rfl, rfl⟩ := h1
    have h0 := (hno rfl).1
    have h00 := (hno rfl).2
    have hl0 : l = [] := List.eq_nil_of_length_eq_zero h0
    subst hl0
    subst h00
    have HE := fun w : World => Lib.run_eql_slice_nil (P := Try.prog) w 25 5 none 0 0 0 0 Try.underlying25
    clear HH hl' hno h0
    go_enter Try.func43, Try.ntmps43
    go_wp2_with fail
    go_ret
    exact ⟨_, rfl, OBytes.nil _ _, Below.refl _ _⟩
  | some ad =>
    have HE := fun w : World => Lib.run_eql_slice_nil (P := Try.prog) w 25 5 (some ad) l.length cap 0 0 Try.underlying25
    go_enter Try.func43, Try.ntmps43
    go_wp2_with (at_builtin; refine wpList_app rfl (.tmp 5) (.tmp 6) 25 rfl 5 _ 1 1 Try.underlying25 info_u8 rfl (by decide) _ _ 0 [] rfl (Own.empty w _ 1) _ l.length (l.map bv) rfl (HH.out.below ((Below.refl _ w).alloc (Nat.le_refl _) _)) (by simp) (oneCell_bv l) (by unfold maxLen; omega) (by omega) ?_; intro v' w' hown hkp; have HO := Lib.hid hown; have HK := Lib.hid hkp; clear hown hkp)
    go_ret
    refine ⟨_, rfl, ?_, ?_⟩
    · have := HO.out
      simp only [Nat.zero_add, List.nil_append] at this
      refine this.mono fun k hk => ?_
      rcases hk with h | h
      · have e : w.heap.size = k := Option.some.inj h
        omega
      · simp at h; omega
    · exact ⟨HK.out.os, HK.out.tape, HK.out.output, Nat.le_trans (by simp) HK.out.size, fun k hk => (HK.out.block k (by simp; omega) (fun h => by have e : w.heap.size = k := Option.some.inj h; omega)).trans (Below.heap_alloc _ _ _ hk)⟩
end Go.Proofs.Ytphehfllcmbpkaa
