/- The contracts of package matrix, second part: units, turned matrices, products. No condition. -/
import Derived.Test.YtphehfllcmbpkaaMat
namespace Go.Proofs.Ytphehfllcmbpkaa
open Go Go.RowKit GF
set_option maxRecDepth 100000
set_option maxHeartbeats 1000000
theorem size_yes (n : Int) (w : World) (h1 : 1 ≤ n) (h2 : n ≤ 16) :
    Calls Try.prog 95 #[.int .i64 n] w fun e w' => w = w' ∧ e = .returned (.bool true) := by
  go_enter Try.func95, Try.ntmps95
  go_wp2
  go_ret
  exact ⟨rfl, rfl⟩
theorem size_no (n : Int) (w : World) (h : n < 1 ∨ 16 < n) :
    Calls Try.prog 95 #[.int .i64 n] w fun e w' => w = w' ∧ e = .returned (.bool false) := by
  rcases h with h | h
  · have h1 : ¬ 1 ≤ n := by omega
    go_enter Try.func95, Try.ntmps95
    go_wp2
    go_ret
    exact ⟨rfl, rfl⟩
  · have h1 : 1 ≤ n := by omega
    have h2 : ¬ n ≤ 16 := by omega
    go_enter Try.func95, Try.ntmps95
    go_wp2
    go_ret
    exact ⟨rfl, rfl⟩
/-- entry in row i, column k -/
def ent (M : List (List UInt8)) (i k : Nat) : UInt8 := nb (M.getD i []) k
def unitE (i k : Nat) : UInt8 := if i = k then 1 else 0
theorem unit1_calls (i k : Nat) (w : World) :
    Calls Try.prog 115 #[.int .i64 i, .int .i64 k] w fun e w' => w = w' ∧ e = .returned (.int .u8 (B (unitE i k))) := by
  by_cases h : i = k
  · have hz : Hid (B (unitE i k) = 1) := by unfold unitE; rw [if_pos h]; exact Lib.hid rfl
    have h' : ((i : Int) == (k : Int)) = true := by simp [h]
    clear h
    go_enter Try.func115, Try.ntmps115
    go_wp2
    go_ret
    exact ⟨rfl, by rw [hz.out]; rfl⟩
  · have hz : Hid (B (unitE i k) = 0) := by unfold unitE; rw [if_neg h]; exact Lib.hid rfl
    have h' : ((i : Int) == (k : Int)) = false := by rw [beq_eq_false_iff_ne]; omega
    clear h
    go_enter Try.func115, Try.ntmps115
    go_wp2
    go_ret
    exact ⟨rfl, by rw [hz.out]; rfl⟩
theorem append_nil2 (a b : Value) : (#[a, b] ++ (#[] : Array Value)) = #[a, b] := rfl
theorem unit_calls (n : Nat) (h : n ≤ 1000) (w : World) :
    Calls Try.prog 98 #[.int .i64 n] w fun e w' => ∃ v, e = .returned v ∧ OMat (fun k => w.heap.size ≤ k) w' v (tab n n unitE) ∧ Below w.heap.size w w' := by
  go_enter Try.func98, Try.ntmps98
  go_wp2_with (go_at_call 39; refine (filled_calls n n (by omega) (by omega) 115 #[] unitE _ (fun _ _ => rfl) (fun w1 _ i k _ _ => by rw [append_nil2]; exact (unit1_calls i k w1).mono fun e w' h => ⟨h.2, by rw [← h.1]; exact Below.refl _ _⟩)).mono ?_; rintro e w1 ⟨v, rfl, ho, hb⟩)
  go_ret
  exact ⟨_, rfl, ho, hb⟩
theorem Unit_yes (n : Nat) (h1 : 1 ≤ n) (h2 : n ≤ 16) (w : World) :
    Calls Try.prog 53 #[.int .i64 n] w fun e w' => ∃ v, e = .returned (.tuple #[v, .int .i64 0]) ∧ OMat (fun k => w.heap.size ≤ k) w' v (tab n n unitE) ∧ Below w.heap.size w w' := by
  go_enter Try.func53, Try.ntmps53
  go_wp2_with (first | (go_at_call 95; refine (size_yes _ _ (by omega) (by omega)).mono ?_; rintro e w1 ⟨rfl, rfl⟩) | (go_at_call 98; refine (unit_calls n (by omega) _).mono ?_; rintro e w1 ⟨v, rfl, ho, hb⟩))
  go_ret2
  exact ⟨_, rfl, ho, hb⟩
theorem append_one3 (a b c : Value) : (#[a, b] ++ #[c]) = #[a, b, c] := rfl
theorem append_two4 (a b c d : Value) : (#[a, b] ++ #[c, d]) = #[a, b, c, d] := rfl
/-- row i and its byte k, of a matrix that reads as M -/
theorem RMat.at {w v M} (h : RMat w v M) {i k : Nat} (hi : i < M.length) (hk : k < (M.getD i []).length) :
    ∃ b off cap g o2 c2, v = .slice (some ⟨b, off, none⟩) M.length cap ∧ M.length ≤ cap ∧ cap ≤ maxLen ∧ w.cell? ⟨b, off + i, none⟩ = some (.slice (some ⟨g, o2, none⟩) (M.getD i []).length c2) ∧ (M.getD i []).length ≤ c2 ∧ c2 ≤ maxLen ∧
      w.cell? ⟨g, o2 + k, none⟩ = some (.int .u8 (B (ent M i k))) := by
  obtain ⟨a, cap, rfl, hc, hm, hx⟩ := h.open
  obtain ⟨b, off, rfl, hrow⟩ := hx (by omega)
  have hr : M[i]? = some (M.getD i []) := by simp [List.getD, hi]
  obtain ⟨u, hu, hbr⟩ := hrow i _ hr
  obtain ⟨ar, cr, rfl, hcr, hmr, hxr⟩ := hbr.open
  obtain ⟨g, o2, rfl, hcell⟩ := hxr (by omega)
  exact ⟨b, off, cap, g, o2, cr, rfl, hc, hm, hu, hcr, hmr, hcell k hk⟩
theorem turned1_calls (i k : Nat) (p : Addr) (v : Value) (M : List (List UInt8)) (w : World) (hp : w.cell? p = some v) (h : RMat w v M) (hk : k < M.length) (hi : i < (M.getD k []).length) :
    Calls Try.prog 112 #[.int .i64 i, .int .i64 k, .pointer (some p)] w fun e w' => w = w' ∧ e = .returned (.int .u8 (B (ent M k i))) := by
  obtain ⟨b, off, cap, g, o2, c2, rfl, h1, h2, h3, h4, h5, h6⟩ := h.at hk hi
  have := Lib.hid h
  clear h
  generalize ent M k i = x at *
  generalize M.length = n at *
  generalize (M.getD k []).length = m at *
  unfold maxLen at h2 h5
  go_enter Try.func112, Try.ntmps112
  go_wp2
  go_ret
  exact ⟨rfl, rfl⟩
/-- all rows are of one length -/
def Flat (M : List (List UInt8)) (n : Nat) : Prop := ∀ i, i < M.length → (M.getD i []).length = n
def turned (M : List (List UInt8)) (n : Nat) : List (List UInt8) := tab n M.length fun i k => ent M k i
theorem turned_calls (v : Value) (M : List (List UInt8)) (n : Nat) (w : World) (h : RMat w v M) (hn : Flat M n) (h0 : 0 < M.length) (hl : M.length ≤ 1000) (hn2 : n ≤ 1000) :
    Calls Try.prog 86 #[v] w fun e w' => ∃ x, e = .returned x ∧ OMat (fun k => w.heap.size ≤ k) w' x (turned M n) ∧ Below w.heap.size w w' := by
  obtain ⟨a, cap, rfl, hc, hm, hx⟩ := h.open
  obtain ⟨b, off, rfl, hrow⟩ := hx h0
  have hr : M[0]? = some (M.getD 0 []) := by simp [List.getD, h0]
  obtain ⟨u, hu, hbr⟩ := hrow 0 _ hr
  obtain ⟨ar, cr, rfl, hcr, hmr, hxr⟩ := hbr.open
  rw [hn 0 h0] at *
  simp only [Nat.add_zero] at hu
  have H := Lib.hid h
  have HN := Lib.hid hn
  unfold maxLen at hm hmr
  clear h hn hx hr hbr hxr hrow
  have hub := block_lt hu
  go_enter Try.func86, Try.ntmps86
  go_wp2
  refine region_tail 7 (by kernel_rfl) (by kernel_rfl) ?_
  simp only [List.take_succ_cons, List.take_zero, List.drop_succ_cons, List.drop_zero]
  repeat still_step
  refine wpStill_nil ?_
  go_wp2_with (go_at_call 39; refine (filled_calls n M.length (by omega) (by omega) 112 _ (fun i k => ent M k i) _ (fun _ _ => rfl) (fun w1 hb1 i k hi hk => by rw [append_one3]; exact (turned1_calls i k _ _ M w1 (box_kept' hb1).1 (H.out.below (box_kept' hb1).2) hk (by rw [HN.out k hk]; exact hi)).mono fun e w' h => ⟨h.2, by rw [← h.1]; exact Below.refl _ _⟩)).mono ?_; rintro e w1 ⟨v, rfl, ho, hb⟩)
  go_ret
  exact ⟨_, rfl, ho.mono fun k hk => Nat.le_trans (by simp) hk, below_alloc (undrew hb)⟩
theorem raw1_calls (i k : Nat) (p q : Addr) (v x : Value) (M T : List (List UInt8)) (w : World) (hp : w.cell? p = some v) (hq : w.cell? q = some x) (h : RMat w v M) (h2 : RMat w x T) (hi : i < M.length) (hk : k < T.length) (hl : (M.getD i []).length ≤ (T.getD k []).length) :
    Calls Try.prog 87 #[.int .i64 i, .int .i64 k, .pointer (some p), .pointer (some q)] w fun e w' => Below w.heap.size w w' ∧ e = .returned (.int .u8 (B (dot (M.getD i []) (T.getD k [])))) := by
  obtain ⟨a, cap, rfl, hc, hm, hx⟩ := h.open
  obtain ⟨b, off, rfl, hrow⟩ := hx (by omega)
  obtain ⟨u, hu, hbr⟩ := hrow i (M.getD i []) (by simp [List.getD, hi])
  obtain ⟨a2, cap2, rfl, hc2, hm2, hx2⟩ := h2.open
  obtain ⟨b2, off2, rfl, hrow2⟩ := hx2 (by omega)
  obtain ⟨u2, hu2, hbr2⟩ := hrow2 k (T.getD k []) (by simp [List.getD, hk])
  clear hx hx2 hrow hrow2 h h2
  generalize M.getD i [] = r at *
  generalize T.getD k [] = s at *
  unfold maxLen at hm hm2
  go_enter Try.func87, Try.ntmps87
  go_wp2_with fail
  go_quiet ((go_at_call 88; exact quiet_same (dot_calls _ _ r s _ (hbr.below (below_drewN _ _)) (hbr2.below (below_drewN _ _)) hl)))
  go_wp2
  go_ret
  exact ⟨below_drewN _ _, rfl⟩
def rawE (M T : List (List UInt8)) (i k : Nat) : UInt8 := dot (M.getD i []) (T.getD k [])
theorem tab_len (r c f) : (tab r c f).length = r := by simp [tab]
theorem tab_flat (r c f) : Flat (tab r c f) c := by
  intro i hi; simp [tab] at hi; simp [tab, tabRow, List.getD, hi]
theorem turned_len (M n) : (turned M n).length = n := by simp [turned, tab]
theorem turned_flat (M n) : Flat (turned M n) M.length := by
  intro i hi
  rw [turned_len] at hi
  simp [turned, tab, tabRow, List.getD, hi]
def raw (M N : List (List UInt8)) (n : Nat) : List (List UInt8) := tab M.length n (rawE M (turned N n))
theorem raw_calls (va vb : Value) (M N : List (List UInt8)) (n : Nat) (w : World) (ha : RMat w va M) (hb : RMat w vb N) (hM : Flat M N.length) (hN : Flat N n) (h0 : 0 < N.length) (hl : M.length ≤ 1000) (hl2 : N.length ≤ 1000) (hn2 : n ≤ 1000) :
    Calls Try.prog 38 #[va, vb] w fun e w' => ∃ x, e = .returned x ∧ OMat (fun k => w.heap.size ≤ k) w' x (raw M N n) ∧ Below w.heap.size w w' := by
  obtain ⟨a, cap, rfl, hc, hm, _⟩ := ha.open
  unfold maxLen at hm
  have HA := Lib.hid ha
  have HB := Lib.hid hb
  have HM := Lib.hid hM
  have HN := Lib.hid hN
  have HL := Lib.hid (turned_len N n)
  have HF := Lib.hid (turned_flat N n)
  clear ha hb hM hN
  go_enter Try.func38, Try.ntmps38
  go_wp2_with fail
  refine (turned_calls vb N n _ (HB.out.below ((Below.refl _ w).alloc (Nat.le_refl _) _)) HN.out h0 hl2 hn2).mono ?_
  rintro e w1 ⟨x, rfl, ho, hb⟩
  obtain ⟨a2, c2, rfl, hc2, hm2, _⟩ := ho.rd.open
  rw [HL.out] at *
  unfold maxLen at hm2
  have hbox := (box_kept hb).1
  have hsz : w.heap.size < w1.heap.size := by have := hb.size; simp at this; omega
  have HO := Lib.hid ho
  have HBB := Lib.hid (box_kept hb).2
  have HBX := Lib.hid hbox
  clear ho hb
  go_wp2_with (go_at_call 39; refine (filled_calls M.length n (by omega) (by omega) 87 _ (rawE M (turned N n)) _ (fun _ _ => rfl) (fun w2 hb2 i k hi hk => by rw [append_two4]; exact (raw1_calls i k _ _ _ _ M (turned N n) w2 ((below_alloc hb2).cell (p := ⟨w.heap.size, 0, none⟩) hsz |>.trans HBX.out) (box_kept hb2).1 (HA.out.below (HBB.out.trans ((box_kept hb2).2.mono HBB.out.size))) (HO.out.rd.below (box_kept hb2).2) hi (by rw [turned_len]; exact hk) (by rw [HM.out i hi, HF.out k (by rw [turned_len]; exact hk)]; exact Nat.le_refl _)).mono fun e w' h => ⟨h.2, h.1⟩)).mono ?_; rintro e w2 ⟨v, rfl, ho, hb⟩)
  go_ret
  refine ⟨_, rfl, ho.mono fun k hk => ?_, HBB.out.trans ((below_alloc hb).mono HBB.out.size)⟩
  simp at hk; omega
/-- what Mul answers -/
def mmulE (M N : List (List UInt8)) : Int := if mcheck M ≠ 0 then mcheck M else if mcheck N ≠ 0 then mcheck N else if wid M ≠ N.length then 1 else 0
theorem mcheck_ok {M : List (List UInt8)} (h : mcheck M = 0) : 0 < M.length ∧ M.length ≤ 16 ∧ Flat M (wid M) ∧ 0 < wid M ∧ wid M ≤ 16 := by
  unfold mcheck at h
  split at h
  · omega
  · split at h
    · omega
    · rename_i h1 h2
      have key : ∀ (n : Nat) (L : List (List UInt8)), mrows n L = 0 → ∀ r ∈ L, r.length = n ∧ r.length ≤ 16 ∧ 0 < r.length := by
        intro n L
        induction L with
        | nil => intro _ r hr; simp at hr
        | cons x L ih =>
          intro hL r hr
          unfold mrows at hL
          split at hL
          · rename_i h0
            rcases List.mem_cons.1 hr with rfl | hr
            · unfold mrow at h0
              split at h0
              · omega
              · split at h0
                · omega
                · omega
            · exact ih hL r hr
          · omega
      have hk := key _ M h
      unfold wid
      have h0 : M.headD [] ∈ M := by cases M <;> simp_all
      refine ⟨by omega, by omega, fun i hi => ?_, (hk _ h0).2.2, (hk _ h0).2.1⟩
      have : M.getD i [] ∈ M := by simp [List.getD, hi]
      exact (hk _ this).1
theorem OMat.nil (S : Nat → Prop) (w : World) : OMat S w (.slice none 0 0) [] :=
  ⟨[], ⟨World.ownsRow_nil w 0 _ 1, fun g hg => by simp [Value.ownBlock] at hg⟩, fun i r hr => by simp at hr, fun i j u x g hu => by simp at hu, fun i u g hu => by simp at hu⟩
def mmul (M N : List (List UInt8)) : List (List UInt8) := if mmulE M N = 0 then raw M N (wid N) else []
theorem Mul_calls (va vb : Value) (M N : List (List UInt8)) (w : World) (ha : RMat w va M) (hb : RMat w vb N) :
    Calls Try.prog 10 #[va, vb] w fun e w' => ∃ x, e = .returned (.tuple #[x, .int .i64 (mmulE M N)]) ∧ OMat (fun k => w.heap.size ≤ k) w' x (mmul M N) ∧ Below w.heap.size w w' := by
  obtain ⟨a, cap, rfl, hc, hcm, hx⟩ := ha.open
  obtain ⟨a2, cap2, rfl, hc2, hcm2, _⟩ := hb.open
  have HX := Lib.hid hx
  unfold maxLen at hcm hcm2
  clear hx
  have HA := Lib.hid ha
  have HB := Lib.hid hb
  have hw1 : ∀ o, RMat (w.alloc o) _ M := fun o => ha.below ((Below.refl _ w).alloc (Nat.le_refl _) o)
  have hw2 : ∀ o, RMat (w.alloc o) _ N := fun o => hb.below ((Below.refl _ w).alloc (Nat.le_refl _) o)
  have HW1 := Lib.hid hw1
  have HW2 := Lib.hid hw2
  have hbw : ∀ o, Below w.heap.size w (w.alloc o) := fun o => (Below.refl _ w).alloc (Nat.le_refl _) o
  have HBW := Lib.hid hbw
  clear hbw hw1 hw2 ha hb
  go_enter Try.func10, Try.ntmps10
  go_wp2_with fail
  go_loop [13] (fun i => ∃ k : Nat, k ≤ 2 ∧ i = .int .i64 k ∧ (0 < k → Hid (mcheck M = 0)) ∧ (1 < k → Hid (mcheck N = 0))) (fun i => 2 - (intOf i).toNat)
  case atStart => exact ⟨0, by omega, rfl, fun h => by omega, fun h => by omega⟩
  case round =>
    obtain ⟨k, hk, rfl, hM, hN⟩ := hrel
    have h3 : k = 0 ∨ k = 1 ∨ k = 2 := by omega
    rcases h3 with rfl | rfl | rfl
    · clear hM hN
      by_cases hz : mcheck M = 0
      · have hz' : (mcheck M != 0) = false := by simp [hz]
        have HZ := Lib.hid hz
        clear hz
        go_wp2_with (go_at_call 37; refine (mcheck_calls _ M _ (HW1.out _)).mono ?_; rintro e w1 ⟨rfl, rfl⟩)
        go_round
        case rel => exact ⟨1, by omega, by go_num, fun _ => HZ, fun h => by omega⟩
        case measure => simp [intOf]
      · have hz' : (mcheck M != 0) = true := by simp [hz]
        have HE : Hid (mmulE M N = mcheck M) := by unfold mmulE; rw [if_pos hz]; exact Lib.hid rfl
        have HZ := Lib.hid hz
        clear hz
        go_wp2_with (go_at_call 37; refine (mcheck_calls _ M _ (HW1.out _)).mono ?_; rintro e w1 ⟨rfl, rfl⟩)
        go_ret2
        exact ⟨_, by rw [HE.out]; rfl, by unfold mmul; rw [HE.out, if_neg HZ.out]; exact OMat.nil _ _, HBW.out _⟩
    · have HM0 := hM (by omega)
      clear hM hN
      by_cases hz : mcheck N = 0
      · have hz' : (mcheck N != 0) = false := by simp [hz]
        have HZ := Lib.hid hz
        clear hz
        go_wp2_with (go_at_call 37; refine (mcheck_calls _ N _ (HW2.out _)).mono ?_; rintro e w1 ⟨rfl, rfl⟩)
        go_round
        case rel => exact ⟨2, by omega, by go_num, fun _ => HM0, fun _ => HZ⟩
        case measure => simp [intOf]
      · have hz' : (mcheck N != 0) = true := by simp [hz]
        have HE : Hid (mmulE M N = mcheck N) := by unfold mmulE; rw [if_neg (not_not_intro HM0.out), if_pos hz]; exact Lib.hid rfl
        have HZ := Lib.hid hz
        clear hz
        go_wp2_with (go_at_call 37; refine (mcheck_calls _ N _ (HW2.out _)).mono ?_; rintro e w1 ⟨rfl, rfl⟩)
        go_ret2
        exact ⟨_, by rw [HE.out]; rfl, by unfold mmul; rw [HE.out, if_neg HZ.out]; exact OMat.nil _ _, HBW.out _⟩
    · have HM0 := hM (by omega)
      have HN0 := hN (by omega)
      clear hM hN
      have hm := mcheck_ok HM0.out
      have hn := mcheck_ok HN0.out
      obtain ⟨b, off, rfl, hrow⟩ := HX.out hm.1
      obtain ⟨u, hu, hbr⟩ := hrow 0 (M.headD []) (by have := hm.1; cases M <;> simp_all)
      obtain ⟨ar, cr, rfl, hcr, hmr, _⟩ := hbr.open
      rw [show (M.headD []).length = wid M from rfl] at *
      simp only [Nat.add_zero] at hu
      have hub := block_lt hu
      have h0 := hm.1
      have h1 := hm.2.1
      have h2 := hn.2.1
      have h4 := hn.1
      have h5 := hm.2.2.2.2
      have HFM := Lib.hid hm.2.2.1
      have HFN := Lib.hid hn.2.2.1
      have h6 := hn.2.2.2.2
      unfold maxLen at hmr
      clear hm hn hrow hbr
      by_cases hz : wid M = N.length
      · have hz' : ((wid M : Int) != (N.length : Int)) = false := by rw [hz]; simp
        have HE : Hid (mmulE M N = 0) := by unfold mmulE; rw [if_neg (not_not_intro HM0.out), if_neg (not_not_intro HN0.out), if_neg (not_not_intro hz)]; exact Lib.hid rfl
        have HZ := Lib.hid hz
        clear hz
        go_wp2_with (go_at_call 38; refine (raw_calls _ _ M N (wid N) _ (HW1.out _) (HW2.out _) (by rw [← HZ.out]; exact HFM.out) HFN.out h4 (by omega) (by omega) (by omega)).mono ?_; rintro e w1 ⟨x, rfl, ho, hb⟩)
        go_ret2
        refine ⟨_, by rw [HE.out]; rfl, ?_, below_alloc hb⟩
        unfold mmul; rw [HE.out, if_pos rfl]; exact ho.mono fun k hk => by simp at hk; omega
      · have hz' : ((wid M : Int) != (N.length : Int)) = true := by rw [bne_iff_ne]; omega
        have HE : Hid (mmulE M N = 1) := by unfold mmulE; rw [if_neg (not_not_intro HM0.out), if_neg (not_not_intro HN0.out), if_pos hz]; exact Lib.hid rfl
        clear hz
        go_wp2_with fail
        go_ret2
        exact ⟨_, by rw [HE.out]; rfl, by unfold mmul; rw [HE.out, if_neg (by omega)]; exact OMat.nil _ _, HBW.out _⟩
end Go.Proofs.Ytphehfllcmbpkaa
