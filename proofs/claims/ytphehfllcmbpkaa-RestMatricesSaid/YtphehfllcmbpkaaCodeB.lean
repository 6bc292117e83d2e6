/- The contracts of package code, second part: mixed. No condition. -/
import Derived.Test.YtphehfllcmbpkaaCode
namespace Go.Proofs.Ytphehfllcmbpkaa
open Go Go.RowKit GF
set_option maxRecDepth 100000
set_option maxHeartbeats 2000000
/-- one row, mixed: byte x of it, of the first t pieces -/
def mixB (r : List UInt8) (l : List (List UInt8)) (t x : Nat) : UInt8 := xsum t fun k => gmul (nb r k) (nb (ns l k) x)
def mixAt (r : List UInt8) (l : List (List UInt8)) (L t j : Nat) : List UInt8 := tabRow L fun x => if x < j then mixB r l (t + 1) x else mixB r l t x
def mixRow (r : List UInt8) (l : List (List UInt8)) (L t : Nat) : List UInt8 := tabRow L fun x => mixB r l t x
def mixTo (M : List (List UInt8)) (l : List (List UInt8)) (L i : Nat) : List (List UInt8) := (List.range M.length).map fun k => if k < i then mixRow (M.getD k []) l L l.length else []
def mix (M : List (List UInt8)) (l : List (List UInt8)) (L : Nat) : List (List UInt8) := M.map fun r => mixRow r l L l.length
theorem mixTo_len (M l L i) : (mixTo M l L i).length = M.length := by simp [mixTo]
theorem mixTo_zero (M l L) : mixTo M l L 0 = List.replicate M.length [] := by simp [mixTo, List.map_const']
theorem mixTo_all (M l L) : mixTo M l L M.length = mix M l L := by
  apply List.ext_getElem
  · simp [mixTo, mix]
  · intro i h1 h2
    have : i < M.length := by simpa [mix] using h2
    simp [mixTo, mix, this, List.getD]
theorem mixTo_set (M l L) {i : Nat} (_hi : i < M.length) : (mixTo M l L i).set i (mixRow (M.getD i []) l L l.length) = mixTo M l L (i + 1) := by
  apply List.ext_getElem
  · simp [mixTo]
  · intro k h1 h2
    simp only [mixTo, List.getElem_set, List.getElem_map, List.getElem_range]
    by_cases e : i = k
    · subst e; simp
    · rw [if_neg e]
      by_cases e2 : k < i
      · rw [if_pos e2, if_pos (by omega)]
      · rw [if_neg e2, if_neg (by omega)]
theorem mixRow_len (r l L t) : (mixRow r l L t).length = L := by simp [mixRow, tabRow]
theorem mixAt_len (r l L t j) : (mixAt r l L t j).length = L := by simp [mixAt, tabRow]
theorem mixAt_zero (r l L t) : mixAt r l L t 0 = mixRow r l L t := by simp [mixAt, mixRow]
theorem mixAt_all (r l L t) : mixAt r l L t L = mixRow r l L (t + 1) := tabRow_congr fun _ hk => if_pos hk
theorem mixRow_zero (r l L) : mixRow r l L 0 = List.replicate L 0 := by simp [mixRow, tabRow, mixB, xsum, List.map_const']
theorem mixB_succ (r l t x) : mixB r l (t + 1) x = mixB r l t x ^^^ gmul (nb r t) (nb (ns l t) x) := rfl
theorem mixAt_set (r l L t) (j : Nat) : (mixAt r l L t j).set j (mixB r l t j ^^^ gmul (nb r t) (nb (ns l t) j)) = mixAt r l L t (j + 1) := by
  refine tabRow_set _ fun x hx => ?_
  by_cases h : x = j
  · subst h; rw [if_pos (by omega), if_pos rfl]; rfl
  · by_cases h2 : x < j
    · rw [if_neg h, if_pos h2, if_pos (by omega)]
    · rw [if_neg h, if_neg h2, if_neg (by omega)]
theorem nb_mixAt (r l L t) {j : Nat} (h : j < L) : nb (mixAt r l L t j) j = mixB r l t j := by rw [mixAt, nb_tabRow h, if_neg (by omega)]
theorem info_string : (Try.prog.info? 9).map (fun i => (i.zero, i.size, i.bytes)) = some (some (.string ByteArray.empty), 1, 16) := by kernel_rfl
theorem OStrs.zeros {S w v n} (h : Own S w 9 1 v n (List.replicate n (.string ByteArray.empty))) : OStrs S w v (List.replicate n []) := by
  refine ⟨?_, fun s hs => ?_⟩
  · rw [List.length_replicate, List.map_replicate]; exact h
  · rw [(List.mem_replicate.1 hs).2]; simp
theorem OStrs.set {S w g n cap l} (h : OStrs S w (.slice (some ⟨g, 0, none⟩) n cap) l) (hn : n = l.length) (i : Nat) (s : List UInt8) (hs : s.length ≤ maxLen) :
    OStrs S (w.setCell ⟨g, i, none⟩ (.string (str s))) (.slice (some ⟨g, 0, none⟩) n cap) (l.set i s) := by
  subst hn
  refine ⟨?_, fun x hx => ?_⟩
  · rw [List.length_set, List.map_set]; exact Own.set h.1 i _
  · rcases List.mem_or_eq_of_mem_set hx with h' | rfl
    · exact h.2 x h'
    · exact hs
theorem OStrs.shape {S w v l} (h : OStrs S w v l) (h0 : 0 < l.length) : ∃ g cap, v = .slice (some ⟨g, 0, none⟩) l.length cap ∧ S g ∧ g < w.heap.size ∧ l.length ≤ cap ∧ cap ≤ maxLen ∧
      (∀ j, j < l.length → w.cell? ⟨g, j, none⟩ = some (.string (str (ns l j)))) ∧ (∀ j, w.frozen? ⟨g, j, none⟩ = false) := by
  rcases h.1.shape with ⟨_, h1, _⟩ | ⟨g, cap, h1, h2, h3, h4, h5, h6, h7⟩
  · omega
  · refine ⟨g, cap, h1, h2, h3, h4, h5, fun j hj => ?_, h7⟩
    rw [h6 j (by omega)]
    simp [ns, sv, hj]
theorem OBytes.shapeN {S w v l} (h : OBytes S w v l) (h0 : 0 < l.length) : ∃ g cap, v = .slice (some ⟨g, 0, none⟩) l.length cap ∧ S g ∧ g < w.heap.size ∧ l.length ≤ cap ∧ cap ≤ maxLen ∧
      (∀ j, j < l.length → w.cell? ⟨g, j, none⟩ = some (.int .u8 (B (nb l j)))) ∧ (∀ j, w.frozen? ⟨g, j, none⟩ = false) := by
  rcases Own.shape h with ⟨_, h1, _⟩ | ⟨g, cap, h1, h2, h3, h4, h5, h6, h7⟩
  · omega
  · refine ⟨g, cap, h1, h2, h3, h4, h5, fun j hj => ?_, h7⟩
    rw [h6 j (by omega)]
    simp [nb, bv, hj]
theorem OBytes.set {S w g n cap l} (h : OBytes S w (.slice (some ⟨g, 0, none⟩) n cap) l) (hn : n = l.length) (i : Nat) (x : UInt8) :
    OBytes S (w.setCell ⟨g, i, none⟩ (.int .u8 (B x))) (.slice (some ⟨g, 0, none⟩) n cap) (l.set i x) := by
  subst hn
  unfold OBytes
  rw [List.length_set, List.map_set]; exact Own.set h i _
theorem mixed_calls (v vp : Value) (M l : List (List UInt8)) (m L : Nat) (w : World) (hM : RMat w v M) (hP : RStrs w vp l) (hf : Flat M m) (hlm : l.length ≤ m) (hm : m ≤ 1000) (h0 : 0 < l.length) (hL : ∀ i, i < l.length → (ns l i).length = L) (hL64 : L ≤ 1000) (hn : M.length ≤ 1000) :
    Calls Try.prog 48 #[v, vp] w fun e w' => ∃ x, e = .returned x ∧ OStrs (fun k => w.heap.size ≤ k) w' x (mix M l L) ∧ Below w.heap.size w w' := by
  obtain ⟨a, cap, rfl, hc, hcm, hx⟩ := hM.open
  obtain ⟨a2, cap2, rfl, hc2, hcm2, hx2⟩ := hP.open
  obtain ⟨bp, op, rfl, hpc⟩ := hx2 h0
  have HX := Lib.hid hx
  have HPC := Lib.hid hpc
  have HL := Lib.hid hL
  have HF := Lib.hid hf
  unfold maxLen at hcm hcm2
  clear hM hP hx hx2 hpc hL hf
  go_enter Try.func48, Try.ntmps48
  go_wp2_with (at_make; refine wpList_mk rfl _ _ 24 rfl 9 _ _ Try.underlying24 info_string rfl _ _ M.length rfl rfl (by omega) (by unfold maxLen; omega) ?_; intro w1 hb1 hown1; have hb := Lib.hid hb1; have hown := Lib.hid hown1; clear hb1 hown1)
  go_loopw [17] (fun x wr => ∃ i : Nat, i ≤ M.length ∧ x = .int .i64 i ∧ OStrs (fun k => w.heap.size ≤ k) wr (.slice (some ⟨w.heap.size, 0, none⟩) M.length M.length) (mixTo M l L i) ∧ Below w.heap.size w wr) (fun x _ => M.length - (intOf x).toNat)
  case atStart => exact ⟨0, by omega, rfl, by rw [mixTo_zero]; exact OStrs.zeros hown.out, hb.out⟩
  case round =>
    clear hown hb
    obtain ⟨i, hi, rfl, ho, hb⟩ := hrel
    have HO := Lib.hid ho
    have HB := Lib.hid hb
    clear ho hb
    by_cases hlt : i < M.length
    · obtain ⟨bm, om, rfl, hrow⟩ := HX.out (by omega)
      obtain ⟨u, hu, hbr⟩ := hrow i (M.getD i []) (by simp [List.getD, hlt])
      have hcu := (HB.out.cell (p := ⟨bm, om + i, none⟩) (block_lt hu)).trans hu
      have hp0 := HPC.out 0 h0
      have hcp := (HB.out.cell (p := ⟨bp, op + 0, none⟩) (block_lt hp0)).trans hp0
      have hl0 := HL.out 0 h0
      simp only [Nat.add_zero] at hcp
      obtain ⟨ar, cr, rfl, h1r, h2r, hxr⟩ := (hbr.below HB.out).open
      have hlen : (M.getD i []).length = m := HF.out i hlt
      rw [hlen] at h1r hxr hcu
      have HXR := Lib.hid hxr
      generalize hr : M.getD i [] = r at *
      have HR := Lib.hid hr
      clear hrow hu hbr hp0 hxr hr hlen
      unfold maxLen at h2r
      go_wp2_with (at_make; refine wpList_mk rfl _ _ 25 rfl 5 _ _ Try.underlying25 info_u8 rfl _ _ L rfl rfl (by omega) (by unfold maxLen; omega) ?_; intro w1 hb1 hown1; have hb2 := Lib.hid hb1; have hown := Lib.hid hown1; clear hb1 hown1 hcu hcp)
      obtain ⟨wo, rfl⟩ : ∃ wo : World, wo = wr := ⟨_, rfl⟩
      go_loopw [29] (fun x wx => ∃ t : Nat, t ≤ l.length ∧ x = .int .i64 t ∧ OBytes (fun k => wo.heap.size ≤ k) wx (.slice (some ⟨wo.heap.size, 0, none⟩) L L) (mixRow r l L t) ∧ Below wo.heap.size wo wx) (fun x _ => l.length - (intOf x).toNat)
      case atStart => exact ⟨0, by omega, rfl, by rw [mixRow_zero]; exact OBytes.zeros hown.out, hb2.out⟩
      case round =>
        clear hown hb2
        obtain ⟨t, ht, rfl, ho, hb⟩ := hrel
        have HO2 := Lib.hid ho
        have HB2 := Lib.hid hb
        clear ho hb
        by_cases hlt2 : t < l.length
        · have hpt := HPC.out t hlt2
          have hb3 := HB.out.trans (HB2.out.mono HB.out.size)
          have hcp := (hb3.cell (p := ⟨bp, op + t, none⟩) (block_lt hpt)).trans hpt
          have hlt3 := HL.out t hlt2
          clear hpt hb3
          go_wp2_with fail
          obtain ⟨wy, rfl⟩ : ∃ wy : World, wy = wr := ⟨_, rfl⟩
          go_loopw [36] (fun x wx => ∃ j : Nat, j ≤ L ∧ x = .int .i64 j ∧ OBytes (fun k => wo.heap.size ≤ k) wx (.slice (some ⟨wo.heap.size, 0, none⟩) L L) (mixAt r l L t j) ∧ Below wo.heap.size wo wx) (fun x _ => L - (intOf x).toNat)
          case atStart => exact ⟨0, by omega, rfl, by rw [mixAt_zero]; exact HO2.out, HB2.out⟩
          case round =>
            clear HO2 HB2 hcp
            obtain ⟨j, hj, rfl, ho, hb⟩ := hrel
            have HO3 := Lib.hid ho
            have HB3 := Lib.hid hb
            clear ho hb
            by_cases hlj : j < L
            · obtain ⟨g, cg, hv, _, hg, _, _, hce, hfz⟩ := HO3.out.shapeN (by rw [mixAt_len]; omega)
              simp only [Value.slice.injEq, Option.some.injEq, Addr.mk.injEq, and_true] at hv
              obtain ⟨rfl, -, -⟩ := hv
              have hcb := hce j (by rw [mixAt_len]; exact hlj)
              rw [nb_mixAt _ _ _ _ hlj] at hcb
              have hfb := hfz j
              obtain ⟨br, orr, rfl, hcr⟩ := HXR.out (by omega)
              have hcrt := hcr t (by omega)
              have hcr' := (HB3.out.cell (p := ⟨br, orr + t, none⟩) (block_lt hcrt)).trans hcrt
              have htm : t < m := by omega
              clear hce hfz hcrt
              go_wp2_with fail
              refine region_tail 14 (by kernel_rfl) (by kernel_rfl) ?_
              simp only [List.take_succ_cons, List.take_zero, List.drop_succ_cons, List.drop_zero]
              repeat (first | still_step | still_call (mul_still _ _ _))
              refine wpStill_nil ?_
              go_wp2
              go_roundw
              case rel =>
                refine ⟨j+1, by omega, by go_num, ?_, (HB3.out.setCell (Nat.le_refl _) _).drew⟩
                rw [← mixAt_set]
                exact (HO3.out.set (mixAt_len _ _ _ _ _).symm j _).drew
              case measure => simp [intOf]; omega
            · have : j = L := by omega
              subst this
              go_wp2
              go_roundw
              case rel => exact ⟨t+1, by omega, by go_num, by rw [← mixAt_all]; exact HO3.out, HB3.out⟩
              case measure => simp [intOf]; omega
        · have : t = l.length := by omega
          subst this
          have hb3 := HB.out.trans (HB2.out.mono HB.out.size)
          have HO3 := Lib.hid (HO.out.grow HB2.out)
          obtain ⟨g, cg, hv, hSg, hg, _, _, hce, hfz⟩ := HO3.out.shape (by rw [mixTo_len]; omega)
          simp only [Value.slice.injEq, Option.some.injEq, Addr.mk.injEq, and_true] at hv
          obtain ⟨rfl, -, -⟩ := hv
          have hcb := hce i (by rw [mixTo_len]; exact hlt)
          have hfb := hfz i
          have HB3 := Lib.hid hb3
          have HCV : (convert 25 9 (.slice (some ⟨wo.heap.size, 0, none⟩) L L)).run Try.prog wr = .ok (.string (str (mixRow r l L l.length))) wr := run_convert_bytes _ _ 5 Try.underlying25 Try.underlying5 Try.underlying9 HO2.out.rd
          clear hce hfz hb3 HO HB HO2 HB2
          go_wp2_with fail
          go_roundw
          case rel =>
            refine ⟨i+1, by omega, by go_num, ?_, HB3.out.setCell hSg _⟩
            rw [← mixTo_set _ _ _ hlt, HR.out]
            exact HO3.out.set (mixTo_len _ _ _ _).symm i _ (by rw [mixRow_len]; unfold maxLen; omega)
          case measure => simp [intOf]; omega
    · have : i = M.length := by omega
      subst this
      go_wp2_with fail
      go_ret
      exact ⟨_, rfl, by rw [← mixTo_all]; exact HO.out, HB.out⟩
end Go.Proofs.Ytphehfllcmbpkaa
