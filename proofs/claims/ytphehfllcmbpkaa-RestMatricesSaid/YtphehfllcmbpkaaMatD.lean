/- The contracts of package matrix, fourth part: columns are cleared. No condition. -/
import Derived.Test.YtphehfllcmbpkaaMatC
namespace Go.Proofs.Ytphehfllcmbpkaa
open Go Go.RowKit GF
set_option maxRecDepth 100000
set_option maxHeartbeats 2000000
/-- the place that a holds after an exchange of a and b -/
def sw (a b i : Nat) : Nat := if i = a then b else if i = b then a else i
theorem sw_inj {a b i j : Nat} (h : sw a b i = sw a b j) : i = j := by
  unfold sw at h; repeat' split at h
  all_goals omega
theorem OMat.swap {S w v M} (h : OMat S w v M) {a b : Nat} (ha : a < M.length) (hb : b < M.length) (hab : a ≠ b) {g n c : Nat} (hv : v = .slice (some ⟨g, 0, none⟩) n c) {ua ub : Value}
    (hua : w.cell? ⟨g, a, none⟩ = some ua) (hub : w.cell? ⟨g, b, none⟩ = some ub) :
    OMat S ((w.setCell ⟨g, a, none⟩ ub).setCell ⟨g, b, none⟩ ua) v (swapRows M a b) := by
  obtain ⟨vs, h1, h2, h3, h4⟩ := h.ex
  subst hv
  have hl := h1.len
  have hn0 : n = M.length := by
    rcases h1.shape with ⟨h0, _, _⟩ | ⟨g', cap', h0, _⟩
    · simp at h0
    · simp only [Value.slice.injEq] at h0; exact h0.2.1
  subst hn0
  have hcell : ∀ j, j < M.length → w.cell? ⟨g, j, none⟩ = vs[j]? := by
    rcases h1.shape with ⟨h0, _, _⟩ | ⟨g', cap', h0, _, _, hn, hm, hc, hf⟩
    · simp at h0
    · simp only [Value.slice.injEq, Option.some.injEq, Addr.mk.injEq, and_true, true_and] at h0
      obtain ⟨rfl, rfl⟩ := h0
      intro j hj; exact hc j (by omega)
  have hva : vs[a]? = some ua := by rw [← hcell a ha]; exact hua
  have hvb : vs[b]? = some ub := by rw [← hcell b hb]; exact hub
  have hvs : ∀ i, ((vs.set a ub).set b ua)[i]? = vs[sw a b i]? := by
    intro i
    unfold sw
    rw [List.getElem?_set, List.getElem?_set]
    by_cases e1 : b = i
    · subst e1
      rw [if_pos rfl, if_pos (by simp; omega), if_neg (fun e : b = a => hab e.symm), if_pos rfl]; exact hva.symm
    · rw [if_neg e1]
      by_cases e2 : a = i
      · subst e2; rw [if_pos rfl, if_pos (by omega), if_pos rfl]; exact hvb.symm
      · rw [if_neg e2, if_neg (fun e => e2 e.symm), if_neg (fun e => e1 e.symm)]
  have hMs : ∀ (i : Nat) (r : List UInt8), (swapRows M a b)[i]? = some r → M[sw a b i]? = some r := by
    intro i r hr
    have hi : i < M.length := by have := (List.getElem?_eq_some_iff.1 hr).1; rwa [swapRows_len] at this
    have e := swapRows_getD (R := M) (i := i) ha hb
    have e2 : (swapRows M a b).getD i [] = r := by simp [List.getD, hr]
    rw [e2] at e
    unfold sw
    by_cases e1 : i = b
    · rw [if_pos e1] at e; rw [if_neg (by omega), if_pos e1, e]; simp [List.getD, ha]
    · rw [if_neg e1] at e
      by_cases e3 : i = a
      · rw [if_pos e3] at e; rw [if_pos e3, e]; simp [List.getD, hb]
      · rw [if_neg e3] at e; rw [if_neg e3, if_neg e1, e]; simp [List.getD, hi]
  have hk : Kp (fun k => k = g) w ((w.setCell ⟨g, a, none⟩ ub).setCell ⟨g, b, none⟩ ua) := (Kp.setCell w ⟨g, a, none⟩ ub).setIn (a := ⟨g, b, none⟩) rfl ua
  refine ⟨(vs.set a ub).set b ua, ?_, ?_, ?_, ?_⟩
  · rw [swapRows_len]; exact (h1.set a ub).set b ua
  · intro i r hr
    obtain ⟨u, hu, ho⟩ := h2 _ r (hMs i r hr)
    exact ⟨u, by rw [hvs]; exact hu, ho.keep hk fun g' hg' e => h4 _ u g' hu hg' (by simp [Value.ownBlock]; exact e.symm)⟩
  · intro i j u x g' hu hx hg hg'
    rw [hvs] at hu hx
    exact sw_inj (h3 _ _ u x g' hu hx hg hg')
  · intro i u g' hu hg
    rw [hvs] at hu
    exact h4 _ u g' hu hg
/-- what r[done:] reads as, for the search -/
theorem OMat.from {S w v M} (h : OMat S w v M) {done g n c : Nat} (hd : done < M.length) (hv : v = .slice (some ⟨g, 0, none⟩) n c) :
    ∃ vs, Rds w (.slice (some ⟨g, done, none⟩) (M.length - done) (c - done)) 1 vs ∧ vs.length = M.length - done ∧ ∀ (i : Nat) (u : Value), vs[i]? = some u → RBytes w u (M.getD (done + i) []) ∧ done + i < M.length := by
  obtain ⟨vs, h1, h2, h3, h4⟩ := h.ex
  have hl := h1.len
  subst hv
  rcases h1.shape with ⟨h0, _, _⟩ | ⟨g', cap', h0, _, _, hn, hm, hc, hf⟩
  · simp at h0
  · simp only [Value.slice.injEq, Option.some.injEq, Addr.mk.injEq, and_true] at h0
    obtain ⟨rfl, rfl, rfl⟩ := h0
    refine ⟨vs.drop done, ⟨_, _, _, rfl, by simp; omega, by omega, by omega, by simp, ?_⟩, by simp; omega, ?_⟩
    · rintro ad ⟨⟩
      refine ⟨fun _ => rfl, fun j u hu => ?_⟩
      rw [List.getElem?_drop] at hu
      have := (List.getElem?_eq_some_iff.1 hu).1
      show w.cell? ⟨g, done + j, none⟩ = some u
      rw [hc (done + j) (by omega)]; exact hu
    · intro i u hu
      rw [List.getElem?_drop] at hu
      have hi := (List.getElem?_eq_some_iff.1 hu).1
      have hi' : done + i < M.length := by omega
      obtain ⟨u', hu', ho⟩ := h2 (done + i) (M.getD (done + i) []) (by simp [List.getD, hi'])
      rw [hu] at hu'
      obtain rfl := Option.some.inj hu'
      exact ⟨ho.rd, hi'⟩
theorem append_one2 (a b : Value) : (#[a] ++ #[b]) = #[a, b] := rfl
theorem clear_calls (S : Nat → Prop) (v : Value) (R0 : List (List UInt8)) (m cols : Nat) (w : World) (ho : OMat S w v R0) (hf : Flat R0 m) (h0 : 0 < R0.length) (hl : R0.length ≤ 1000) (hm : m ≤ 1000) (hc : cols ≤ m) (hS : ∀ k, S k → k < w.heap.size) :
    Calls Try.prog 41 #[v, .int .i64 cols] w fun e w' => e = .returned (.int .i64 (clr cols 0 R0 0).2) ∧ OMat S w' v (clr cols 0 R0 0).1 ∧ Kp S w w' := by
  obtain ⟨g, cap, rfl, hSg, hg, hcap, hcm, _, _⟩ := ho.shape h0
  unfold maxLen at hcm
  generalize hn : R0.length = n at *
  have HN := Lib.hid hn
  have HO := Lib.hid ho
  have HF := Lib.hid hf
  have HS := Lib.hid hS
  clear ho hf hS hn
  go_enter Try.func41, Try.ntmps41
  go_wp2_with fail
  go_loopw [12, 5] (fun x y wr => ∃ (c done : Nat) (R : List (List UInt8)), c ≤ cols ∧ done < n ∧ x = .int .i64 c ∧ y = .int .i64 done ∧ OMat S wr (.slice (some ⟨g, 0, none⟩) n cap) R ∧ Hid (R.length = n) ∧ Hid (Flat R m) ∧ Kp S w wr ∧ Hid (clr cols 0 R0 0 = clr (cols - c) c R done)) (fun x _ _ => cols - (intOf x).toNat)
  case atStart => exact ⟨0, 0, R0, by omega, h0, rfl, rfl, HO.out, HN, HF, Kp.refl _ _, Lib.hid rfl⟩
  case round =>
    clear HO
    obtain ⟨c, done, R, hcc, hdn, rfl, rfl, ho, hRn, hRf, hk, hclr⟩ := hrel
    have HO := Lib.hid ho
    have HK := Lib.hid hk
    have hws := hk.size
    clear ho hk
    by_cases hlt : c < cols
    · have hcd : ¬ cap = done := by omega
      -- the search, in the world with the box of c
      have HW : ∀ o, OMat S (wr.alloc o) (.slice (some ⟨g, 0, none⟩) n cap) R := fun o => HO.out.grow ((Below.refl _ wr).alloc (Nat.le_refl _) o)
      obtain ⟨vs, hr, hvl, hvs⟩ := (HW (.cells #[.int .i64 c] 3)).from (done := done) (by rw [hRn.out]; exact hdn) rfl
      rw [hRn.out] at hr hvl
      have HR := Lib.hid hr
      have HVS := Lib.hid hvs
      have HVL := Lib.hid hvl
      have HWW := Lib.hid HW
      clear hr hvs hvl HW
      go_wp2_with (go_at_call 89; refine (idxRows_calls _ vs _ _ (fun i => ent R (done + i) c != 0) _ (fun _ _ => rfl) HR.out (fun i u hu => by rw [append_one2]; exact clear1_calls u _ c _ _ (HVS.out i u hu).1 (by rw [hRf.out _ (HVS.out i u hu).2]; omega) (by simp))).mono ?_; rintro e w1 ⟨rfl, r, rfl, hix⟩; rcases pivot_of (R := R) (done := done) (c := c) (r := r) (by rw [hRn.out, ← HVL.out]; exact hix) with ⟨rfl, hpv⟩ | ⟨i, rfl, hi, hpv⟩ <;> (have HPV := Lib.hid hpv; clear hpv hix))
      · go_roundw
        case rel => exact ⟨c + 1, done, R, by omega, hdn, by go_num, rfl, HWW.out _, hRn, hRf, HK.out.trans (Kp.below ((Below.refl _ wr).alloc (Nat.le_refl _) _)), by unfold Hid; rw [hclr.out, clr_none HPV.out hlt]⟩
        case measure => simp [intOf]; omega
      · rw [hRn.out] at hi
        have ho1 := HWW.out (.cells #[.int .i64 c] 3)
        have hcb : (wr.alloc (.cells #[.int .i64 c] 3)).cell? ⟨wr.heap.size, 0, none⟩ = some (.int .i64 c) := by simp
        have hkw : Kp S w (wr.alloc (.cells #[.int .i64 c] 3)) := HK.out.trans (Kp.below ((Below.refl _ wr).alloc (Nat.le_refl _) _))
        generalize wr.alloc (.cells #[.int .i64 c] 3) = W at *
        obtain ⟨g', cap', hv, _, hg', _, _, hfz, hrow⟩ := ho1.shape (by rw [hRn.out]; omega)
        simp only [Value.slice.injEq, Option.some.injEq, Addr.mk.injEq, and_true] at hv
        obtain ⟨rfl, -, -⟩ := hv
        obtain ⟨uA, hA, hoA, _⟩ := hrow done (R.getD done []) (by simp [List.getD, hRn.out, hdn])
        obtain ⟨uB, hB, hoB, _⟩ := hrow (done + i) (R.getD (done + i) []) (by simp [List.getD, hRn.out, hi])
        obtain ⟨aA, cA, rfl, _, _, _⟩ := hoA.rd.open
        obtain ⟨aB, cB, rfl, _, _, _⟩ := hoB.rd.open
        rw [hRf.out done (by rw [hRn.out]; exact hdn)] at *
        rw [hRf.out (done + i) (by rw [hRn.out]; exact hi)] at *
        clear hoA hoB
        have hfA := hfz done
        have hfB := hfz (done + i)
        clear hrow hfz
        have HO1 := Lib.hid ho1
        have HKW := Lib.hid hkw
        have HCB := Lib.hid hcb
        clear ho1 hkw hcb
        go_cut [] (fun wx => OMat S wx (.slice (some ⟨g, 0, none⟩) n cap) (swapRows R done (done + i)) ∧ Kp S w wx ∧ wx.cell? ⟨wr.heap.size, 0, none⟩ = some (.int .i64 c) ∧ Hid (wr.heap.size < wx.heap.size))
        case first =>
          have hgw : g ≠ wr.heap.size := by have := HS.out g hSg; omega
          have hlw := block_lt HCB.out
          rcases Nat.eq_zero_or_pos i with rfl | hi0
          · simp only [Nat.add_zero] at hB hfB
            rw [hA] at hB
            simp only [Option.some.injEq, Value.slice.injEq, true_and] at hB
            obtain ⟨rfl, rfl⟩ := hB
            have HA := Lib.hid (setCell_self hA)
            go_region
            go_wp2_with fail
            go_meet
            case rel =>
              rw [HA.out]
              try rw [HA.out]
              refine ⟨?_, HKW.out.drew, HCB.out, hlw⟩
              rw [Nat.add_zero, swapRows_same (by rw [hRn.out]; exact hdn)]; exact HO1.out.drew
          · have HSW := Lib.hid (HO1.out.swap (a := done) (b := done + i) (by rw [hRn.out]; exact hdn) (by rw [hRn.out]; exact hi) (by omega) rfl hA hB)
            go_region
            go_wp2_with fail
            go_meet
            case rel =>
              refine ⟨HSW.out.drew, ((HKW.out.setIn (a := ⟨g, done, none⟩) hSg _).setIn (a := ⟨g, done + i, none⟩) hSg _).drew, ?_, by simpa [Hid] using hlw⟩
              rw [World.cell?_of_block (w := W) (a := ⟨wr.heap.size, 0, none⟩)]
              · exact HCB.out
              · show ((W.setCell ⟨g, done, none⟩ _).setCell ⟨g, done + i, none⟩ _).heap[wr.heap.size]? = _
                rw [heap_setCell_other _ _ _ _ (by simpa using fun e => hgw e.symm), heap_setCell_other _ _ _ _ (by simpa using fun e => hgw e.symm)]
        case rest =>
          obtain ⟨h1, h2, h3, h4⟩ := hcut
          go_wp2_with fail
          have hl1 : (swapRows R done (done + i)).length = n := by rw [swapRows_len]; exact hRn.out
          have hf1 : Flat (swapRows R done (done + i)) m := swapRows_flat hRf.out (by rw [hRn.out]; exact hdn) (by rw [hRn.out]; exact hi)
          generalize hR1 : swapRows R done (done + i) = R1 at *
          have HR1 := Lib.hid hR1
          have HL1 := Lib.hid hl1
          have HF1 := Lib.hid hf1
          have H1 := Lib.hid h1
          have H2 := Lib.hid h2
          have hgd := hf1 done (by rw [hl1]; exact hdn)
          obtain ⟨gv, cv, gk, ck, hv, _, _, _, hSk, hgv, hgk, e1, e2, e3, e4, _, _⟩ := h1.rowAt (i := done) (k := c) (by rw [hl1]; exact hdn) (by rw [hgd]; omega)
          simp only [Value.slice.injEq, Option.some.injEq, Addr.mk.injEq, and_true] at hv
          obtain ⟨rfl, -, -⟩ := hv
          rw [hgd] at *
          rw [show nb (R1.getD done []) c = ent R1 done c from rfl] at e4
          unfold maxLen at e3
          have c1 := fun d os => cell_regrown (w := wc) e1 d os
          have c2 := fun d os => cell_regrown (w := wc) e4 d os
          have c3 := fun d os => cell_regrown (w := wc) h3 d os
          have hcm' : c < m := by omega
          clear hR1 hl1 hf1 h1 h2 hgd e1 e4
          refine wp_region_quiet_below (by kernel_rfl) (by kernel_rfl) ?_
          repeat (quiet_step (exact Calls.regrown_of (inverse_calls _ _)))
          refine wpQuiet_nil ?_
          intro w3 hw3
          obtain ⟨p3, hp3⟩ := hw3
          have hb3 : Below wc.heap.size wc w3 := by rw [hp3]; exact below_regrown _ _ _
          have ho3 := H1.out.grow hb3
          have hk3 := H2.out.trans (Kp.below hb3)
          have hc3 : w3.cell? ⟨wr.heap.size, 0, none⟩ = some (.int .i64 c) := by rw [hb3.cell (p := ⟨wr.heap.size, 0, none⟩) h4.out]; exact h3
          have h43 := hb3.size
          clear hp3 c1 c2 c3 h3
          have HO3 := Lib.hid ho3
          have HK3 := Lib.hid hk3
          have HC3 := Lib.hid hc3
          clear ho3 hk3 hc3
          have hdl : done < R1.length := by rw [HL1.out]; exact hdn
          go_wp2_with fail
          refine (scale_calls S _ R1 done (ginv (ent R1 done c)) _ HO3.out hdl (by rw [HF1.out done hdl]; exact hm)).mono ?_
          rintro e w4 ⟨rfl, ho4, hk4⟩
          have HO4 : Hid (OMat S w4 (.slice (some ⟨g, 0, none⟩) n cap) (elimTo (scaledAt R1 done c) done c 0)) := by rw [elimTo_zero]; exact ho4
          have hk5 := HK3.out.trans hk4
          have HK4 := Lib.hid hk5
          have hnS : ¬ S wr.heap.size := fun h => by have := HS.out _ h; omega
          have hc4 : w4.cell? ⟨wr.heap.size, 0, none⟩ = some (.int .i64 c) := by rw [World.cell?_of_block (w := w3) (hk4.block wr.heap.size (by have := h4.out; omega) hnS)]; exact HC3.out
          have h44 : wr.heap.size < w4.heap.size := by have := hk4.size; have := h4.out; omega
          clear ho4 hk4 hk5
          go_wp2_with fail
          obtain ⟨wo, rfl⟩ : ∃ wo : World, wo = wr := ⟨_, rfl⟩
          have hR2l : Hid ((scaledAt R1 done c).length = n) := by rw [scaledAt_len]; exact HL1
          have hR2f : Hid (Flat (scaledAt R1 done c) m) := scaledAt_flat HF1.out hdl
          have hstep : Hid (pivotStep R done c i = elimTo (scaledAt R1 done c) done c n) := by
            show pivotStep R done c i = _
            unfold pivotStep elim; rw [HR1.out, hR2l.out]
          generalize hR2 : scaledAt R1 done c = R2 at *
          clear hR2
          go_loopw [57] (fun x wx => ∃ k : Nat, k ≤ n ∧ x = .int .i64 k ∧ OMat S wx (.slice (some ⟨g, 0, none⟩) n cap) (elimTo R2 done c k) ∧ Kp S w wx ∧ wx.cell? ⟨wo.heap.size, 0, none⟩ = some (.int .i64 c) ∧ Hid (wo.heap.size < wx.heap.size)) (fun x _ => n - (intOf x).toNat)
          case atStart => exact ⟨0, by omega, rfl, HO4.out, HK4.out, hc4, h44⟩
          case round =>
            clear HO4 HK4 hc4 h44
            obtain ⟨k, hk, rfl, ho, hkp, hcc4, h44⟩ := hrel
            have HO5 := Lib.hid ho
            have HK5 := Lib.hid hkp
            clear ho hkp
            by_cases hkn : k < n
            · by_cases hkd : k = done
              · subst hkd
                have HC5 := Lib.hid hcc4
                clear hcc4
                go_wp2_with fail
                go_roundw
                case rel => exact ⟨k + 1, by omega, by go_num, by rw [elimTo_skip]; exact HO5.out, HK5.out, HC5.out, h44⟩
                case measure => simp [intOf]; omega
              · have hkd' : ((k : Int) != (done : Int)) = true := by rw [bne_iff_ne]; omega
                have hg1 : (elimTo R2 done c k).getD k [] = R2.getD k [] := by rw [elimTo_getD (by rw [hR2l.out]; exact hkn), if_neg (by omega)]
                have hg2 : (elimTo R2 done c k).getD done [] = R2.getD done [] := by rw [elimTo_getD (by rw [hR2l.out]; exact hdn), if_neg (by omega)]
                have hl1 : (R2.getD k []).length = m := hR2f.out k (by rw [hR2l.out]; exact hkn)
                have hl2 : (R2.getD done []).length = m := hR2f.out done (by rw [hR2l.out]; exact hdn)
                obtain ⟨g5, cap5, gk5, ck5, hv, _, _, _, _, _, _, e1, e2, e3, e4, _, _⟩ := HO5.out.rowAt (i := k) (k := c) (by rw [elimTo_len, hR2l.out]; exact hkn) (by rw [hg1, hl1]; exact hcm')
                simp only [Value.slice.injEq, Option.some.injEq, Addr.mk.injEq, and_true] at hv
                obtain ⟨rfl, -, -⟩ := hv
                rw [hg1] at e1 e2 e4
                rw [hl1] at e1 e2
                rw [show nb (R2.getD k []) c = ent R2 k c from rfl] at e4
                have HG1 := Lib.hid hg1
                have HG2 := Lib.hid hg2
                have HLL1 := Lib.hid hl1
                have HLL2 := Lib.hid hl2
                have HC5 := Lib.hid hcc4
                have hkd2 := Lib.hid hkd
                clear hg1 hg2 hl1 hl2 hkd
                unfold maxLen at e3
                have hln5 : Hid ((elimTo R2 done c k).length = n) := by rw [elimTo_len]; exact hR2l
                go_wp2_with fail
                refine region_tail 10 (by kernel_rfl) (by kernel_rfl) ?_
                simp only [List.take_succ_cons, List.take_zero, List.drop_succ_cons, List.drop_zero]
                repeat still_step
                refine wpStill_nil ?_
                clear hcc4
                go_wp2_with fail
                refine (add_calls S _ (elimTo R2 done c k) k done (ent R2 k c) _ HO5.out.drew (by rw [hln5.out]; exact hkn) (by rw [hln5.out]; exact hdn) hkd2.out (by rw [HG1.out, HG2.out, HLL1.out, HLL2.out]) (by rw [HG2.out, HLL2.out]; exact hm)).mono ?_
                rintro e w5 ⟨rfl, ho5, hk5⟩
                rw [HG1.out, HG2.out, elimTo_set (by rw [hR2l.out]; exact hkn) hkd2.out] at ho5
                have HO6 := Lib.hid ho5
                have HK6 := Lib.hid hk5
                clear ho5 hk5
                go_wp2_with fail
                go_roundw
                case rel =>
                  refine ⟨k + 1, by omega, by go_num, HO6.out, HK5.out.drew.trans HK6.out, ?_, ?_⟩
                  · rw [World.cell?_of_block (w := wr.drew) (HK6.out.block wo.heap.size (by exact h44.out) hnS)]; exact HC5.out
                  · have := HK6.out.size; have h := h44.out; exact Nat.lt_of_lt_of_le h this
                case measure => simp [intOf]; omega
            · have : k = n := by omega
              subst this
              by_cases hlast : done + 1 = k
              · have hl' : (((done : Int) + 1) == (k : Int)) = true := by rw [beq_iff_eq]; omega
                have HE : Hid (clr cols 0 R0 0 = (pivotStep R done c i, done + 1)) := by
                  show clr cols 0 R0 0 = _
                  rw [hclr.out, clr_last HPV.out hlt (by rw [hRn.out]; exact hlast)]
                clear hlast
                go_wp2_with fail
                go_ret
                exact ⟨by rw [HE.out]; rfl, by rw [HE.out, hstep.out]; exact HO5.out, HK5.out⟩
              · have hl' : (((done : Int) + 1) == (k : Int)) = false := by rw [beq_eq_false_iff_ne]; omega
                have HE : Hid (clr cols 0 R0 0 = clr (cols - (c + 1)) (c + 1) (elimTo R2 done c k) (done + 1)) := by
                  show clr cols 0 R0 0 = _
                  rw [hclr.out, clr_more HPV.out hlt (by rw [hRn.out]; exact hlast), hstep.out]
                have hd2 : done + 1 < k := by omega
                clear hlast
                go_wp2_with fail
                go_roundw
                case rel => exact ⟨c + 1, done + 1, elimTo R2 done c k, by omega, hd2, by go_num, by go_num, HO5.out, by rw [elimTo_len]; exact hR2l, elimTo_flat hR2f.out, HK5.out, HE⟩
                case measure => simp [intOf]; omega
    · have : c = cols := by omega
      subst this
      have HE : Hid (clr c 0 R0 0 = (R, done)) := by
        show clr c 0 R0 0 = _
        rw [hclr.out, Nat.sub_self]; rfl
      go_wp2_with fail
      go_ret
      exact ⟨by rw [HE.out]; rfl, by rw [HE.out]; exact HO.out, HK.out⟩
end Go.Proofs.Ytphehfllcmbpkaa
