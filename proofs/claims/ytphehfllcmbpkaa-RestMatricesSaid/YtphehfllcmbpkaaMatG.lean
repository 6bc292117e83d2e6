/- The contracts of package matrix, seventh part: rows of places. No condition. -/
import Derived.Test.YtphehfllcmbpkaaMatF
namespace Go.Proofs.Ytphehfllcmbpkaa
open Go Go.RowKit GF
set_option maxRecDepth 100000
set_option maxHeartbeats 2000000
theorem rowsLt {S : Nat → Prop} {w : World} {M : List (List UInt8)} {vs : List Value} (h2 : ∀ (i : Nat) (r : List UInt8), M[i]? = some r → ∃ u, vs[i]? = some u ∧ OBytes S w u r) (hl : vs.length = M.length)
    (i : Nat) (u : Value) (g : Nat) (hu : vs[i]? = some u) (hg : u.ownBlock = some g) : g < w.heap.size := by
  have hi := (List.getElem?_eq_some_iff.1 hu).1
  obtain ⟨u', hu', ho⟩ := h2 i _ (List.getElem?_eq_getElem (by omega))
  rw [hu] at hu'
  obtain rfl := Option.some.inj hu'
  exact Own.lt ho hg
def mrowsE (M : List (List UInt8)) (l : List Int) : Int :=
  if mcheck M ≠ 0 then mcheck M else if 16 < l.length then 2 else if l.length = 0 then 1 else if ∀ k, k < l.length → 0 ≤ ni l k ∧ ni l k < M.length then 0 else 3
def mrowsTo (M : List (List UInt8)) (l : List Int) (k : Nat) : List (List UInt8) := (List.range k).map fun j => M.getD (ni l j).toNat []
noncomputable def mrowsOf (M : List (List UInt8)) (l : List Int) : List (List UInt8) := if mrowsE M l = 0 then mrowsTo M l l.length else []
theorem mrowsTo_len (M l k) : (mrowsTo M l k).length = k := by simp [mrowsTo]
theorem mrowsTo_succ (M l k) : mrowsTo M l (k + 1) = mrowsTo M l k ++ [M.getD (ni l k).toNat []] := by simp [mrowsTo, List.range_succ]
theorem Rows_calls (v vl : Value) (M : List (List UInt8)) (l : List Int) (w : World) (h : RMat w v M) (hl : RInts w vl l) :
    Calls Try.prog 12 #[v, vl] w fun e w' => ∃ x, e = .returned (.tuple #[x, .int .i64 (mrowsE M l)]) ∧ OMat (fun k => w.heap.size ≤ k) w' x (mrowsOf M l) ∧ Below w.heap.size w w' := by
  obtain ⟨a, cap, rfl, hc, hm, hx⟩ := h.open
  obtain ⟨a2, cap2, rfl, hc2, hm2, hx2⟩ := hl.open
  have HR := Lib.hid (ni_range hl.2)
  have HX := Lib.hid hx
  have HX2 := Lib.hid hx2
  have HM := Lib.hid h
  unfold maxLen at hm hm2
  clear h hx hx2 hl
  by_cases hz : mcheck M = 0
  · have hz' : (mcheck M != 0) = false := by simp [hz]
    have hok := mcheck_ok hz
    have h0 := hok.1
    have h16 := hok.2.1
    have hw16 := hok.2.2.2.2
    have HFL := Lib.hid hok.2.2.1
    have HZ := Lib.hid hz
    clear hok hz
    by_cases h1 : 16 < l.length
    · have HE : Hid (mrowsE M l = 2) := by unfold mrowsE; rw [if_neg (not_not_intro HZ.out), if_pos h1]; exact Lib.hid rfl
      go_enter Try.func12, Try.ntmps12
      go_wp2_with (go_at_call 37; refine (mcheck_calls _ M _ HM.out).mono ?_; rintro e w1 ⟨rfl, rfl⟩)
      go_ret2
      exact ⟨_, by rw [HE.out]; rfl, by unfold mrowsOf; rw [HE.out, if_neg (by omega)]; exact OMat.nil _ _, Below.refl _ _⟩
    by_cases h2 : l.length = 0
    · have HE : Hid (mrowsE M l = 1) := by unfold mrowsE; rw [if_neg (not_not_intro HZ.out), if_neg h1, if_pos h2]; exact Lib.hid rfl
      have h2' : ((l.length : Int) == 0) = true := by simp [h2]
      clear h2
      go_enter Try.func12, Try.ntmps12
      go_wp2_with (go_at_call 37; refine (mcheck_calls _ M _ HM.out).mono ?_; rintro e w1 ⟨rfl, rfl⟩)
      go_ret2
      exact ⟨_, by rw [HE.out]; rfl, by unfold mrowsOf; rw [HE.out, if_neg (by omega)]; exact OMat.nil _ _, Below.refl _ _⟩
    have h2' : ((l.length : Int) == 0) = false := by rw [beq_eq_false_iff_ne]; omega
    have HN2 := Lib.hid h2
    clear h2
    go_enter Try.func12, Try.ntmps12
    go_wp2_with (go_at_call 37; refine (mcheck_calls _ M _ HM.out).mono ?_; rintro e w1 ⟨rfl, rfl⟩)
    go_loopw [26, 7] (fun x y wr => ∃ k : Nat, k ≤ l.length ∧ x = .int .i64 k ∧ OMat (fun k => w.heap.size ≤ k) wr y (mrowsTo M l k) ∧ Below w.heap.size w wr ∧ Hid (∀ j, j < k → 0 ≤ ni l j ∧ ni l j < M.length)) (fun x _ _ => l.length - (intOf x).toNat)
    case atStart => exact ⟨0, by omega, rfl, OMat.nil _ _, Below.refl _ _, fun j hj => by omega⟩
    case round =>
      obtain ⟨k, hk, rfl, ho, hb, hq⟩ := hrel
      have HO := Lib.hid ho
      have HB := Lib.hid hb
      clear ho hb
      by_cases hlt : k < l.length
      · obtain ⟨b2, o2, rfl, hce2⟩ := HX2.out (by omega)
        have hck := (HB.out.cell (p := ⟨b2, o2 + k, none⟩) (block_lt (hce2 k hlt))).trans (hce2 k hlt)
        have hrg := HR.out k
        clear hce2
        by_cases hin : 0 ≤ ni l k ∧ ni l k < M.length
        · obtain ⟨hi0, hi1⟩ := hin
          obtain ⟨i, hi⟩ := Int.eq_ofNat_of_zero_le hi0
          have HI := Lib.hid hi
          rw [hi] at hck hi0 hi1
          clear hrg hi
          have hiM : i < M.length := by omega
          obtain ⟨bm, om, rfl, hrow⟩ := HX.out h0
          obtain ⟨u, hu, hbr⟩ := hrow i (M.getD i []) (by simp [List.getD, hiM])
          have hcu := (HB.out.cell (p := ⟨bm, om + i, none⟩) (block_lt hu)).trans hu
          have HBR := Lib.hid (hbr.below HB.out)
          have hlen := HFL.out i hiM
          have HLEN := Lib.hid hlen
          clear hrow hu hbr hlen
          obtain ⟨vs, n1, n2, n3, n4⟩ := HO.out.ex
          have hvl := n1.len
          simp only [Nat.mul_one] at hvl
          have hml := mrowsTo_len M l k
          have HV := Lib.hid hvl
          have HML := Lib.hid hml
          have N1 := Lib.hid n1
          have N2 := Lib.hid n2
          have N3 := Lib.hid n3
          have N4 := Lib.hid n4
          clear hvl hml n1 n2 n3 n4
          go_wp2_with (first | (go_at_call 43; refine (cloneBytes_calls _ (M.getD i []) _ HBR.out (by rw [HLEN.out]; omega)).mono ?_; rintro e w2 ⟨x, rfl, hox, hbx⟩; obtain ⟨ax, cx, rfl, hcx, hmx, -⟩ := hox.rd.open; rw [HLEN.out] at hox hcx ⊢; have HOX := Lib.hid hox; have HBX := Lib.hid hbx; unfold maxLen at hmx; clear hox hbx) | (at_builtin; refine wpList_app rfl (.tmp 38) (.tmp 44) 22 rfl 25 _ 1 24 Try.underlying22 info_bytes rfl (by decide) _ _ _ vs rfl ((N1.out.grow HBX.out).grow ((Below.refl _ w2).alloc (Nat.le_refl _) _)) _ 1 [.slice ax (wid M) cx] rfl ⟨_, 1, 1, rfl, rfl, by omega, by unfold maxLen; omega, fun h => by simp at h, by rintro ad ⟨⟩; exact ⟨fun _ => rfl, fun j u hu => by cases j <;> simp at hu ⊢; exact hu⟩⟩ rfl (by intro u hu; simp at hu; subst hu; rfl) (by rw [HML.out]; unfold maxLen; omega) (by rw [HML.out]; omega) ?_; intro v' w' hown hkp; have HON := Lib.hid hown; have HKP := Lib.hid hkp; clear hown hkp))
          go_roundw
          case rel =>
            refine ⟨k + 1, by omega, by go_num, ?_, ?_, ?_⟩
            · have hI : (ni l k).toNat = i := by rw [HI.out]; simp
              rw [mrowsTo_succ, hI]
              have hsz := HBX.out.size
              refine OMat.snoc rfl (fun i r hr => let ⟨u, hu, ho⟩ := N2.out i r hr; ⟨u, hu, Own.grow (Own.grow ho HBX.out) ((Below.refl _ w2).alloc (Nat.le_refl _) _)⟩) N3.out (fun i u g hu hg => ⟨N4.out i u g hu hg, ?_⟩) HV.out ?_ ?_ HON.out HKP.out ?_
              · have := rowsLt N2.out HV.out i u g hu hg
                simp; omega
              · exact (Own.grow HOX.out ((Below.refl _ w2).alloc (Nat.le_refl _) _)).mono fun k hk => Nat.le_trans HB.out.size hk
              · intro g hg
                have hge := HOX.out.2 g hg
                refine ⟨fun j x hx hgx => ?_, fun hgv => ?_⟩
                · have := rowsLt N2.out HV.out j x g hx hgx
                  omega
                · have := N1.out.lt hgv
                  omega
              · intro k hk
                rcases hk with h | h
                · exact N1.out.2 k h
                · have := HB.out.size
                  simp at h; omega
            · have hsz := HBX.out.size
              have hsz2 := HB.out.size
              refine HB.out.trans ((HBX.out.mono hsz2).trans (((Below.refl _ w2).alloc (Nat.le_trans hsz2 hsz) _).trans ⟨HKP.out.os, HKP.out.tape, HKP.out.output, HKP.out.size, fun k hk => HKP.out.block k (by simp; omega) (fun h => by have := N1.out.2 k h; omega)⟩))
            · intro j hj
              by_cases e : j = k
              · subst e; rw [HI.out]; exact ⟨hi0, hi1⟩
              · exact hq.out j (by omega)
          case measure => simp [intOf]; omega
        · have HE : Hid (mrowsE M l = 3) := by
            unfold mrowsE; rw [if_neg (not_not_intro HZ.out), if_neg h1, if_neg HN2.out, if_neg (fun h => hin (h k hlt))]; exact Lib.hid rfl
          generalize ni l k = x at *
          by_cases hneg : x < 0
          · clear hin
            go_wp2_with fail
            go_ret2
            exact ⟨_, by rw [HE.out]; rfl, by unfold mrowsOf; rw [HE.out, if_neg (by omega)]; exact OMat.nil _ _, HB.out⟩
          · have hge : ¬ x < M.length := fun h => hin ⟨by omega, h⟩
            clear hin
            go_wp2_with fail
            go_ret2
            exact ⟨_, by rw [HE.out]; rfl, by unfold mrowsOf; rw [HE.out, if_neg (by omega)]; exact OMat.nil _ _, HB.out⟩
      · have : k = l.length := by omega
        subst this
        have HE : Hid (mrowsE M l = 0) := by
          unfold mrowsE; rw [if_neg (not_not_intro HZ.out), if_neg h1, if_neg HN2.out, if_pos hq.out]; exact Lib.hid rfl
        go_wp2_with fail
        go_ret2
        exact ⟨_, by rw [HE.out]; rfl, by unfold mrowsOf; rw [HE.out, if_pos rfl]; exact HO.out, HB.out⟩
  · have hz' : (mcheck M != 0) = true := by simp [hz]
    have HE : Hid (mrowsE M l = mcheck M) := by unfold mrowsE; rw [if_pos hz]; exact Lib.hid rfl
    have HZ := Lib.hid hz
    clear hz
    go_enter Try.func12, Try.ntmps12
    go_wp2_with (go_at_call 37; refine (mcheck_calls _ M _ HM.out).mono ?_; rintro e w1 ⟨rfl, rfl⟩)
    go_ret2
    exact ⟨_, by rw [HE.out]; rfl, by unfold mrowsOf; rw [HE.out, if_neg HZ.out]; exact OMat.nil _ _, Below.refl _ _⟩
end Go.Proofs.Ytphehfllcmbpkaa
