/- The contracts of package code, sixth part: Rebuild. No condition. -/
import Derived.Test.YtphehfllcmbpkaaCodeE
namespace Go.Proofs.Ytphehfllcmbpkaa
open Go Go.RowKit GF
set_option maxRecDepth 100000
set_option maxHeartbeats 2000000
theorem indexInt_calls (v : Value) (l : List Int) (x : Int) (w : World) (h : RInts w v l) :
    Calls Try.prog 116 #[v, .int .i64 x] w fun e w' => w = w' ∧ ∃ r : Int, e = .returned (.int .i64 r) ∧ IdxSpec (fun j => decide (x = ni l j)) l.length r := by
  obtain ⟨a, cap, rfl, h1, h2, hx⟩ := h.open
  have HX := Lib.hid hx
  unfold maxLen at h2
  clear h hx
  go_enter Try.func116, Try.ntmps116
  go_wp2_with fail
  go_loop [8] (fun y => ∃ k : Nat, k ≤ l.length ∧ y = .int .i64 k ∧ Hid (∀ j, j < k → decide (x = ni l j) = false)) (fun y => l.length - (intOf y).toNat)
  case atStart => exact ⟨0, by omega, rfl, fun j hj => by omega⟩
  case round =>
    obtain ⟨k, hk, rfl, hq⟩ := hrel
    by_cases hlt : k < l.length
    · obtain ⟨b, off, rfl, hce⟩ := HX.out (by omega)
      have h3 := hce k hlt
      clear hce
      by_cases he : x = ni l k
      · have HE : Hid (decide (x = ni l k) = true) := Lib.hid (decide_eq_true he)
        have he' : (x == ni l k) = true := by rw [beq_iff_eq]; exact he
        clear he
        go_wp2_with fail
        go_ret
        exact ⟨rfl, _, rfl, .inl ⟨k, hlt, rfl, HE.out, hq.out⟩⟩
      · have HE : Hid (decide (x = ni l k) = false) := Lib.hid (decide_eq_false he)
        have he' : (x == ni l k) = false := by rw [beq_eq_false_iff_ne]; exact he
        clear he
        go_wp2_with fail
        go_round
        case rel =>
          refine ⟨k+1, by omega, by go_num, fun j hj => ?_⟩
          by_cases e : j = k
          · subst e; exact HE.out
          · exact hq.out j (by omega)
        case measure => simp [intOf]; omega
    · have : k = l.length := by omega
      subst this
      go_wp2_with fail
      go_ret
      exact ⟨rfl, _, rfl, .inr ⟨rfl, hq.out⟩⟩
theorem hasInt_calls (v : Value) (l : List Int) (x : Int) (w : World) (h : RInts w v l) :
    Calls Try.prog 99 #[v, .int .i64 x] w fun e w' => w = w' ∧ e = .returned (.bool (someAt (fun j => decide (x = ni l j)) l.length)) := by
  have HR := Lib.hid h
  clear h
  go_enter Try.func99, Try.ntmps99
  go_wp2_with (go_at_call 116; refine (indexInt_calls _ l x _ HR.out).mono ?_; rintro e w1 ⟨rfl, r, rfl, hix⟩; have HI := Lib.hid hix; clear hix)
  go_ret
  exact ⟨rfl, by rw [← someAt_of HI.out]; rfl⟩
theorem RInts.take {w a l cap} (h : RInts w (.slice a l.length cap) l) {n : Nat} (hn : n ≤ l.length) : RInts w (.slice a n cap) (l.take n) := by
  obtain ⟨⟨a', n', c', he, hl, hc, hm, hno, hce⟩, hs⟩ := h
  simp only [Value.slice.injEq] at he
  obtain ⟨rfl, rfl, rfl⟩ := he
  refine ⟨⟨_, _, _, rfl, by simp; omega, by omega, hm, fun h => ⟨by have := (hno h).1; omega, (hno h).2⟩, fun ad had => ⟨fun h => (hce ad had).1 (by omega), fun j u hu => (hce ad had).2 j u ?_⟩⟩, fun s hs' => hs s (List.mem_of_mem_take hs')⟩
  rw [List.map_take, List.getElem?_take] at hu
  split at hu
  · exact hu
  · simp at hu
def rbAll (many more : Nat) : List (List UInt8) := tab many many unitE ++ tab more many (cauE more)
def rbRows (many more : Nat) (l : List Int) : List (List UInt8) := (List.range l.length).map fun k => (rbAll many more).getD (ni l k).toNat []
theorem rbAll_len (many more) : (rbAll many more).length = many + more := by simp [rbAll, tab_len]
theorem oneCell_rows {S : Nat → Prop} {w : World} {vs : List Value} {M : List (List UInt8)} (h : ∀ (i : Nat) (r : List UInt8), M[i]? = some r → ∃ u, vs[i]? = some u ∧ OBytes S w u r) (hl : vs.length = M.length) : ∀ u ∈ vs, u.oneCell' = true := by
  intro u hu
  obtain ⟨i, hi, rfl⟩ := List.getElem_of_mem hu
  obtain ⟨u', hu', ho⟩ := h i _ (List.getElem?_eq_getElem (by omega))
  rw [List.getElem?_eq_getElem hi] at hu'
  obtain rfl := Option.some.inj hu'
  obtain ⟨a, n, c, h1, _⟩ := ho.rd
  rw [h1]; rfl
theorem rowsOf_calls (many more : Nat) (h1 : 1 ≤ many) (h2 : many ≤ 8) (h3 : 1 ≤ more) (h4 : more ≤ 6) (v : Value) (l : List Int) (w : World) (h : RInts w v l) (hl : l.length ≤ 1000) (hr : ∀ k, k < l.length → 0 ≤ ni l k ∧ ni l k < many + more) :
    Calls Try.prog 100 #[.int .i64 many, .int .i64 more, v] w fun e w' => ∃ x, e = .returned x ∧ RMat w' x (rbRows many more l) ∧ Below w.heap.size w w' := by
  obtain ⟨a, cap, rfl, hc, hcm, hx⟩ := h.open
  have HX := Lib.hid hx
  have HR := Lib.hid hr
  unfold maxLen at hcm
  clear h hx hr
  go_enter Try.func100, Try.ntmps100
  go_wp2_with (first | (go_at_call 53; refine (Unit_yes many (by omega) (by omega) _).mono ?_; rintro e w1 ⟨x1, rfl, ho, hb⟩; obtain ⟨vs1, n1, n2, -, n4⟩ := ho.ex; have N1 := Lib.hid n1; have N2 := Lib.hid n2; have N4 := Lib.hid n4; have HB1 := Lib.hid hb; clear ho hb n1 n2 n4) | (go_at_call 47; refine (Cauchy_yes more many (by omega) (by omega) (by omega) (by omega) _).mono ?_; rintro e w2 ⟨x2, rfl, ho, hb⟩; obtain ⟨vs2, m1, m2, -, -⟩ := ho.ex; have M1 := Lib.hid m1; have M2 := Lib.hid m2; have HB2 := Lib.hid hb; clear ho hb m1 m2) | (at_builtin; refine wpList_app rfl (.tmp 26) (.tmp 27) 22 rfl 25 _ 1 24 Try.underlying22 info_bytes rfl (by decide) (fun k => w.heap.size ≤ k) _ many vs1 rfl (by have h := Own.grow N1.out HB2.out; rw [tab_len] at h; exact h) _ more vs2 rfl M1.out.rds (by have h := M1.out.len; rw [tab_len] at h; exact h) (oneCell_rows M2.out (by have h := M1.out.len; rw [tab_len] at h ⊢; omega)) (by unfold maxLen; omega) (by omega) ?_; intro v' w' hown hkp; have HON := Lib.hid hown; have HKP := Lib.hid hkp; clear hown hkp))
  have e1 : vs1.length = many := by have h := N1.out.len; rw [tab_len] at h; omega
  have e2 : vs2.length = more := by have h := M1.out.len; rw [tab_len] at h; omega
  have HBA : Hid (Below w.heap.size w w') := by
    have h1 := HB1.out.size
    have h2 := HB2.out.size
    exact HB1.out.trans ((HB2.out.mono h1).trans ⟨HKP.out.os, HKP.out.tape, HKP.out.output, HKP.out.size, fun k hk => HKP.out.block k (by omega) (fun h => by have := N1.out.2 k h; simp at this; omega)⟩)
  have HALL : Hid (∀ (i : Nat), i < many + more → ∃ u, (vs1 ++ vs2)[i]? = some u ∧ RBytes w' u ((rbAll many more).getD i [])) := by
    refine Lib.hid fun i hi => ?_
    unfold rbAll
    by_cases h : i < many
    · obtain ⟨u, hu, ho⟩ := N2.out i ((tab many many unitE).getD i []) (by simp [List.getD, tab_len, h])
      refine ⟨u, by rw [List.getElem?_append_left (by omega)]; exact hu, ?_⟩
      rw [show (tab many many unitE ++ tab more many (cauE more)).getD i [] = (tab many many unitE).getD i [] by simp only [List.getD]; rw [List.getElem?_append_left (by rw [tab_len]; exact h)]]
      exact (Own.keep (Own.grow ho HB2.out) HKP.out (fun g hg => N4.out i u g hu hg)).rds
    · obtain ⟨u, hu, ho⟩ := M2.out (i - many) ((tab more many (cauE more)).getD (i - many) []) (by simp [List.getD, tab_len, show i - many < more by omega])
      refine ⟨u, by rw [List.getElem?_append_right (by omega), e1]; exact hu, ?_⟩
      rw [show (tab many many unitE ++ tab more many (cauE more)).getD i [] = (tab more many (cauE more)).getD (i - many) [] by simp only [List.getD]; rw [List.getElem?_append_right (by rw [tab_len]; omega), tab_len]]
      exact (Own.keep ho HKP.out (fun g hg h' => by
        have h1 := ho.2 g hg
        have h2 := N1.out.lt h'
        simp at h1; omega)).rds
  rcases HON.out.shape with ⟨_, h0, _⟩ | ⟨g, cg, rfl, hSg, hg, hgc, hgm, hcell, _⟩
  · omega
  have HC := Lib.hid hcell
  unfold maxLen at hgm
  clear hcell hSg HON HKP M2 N2 N4 M1 HB1 HB2 N1 e1 e2
  go_loopw [31, 12] (fun x y wr => ∃ (k : Nat) (vs : List Value), k ≤ l.length ∧ x = .int .i64 k ∧ Own (fun b => w'.heap.size ≤ b) wr 25 1 y k vs ∧ Below w'.heap.size w' wr ∧ Hid (vs.length = k) ∧ Hid (∀ j, j < k → ∃ u, vs[j]? = some u ∧ RBytes w' u ((rbAll many more).getD (ni l j).toNat []))) (fun x _ _ => l.length - (intOf x).toNat)
  case atStart => exact ⟨0, [], by omega, rfl, ⟨World.ownsRow_nil _ 0 _ 1, fun g hg => by simp [Value.ownBlock] at hg⟩, Below.refl _ _, Lib.hid rfl, fun j hj => by omega⟩
  case round =>
    obtain ⟨k, vs, hk, rfl, ho, hb, hvl, hq⟩ := hrel
    have HO := Lib.hid ho
    have HB := Lib.hid hb
    clear ho hb
    by_cases hlt : k < l.length
    · obtain ⟨b, off, rfl, hce⟩ := HX.out (by omega)
      have h3 := hce k hlt
      have hcp := ((HBA.out.trans (HB.out.mono HBA.out.size)).cell (p := ⟨b, off + k, none⟩) (block_lt h3)).trans h3
      obtain ⟨hr0, hr1⟩ := HR.out k hlt
      obtain ⟨i, hi⟩ := Int.eq_ofNat_of_zero_le hr0
      have HI := Lib.hid hi
      rw [hi] at hcp hr1
      obtain ⟨u, hu, hru⟩ := HALL.out i (by omega)
      have hcu : wr.cell? ⟨g, i, none⟩ = some u := by
        rw [HB.out.cell (p := ⟨g, i, none⟩) hg, HC.out i (by omega)]; exact hu
      have HRU := Lib.hid hru
      have him : i < many + more := by omega
      obtain ⟨au, nu, cu, rfl, _⟩ := hru
      clear hce h3 hi hu hr0
      go_wp2_with (at_builtin; refine wpList_app rfl (.tmp 35) (.tmp 40) 22 rfl 25 _ 1 24 Try.underlying22 info_bytes rfl (by decide) (fun b => w'.heap.size ≤ b) _ k vs rfl (Own.grow HO.out ((Below.refl _ wr).alloc (Nat.le_refl _) _)) _ 1 [.slice au nu cu] rfl ⟨_, 1, 1, rfl, rfl, by omega, by unfold maxLen; omega, fun h => by simp at h, by rintro ad ⟨⟩; exact ⟨fun _ => rfl, fun j u hu => by cases j <;> simp at hu ⊢; exact hu⟩⟩ rfl (by intro u hu; simp at hu; subst hu; rfl) (by unfold maxLen; omega) (by omega) ?_; intro v2 w3 hown hkp; have HON := Lib.hid hown; have HKP := Lib.hid hkp; clear hown hkp)
      go_roundw
      case rel =>
        have hsz := HB.out.size
        refine ⟨k + 1, vs ++ [.slice au nu cu], by omega, by go_num, HON.out.mono ?_, HB.out.trans (((Below.refl _ wr).alloc hsz _).trans ⟨HKP.out.os, HKP.out.tape, HKP.out.output, HKP.out.size, fun k hk => HKP.out.block k (by simp; omega) (fun h => by have := HO.out.2 k h; omega)⟩), ?_, ?_⟩
        · intro b hb
          rcases hb with h | h
          · exact HO.out.2 b h
          · simp at h; omega
        · exact Lib.hid (by simp [hvl.out])
        · refine Lib.hid fun j hj => ?_
          by_cases e : j < k
          · obtain ⟨u, hu, hru⟩ := hq.out j e
            exact ⟨u, by rw [List.getElem?_append_left (by rw [hvl.out]; exact e)]; exact hu, hru⟩
          · have : j = k := by omega
            subst this
            refine ⟨.slice au nu cu, by rw [List.getElem?_append_right (by rw [hvl.out]; omega), hvl.out]; simp, ?_⟩
            rw [HI.out]; exact HRU.out
      case measure => simp [intOf]; omega
    · have : k = l.length := by omega
      subst this
      go_wp2_with fail
      go_ret
      refine ⟨_, rfl, ⟨vs, by rw [hvl.out]; simp [rbRows], HO.out.rds, fun i r hr => ?_⟩, HBA.out.trans (HB.out.mono HBA.out.size)⟩
      have hi : i < l.length := by have := (List.getElem?_eq_some_iff.1 hr).1; simpa [rbRows] using this
      obtain ⟨u, hu, hru⟩ := hq.out i hi
      refine ⟨u, hu, ?_⟩
      have : (rbAll many more).getD (ni l i).toNat [] = r := by
        simp [rbRows, hi] at hr; simpa [List.getD] using hr
      rw [← this]; exact RBytes.below hru HB.out
end Go.Proofs.Ytphehfllcmbpkaa
