/- RestMatrices, the walk. No condition beyond the arguments' own sizes. -/
import Derived.Test.YtphehfllcmbpkaaScr
namespace Go.Proofs.Ytphehfllcmbpkaa
open Go Go.RowKit GF
set_option maxRecDepth 100000
set_option maxHeartbeats 2000000
theorem wpList_makeS {P : Program} {w : World} {ops : Array Oper} {rest : List Oper} {o : Oper} {a : Act} {Q : Exit → Act → World → Prop} (hP : P = Try.prog)
    (hg : o.guard = none) (l c : Operand) (hop : o.op = Op.makeSlice 24 l c) (C : Int) (n : Nat) (hl : a.eval l = .int .i64 0) (hc : a.eval c = .int .i64 C) (hC : C = (n : Int)) (b2 : n * 16 ≤ 281474976710656)
    (hK : ∀ w', OStrs (fun k => w.heap.size ≤ k) w' (.slice (some ⟨w.heap.size, 0, none⟩) 0 n) [] → Below w.heap.size w w' → wpList P ops Q rest (a.put o.dst (.slice (some ⟨w.heap.size, 0, none⟩) 0 n)) w') :
    wpList P ops Q (o :: rest) a w := by
  subst hP
  obtain ⟨i, hi, hz0, hz1, hz2⟩ := info_parts (info_string)
  refine wpList_make_own w hg l c 24 hop w.heap.size 9 i _ 1 Try.underlying24 hi hz0 hz1 .i64 .i64 C n hl hc hC (by rw [hz2]; omega) (by unfold maxLen; omega) (Nat.le_refl _) fun w' hown hgr => ?_
  exact hK w' ⟨Own.of hown fun g hg _ => hg, by simp⟩ ((Below.refl _ _).grown hgr (Nat.le_refl _) (by intro k hk; cases hk))
theorem take_succ {A : List (List UInt8)} {k : Nat} (h : k < A.length) : A.take (k + 1) = A.take k ++ [A.getD k []] := by
  rw [List.take_succ_eq_append_getElem h]; simp [List.getD, h]
theorem take_len {A : List (List UInt8)} {k : Nat} (h : k ≤ A.length) : (A.take k).length = k := by rw [List.length_take]; omega
theorem grow_ge {w w3 : World} {n c k : Nat} (hs : w.heap.size ≤ w3.heap.size) (h : (Value.slice (some ⟨w.heap.size, 0, none⟩) n c).ownBlock = some k ∨ w3.heap.size ≤ k) : w.heap.size ≤ k := by
  rcases h with h | h
  · have : w.heap.size = k := by simpa [Value.ownBlock] using h
    omega
  · omega
theorem Wr.up {K S w v} (h : Wr K S w v) (o : Obj) : Wr K S (w.alloc o) v := by
  obtain ⟨a, n, cap, h1, h2, h3, h4⟩ := h
  refine ⟨a, n, cap, h1, h2, h3, fun h0 => ?_⟩
  obtain ⟨b, off, h5, h6, h7⟩ := h4 h0
  refine ⟨b, off, h5, h6, fun j hj => ?_⟩
  obtain ⟨⟨u, hu, hk⟩, hf⟩ := h7 j hj
  have hb := (Below.refl w.heap.size w).alloc (Nat.le_refl _) o
  exact ⟨⟨u, (hb.cell (p := ⟨b, off + j, none⟩) (block_lt hu)).trans hu, hk⟩, (hb.frozen (p := ⟨b, off + j, none⟩) (block_lt hu)).trans hf⟩
theorem three (w : World) (T : TypeId) (u0 u1 u2 : Value) (k : Nat) (h : k < 3) : ∃ u, (w.alloc (.cells #[u0, u1, u2] T)).cell? ⟨w.heap.size, k, none⟩ = some u ∧ (u = u0 ∨ u = u1 ∨ u = u2) := by
  match k, h with
  | 0, _ => exact ⟨u0, by simp, .inl rfl⟩
  | 1, _ => exact ⟨u1, by simp, .inr (.inl rfl)⟩
  | 2, _ => exact ⟨u2, by simp, .inr (.inr rfl)⟩
theorem two (w : World) (T : TypeId) (u0 u1 : Value) (k : Nat) (h : k < 2) : ∃ u, (w.alloc (.cells #[u0, u1] T)).cell? ⟨w.heap.size, k, none⟩ = some u ∧ (u = u0 ∨ u = u1) := by
  match k, h with
  | 0, _ => exact ⟨u0, by simp, .inl rfl⟩
  | 1, _ => exact ⟨u1, by simp, .inr rfl⟩
theorem Wm.noByte {S w v} (h : Wm S w v) : ¬ isByte v := by
  rintro ⟨x, rfl⟩
  obtain ⟨_, _, _, h, _⟩ := h
  simp at h
theorem Wr.noText {K S w v} (h : Wr K S w v) : ¬ isText v := by
  rintro ⟨x, rfl⟩
  obtain ⟨_, _, _, h, _⟩ := h
  simp at h
theorem Wr.sc2 {K K' : Value → Prop} {S T w w' v} (h : Wr K S w v) (hs : Sc K' T w w') (hd : ∀ u, K u → ¬ K' u) : Wr K S w' v := by
  obtain ⟨a, n, cap, h1, h2, h3, h4⟩ := h
  refine ⟨a, n, cap, h1, h2, h3, fun h0 => ?_⟩
  obtain ⟨b, off, h5, h6, h7⟩ := h4 h0
  refine ⟨b, off, h5, h6, fun j hj => ?_⟩
  obtain ⟨⟨u, hu, hk⟩, hf⟩ := h7 j hj
  exact ⟨⟨u, hs.same _ _ hu (hd u hk), hk⟩, by rw [hs.frz]; exact hf⟩
theorem textNoByte : ∀ u, isText u → ¬ isByte u := by
  rintro u ⟨s, rfl⟩ ⟨x, h⟩
  simp at h
theorem Sc.below {K : Value → Prop} {w w' : World} {m : Nat} (h : Sc K (fun k => m ≤ k) w w') (hm : m ≤ w.heap.size) : Below m w w' := Below.ofKp h.kp (fun _ h => h) hm
/-- the arguments of RestMatrices are no longer than they may be -/
structure RestFits (A C : List (List UInt8)) (data : List (List UInt8)) : Prop where
  a : A.length * 24 ≤ 140737488355328
  c : C.length * 24 ≤ 140737488355328
  ar : ∀ k, (A.getD k []).length ≤ 140737488355328
  cr : ∀ k, (C.getD k []).length ≤ 140737488355328
  d : (data.length + 1) * 16 ≤ 140737488355328
theorem rest_calls (va vc vi vd : Value) (A C : List (List UInt8)) (at_ : List Int) (data : List (List UInt8)) (more : Int) (w : World) (ha : RMat w va A) (hc : RMat w vc C) (hi : RInts w vi at_) (hd : RStrs w vd data) (hf : RestFits A C data) :
    Calls Try.prog 3 #[va, vc, vi, vd, .int .i64 more] w fun e w' => e = .returned (.bool true) ∧ Below w.heap.size w w' := by
  have HA := Lib.hid ha
  have HC := Lib.hid hc
  have HI := Lib.hid hi
  have HD := Lib.hid hd
  have HFAR := Lib.hid hf.ar
  have HFCR := Lib.hid hf.cr
  have hfa := hf.a
  have hfc := hf.c
  have hfd := hf.d
  obtain ⟨aa, ca, rfl, ha1, ha2, hax⟩ := ha.open
  obtain ⟨ac, cc, rfl, hc1, hc2, hcx⟩ := hc.open
  obtain ⟨ad, cd, rfl, hd1, hd2, hdx⟩ := hd.open
  have HAX := Lib.hid hax
  have HCX := Lib.hid hcx
  unfold maxLen at ha2 hc2 hd2
  clear ha hc hi hd hf hax hcx hdx
  go_enter Try.func3, Try.ntmps3
  go_wp2_with fail
  go_loopw [13, 11] (fun x y wr => ∃ k : Nat, k ≤ A.length ∧ x = .int .i64 k ∧ OMat (fun b => w.heap.size ≤ b) wr y (A.take k) ∧ Below w.heap.size w wr) (fun x _ _ => A.length - (intOf x).toNat)
  case atStart => exact ⟨0, by omega, rfl, OMat.nil _ _, Below.refl _ _⟩
  case' round =>
    obtain ⟨k, hk, rfl, ho, hb⟩ := hrel
    have HO := Lib.hid ho
    have HB := Lib.hid hb
    clear ho hb
    by_cases hlt : k < A.length
  case' pos =>
      obtain ⟨bm, om, rfl, hrow⟩ := HAX.out (by omega)
      obtain ⟨u, hu, hbr⟩ := hrow k (A.getD k []) (by simp [List.getD, hlt])
      have hcu := (HB.out.cell (p := ⟨bm, om + k, none⟩) (block_lt hu)).trans hu
      have HBR := Lib.hid (hbr.below HB.out)
      obtain ⟨ar, cr, rfl, hr1, hr2, -⟩ := hbr.open
      have hcu2 := fun o => (((Below.refl _ wr).alloc (Nat.le_refl _) o).cell (p := ⟨bm, om + k, none⟩) (block_lt hcu)).trans hcu
      have hlr := HFAR.out k
      generalize hr : A.getD k [] = r at *
      have HR := Lib.hid hr
      obtain ⟨vs, n1, n2, n3, n4⟩ := HO.out.ex
      have hvl := n1.len
      rw [take_len hk] at n1 hvl
      simp only [Nat.mul_one] at hvl
      have HV := Lib.hid hvl
      have N1 := Lib.hid n1
      have N2 := Lib.hid n2
      have N3 := Lib.hid n3
      have N4 := Lib.hid n4
      unfold maxLen at hr2
      clear hrow hu hbr hr hvl n1 n2 n3 n4 hcu
      go_wp2_with (first | (at_builtin; go_loud (refine wpList_app rfl (.tmp 39) (.tmp 43) 25 rfl 5 _ 1 1 Try.underlying25 info_u8 rfl (by decide) (fun k => wr.heap.size ≤ k) _ 0 [] rfl (Own.of (World.ownsRow_lit (size := 1) wr #[] 0 (Nat.le_refl _) (Nat.zero_le _) rfl) (fun g hg _ => hg)) _ r.length (r.map bv) rfl (Rds.below HBR.out ((Below.refl _ _).alloc (Nat.le_refl _) _)) (by simp) (oneCell_bv r) (by unfold maxLen; omega) (by omega) ?_; intro v2 w2 hown hkp; have hox : OBytes (fun k => wr.heap.size ≤ k) w2 v2 r := (by unfold OBytes; rw [Nat.zero_add] at hown; exact hown.mono fun k hk => own_ge hk); have hbx := below_app hkp; obtain ⟨ax, cx, rfl, hcx, hmx, -⟩ := hox.rd.open; have HOX := Lib.hid hox; have HBX := Lib.hid hbx; unfold maxLen at hmx; clear hown hkp hox hbx)) | (at_builtin; refine wpList_app rfl (.tmp 38) (.tmp 45) 22 rfl 25 _ 1 24 Try.underlying22 info_bytes rfl (by decide) _ _ k vs rfl ((N1.out.grow HBX.out).grow ((Below.refl _ w2).alloc (Nat.le_refl _) _)) _ 1 [.slice ax r.length cx] rfl ⟨_, 1, 1, rfl, rfl, by omega, by unfold maxLen; omega, fun h => by simp at h, by rintro ad ⟨⟩; exact ⟨fun _ => rfl, fun j u hu => by cases j <;> simp at hu ⊢; exact hu⟩⟩ rfl (by intro u hu; simp at hu; subst hu; rfl) (by unfold maxLen; omega) (by omega) ?_; intro v' w' hown hkp; have HON := Lib.hid hown; have HKP := Lib.hid hkp; clear hown hkp))
      go_roundw
      case rel =>
        refine ⟨k + 1, by omega, by go_num, ?_, ?_⟩
        · rw [take_succ hlt, HR.out]
          have hsz := HBX.out.size
          refine OMat.snoc rfl (fun i r hr => let ⟨u, hu, ho⟩ := N2.out i r hr; ⟨u, hu, Own.grow (Own.grow ho HBX.out) ((Below.refl _ w2).alloc (Nat.le_refl _) _)⟩) N3.out (fun i u g hu hg => ⟨N4.out i u g hu hg, ?_⟩) (by rw [take_len hk]; exact HV.out) ?_ ?_ (by rw [take_len hk]; exact HON.out) HKP.out ?_
          · have := rowsLt N2.out (by rw [take_len hk]; exact HV.out) i u g hu hg
            simp; omega
          · exact (Own.grow HOX.out ((Below.refl _ w2).alloc (Nat.le_refl _) _)).mono fun k hk => Nat.le_trans HB.out.size hk
          · intro g hg
            have hge := HOX.out.2 g hg
            refine ⟨fun j x hx hgx => ?_, fun hgv => ?_⟩
            · have := rowsLt N2.out (by rw [take_len hk]; exact HV.out) j x g hx hgx
              omega
            · have := N1.out.lt hgv
              omega
          · intro k hk
            rcases hk with h | h
            · exact N1.out.2 k h
            · have := HB.out.size
              simp at h; omega
        · have hsz := HBX.out.size
          have hsz2 := HB.out.size
          refine HB.out.trans ((HBX.out.mono hsz2).trans (((Below.refl _ w2).alloc (Nat.le_trans hsz2 hsz) _).trans ⟨HKP.out.os, HKP.out.tape, HKP.out.output, HKP.out.size, fun k hk => HKP.out.block k (by simp; omega) (fun h => by have := N1.out.2 k h; omega)⟩))
      case measure => simp [intOf]; omega
  have hke : k = A.length := by omega
  subst hke
  obtain ⟨w1, rfl⟩ : ∃ w1 : World, w1 = wr := ⟨_, rfl⟩
  obtain ⟨vx, rfl⟩ : ∃ vx : Value, vx = u11 := ⟨_, rfl⟩
  have HX1 : Hid (OMat (fun b => w.heap.size ≤ b) w1 vx A) := by have := HO.out; rw [List.take_length] at this; exact Lib.hid this
  have HCX1 : Hid (0 < C.length → ∃ b off, ac = some ⟨b, off, none⟩ ∧ ∀ (i : Nat) (r : List UInt8), C[i]? = some r → ∃ u, w1.cell? ⟨b, off + i, none⟩ = some u ∧ RBytes w1 u r) :=
    Lib.hid fun h0 => let ⟨b, off, e, hr⟩ := HCX.out h0; ⟨b, off, e, fun i r hi => let ⟨u, hu, hb⟩ := hr i r hi; ⟨u, (HB.out.cell (p := ⟨b, off + i, none⟩) (block_lt hu)).trans hu, hb.below HB.out⟩⟩
  have HB1 := HB
  clear HO HB HCX HAX
  go_wp2_with fail
  go_loopw [14, 12] (fun x y wr => ∃ k : Nat, k ≤ C.length ∧ x = .int .i64 k ∧ OMat (fun b => w1.heap.size ≤ b) wr y (C.take k) ∧ Below w1.heap.size w1 wr) (fun x _ _ => C.length - (intOf x).toNat)
  case atStart => exact ⟨0, by omega, rfl, OMat.nil _ _, Below.refl _ _⟩
  case' round =>
    obtain ⟨k, hk, rfl, ho, hb⟩ := hrel
    have HO := Lib.hid ho
    have HB := Lib.hid hb
    clear ho hb
    by_cases hlt : k < C.length
  case' pos =>
      obtain ⟨bm, om, rfl, hrow⟩ := HCX1.out (by omega)
      obtain ⟨u, hu, hbr⟩ := hrow k (C.getD k []) (by simp [List.getD, hlt])
      have hcu := (HB.out.cell (p := ⟨bm, om + k, none⟩) (block_lt hu)).trans hu
      have HBR := Lib.hid (hbr.below HB.out)
      obtain ⟨ar, cr, rfl, hr1, hr2, -⟩ := hbr.open
      have hcu2 := fun o => (((Below.refl _ wr).alloc (Nat.le_refl _) o).cell (p := ⟨bm, om + k, none⟩) (block_lt hcu)).trans hcu
      have hlr := HFCR.out k
      generalize hr : C.getD k [] = r at *
      have HR := Lib.hid hr
      obtain ⟨vs, n1, n2, n3, n4⟩ := HO.out.ex
      have hvl := n1.len
      rw [take_len hk] at n1 hvl
      simp only [Nat.mul_one] at hvl
      have HV := Lib.hid hvl
      have N1 := Lib.hid n1
      have N2 := Lib.hid n2
      have N3 := Lib.hid n3
      have N4 := Lib.hid n4
      unfold maxLen at hr2
      clear hrow hu hbr hr hvl n1 n2 n3 n4 hcu
      go_wp2_with (first | (at_builtin; go_loud (refine wpList_app rfl (.tmp 54) (.tmp 58) 25 rfl 5 _ 1 1 Try.underlying25 info_u8 rfl (by decide) (fun k => wr.heap.size ≤ k) _ 0 [] rfl (Own.of (World.ownsRow_lit (size := 1) wr #[] 0 (Nat.le_refl _) (Nat.zero_le _) rfl) (fun g hg _ => hg)) _ r.length (r.map bv) rfl (Rds.below HBR.out ((Below.refl _ _).alloc (Nat.le_refl _) _)) (by simp) (oneCell_bv r) (by unfold maxLen; omega) (by omega) ?_; intro v2 w2 hown hkp; have hox : OBytes (fun k => wr.heap.size ≤ k) w2 v2 r := (by unfold OBytes; rw [Nat.zero_add] at hown; exact hown.mono fun k hk => own_ge hk); have hbx := below_app hkp; obtain ⟨ax, cx, rfl, hcx, hmx, -⟩ := hox.rd.open; have HOX := Lib.hid hox; have HBX := Lib.hid hbx; unfold maxLen at hmx; clear hown hkp hox hbx)) | (at_builtin; refine wpList_app rfl (.tmp 53) (.tmp 60) 22 rfl 25 _ 1 24 Try.underlying22 info_bytes rfl (by decide) _ _ k vs rfl ((N1.out.grow HBX.out).grow ((Below.refl _ w2).alloc (Nat.le_refl _) _)) _ 1 [.slice ax r.length cx] rfl ⟨_, 1, 1, rfl, rfl, by omega, by unfold maxLen; omega, fun h => by simp at h, by rintro ad ⟨⟩; exact ⟨fun _ => rfl, fun j u hu => by cases j <;> simp at hu ⊢; exact hu⟩⟩ rfl (by intro u hu; simp at hu; subst hu; rfl) (by unfold maxLen; omega) (by omega) ?_; intro v' w' hown hkp; have HON := Lib.hid hown; have HKP := Lib.hid hkp; clear hown hkp))
      go_roundw
      case rel =>
        refine ⟨k + 1, by omega, by go_num, ?_, ?_⟩
        · rw [take_succ hlt, HR.out]
          have hsz := HBX.out.size
          refine OMat.snoc rfl (fun i r hr => let ⟨u, hu, ho⟩ := N2.out i r hr; ⟨u, hu, Own.grow (Own.grow ho HBX.out) ((Below.refl _ w2).alloc (Nat.le_refl _) _)⟩) N3.out (fun i u g hu hg => ⟨N4.out i u g hu hg, ?_⟩) (by rw [take_len hk]; exact HV.out) ?_ ?_ (by rw [take_len hk]; exact HON.out) HKP.out ?_
          · have := rowsLt N2.out (by rw [take_len hk]; exact HV.out) i u g hu hg
            simp; omega
          · exact (Own.grow HOX.out ((Below.refl _ w2).alloc (Nat.le_refl _) _)).mono fun k hk => Nat.le_trans HB.out.size hk
          · intro g hg
            have hge := HOX.out.2 g hg
            refine ⟨fun j x hx hgx => ?_, fun hgv => ?_⟩
            · have := rowsLt N2.out (by rw [take_len hk]; exact HV.out) j x g hx hgx
              omega
            · have := N1.out.lt hgv
              omega
          · intro k hk
            rcases hk with h | h
            · exact N1.out.2 k h
            · have := HB.out.size
              simp at h; omega
        · have hsz := HBX.out.size
          have hsz2 := HB.out.size
          refine HB.out.trans ((HBX.out.mono hsz2).trans (((Below.refl _ w2).alloc (Nat.le_trans hsz2 hsz) _).trans ⟨HKP.out.os, HKP.out.tape, HKP.out.output, HKP.out.size, fun k hk => HKP.out.block k (by simp; omega) (fun h => by have := N1.out.2 k h; omega)⟩))
      case measure => simp [intOf]; omega
  have hke : k = C.length := by omega
  subst hke
  obtain ⟨w2, rfl⟩ : ∃ w2 : World, w2 = wr := ⟨_, rfl⟩
  obtain ⟨vy, rfl⟩ : ∃ vy : Value, vy = u12 := ⟨_, rfl⟩
  have HY2 : Hid (OMat (fun b => w.heap.size ≤ b) w2 vy C) := by
    have := HO.out; rw [List.take_length] at this; exact Lib.hid (this.mono fun k hk => Nat.le_trans HB1.out.size hk)
  have HX2 := Lib.hid (HX1.out.grow HB.out)
  have HB2 := Lib.hid (HB1.out.trans (HB.out.mono HB1.out.size))
  clear HO HB HCX1 HX1 HB1
  go_wp2_with (first | (at_make; refine wpList_makeS rfl rfl _ _ rfl _ (data.length + 1) rfl rfl (by omega) (by omega) ?_; intro w3 ho3 hb3; have HO3 := Lib.hid ho3; have HB3 := Lib.hid hb3; clear ho3 hb3) | (at_builtin; refine wpList_appS rfl (.tmp 65) (.tmp 66) rfl rfl (fun k => w2.heap.size ≤ k) (Value.slice (some ⟨w2.heap.size, 0, none⟩) 0 (data.length + 1)) [] rfl HO3.out _ data rfl (HD.out.below (HB2.out.trans (HB3.out.mono HB2.out.size))) (by simp only [List.length_nil]; omega) ?_; intro v4 w4 ho4 hk4; have HO4 : Hid (OStrs (fun k => w2.heap.size ≤ k) w4 v4 data) := ho4.mono (fun k hk => grow_ge HB3.out.size hk); have HB4 : Hid (Below w2.heap.size w2 w4) := HB3.out.trans (Below.ofKp hk4 (fun k hk => grow_ge HB3.out.size (.inl hk)) HB3.out.size); clear ho4 hk4) | (at_builtin; refine wpList_appS rfl (.tmp 67) (.tmp 68) rfl rfl (fun k => w2.heap.size ≤ k) _ data rfl (HO4.out.grow ((Below.refl _ _).alloc (Nat.le_refl _) _)) _ [[114, 111, 111, 109]] rfl (RStrs.lit _ _ _ 1 [[114, 111, 111, 109]] rfl rfl (by decide) (by decide)) (by simp only [List.length_singleton]; omega) ?_; intro v5 w5 ho5 hk5; have HT5 : Hid (OStrs (fun k => w2.heap.size ≤ k) w5 v5 (data ++ [[114, 111, 111, 109]])) := ho5.mono (fun k hk => by { rcases hk with h | h; exact HO4.out.1.2 k h; have := HB4.out.size; simp at h; omega }); have HB5 : Hid (Below w2.heap.size w2 w5) := HB4.out.trans (((Below.refl _ w4).alloc HB4.out.size _).trans (Below.ofKp hk5 (fun k hk => HO4.out.1.2 k hk) (by have := HB4.out.size; simp; omega))); obtain ⟨g5, c5, hv5, _, hg5, hc5, hm5, _, _⟩ := ho5.shape (by simp); rw [List.length_append, List.length_singleton] at hv5 hc5; subst hv5; unfold maxLen at hm5; clear ho5 hk5))
  have HX5 := Lib.hid (HX2.out.grow HB5.out).rd
  have HY5 := Lib.hid (HY2.out.grow HB5.out).rd
  have HTF : Hid (RStrs w5 (.slice (some ⟨g5, 0, none⟩) (data.length + 1) c5) (data ++ [[114, 111, 111, 109]])) := HT5.out.rd
  have HT : Hid (RStrs w5 (.slice (some ⟨g5, 0, none⟩) data.length c5) data) := by
    have h := HTF.out
    rw [show data.length + 1 = (data ++ [[114, 111, 111, 109]]).length by simp] at h
    have h2 := h.take (n := data.length) (by simp)
    rw [List.take_left] at h2; exact Lib.hid h2
  have HBB : Hid (Below w.heap.size w w5) := HB2.out.trans (HB5.out.mono HB2.out.size)
  clear HX2 HY2 HT5 HB5 HB4 HO4 HO3 HB3 HB2
  go_wp2_with (first | (go_at_call 10; refine (Mul_calls _ _ A C _ HX5.out HY5.out).mono ?_; rintro e w6 ⟨m, rfl, ho, hb⟩; obtain ⟨am, cm, rfl, -, -, -⟩ := ho.rd.open; have HM := Lib.hid ho; have HB6 := Lib.hid hb; clear ho hb) | (go_at_call 11; refine (Inverse_calls _ A _ (HX5.out.below HB6.out)).mono ?_; rintro e w7 ⟨n, rfl, ho, hb⟩; obtain ⟨an, cn, rfl, -, -, -⟩ := ho.rd.open; have HN := Lib.hid (ho.mono fun k hk => Nat.le_trans HB6.out.size hk); have HB7 := Lib.hid (HB6.out.trans (hb.mono HB6.out.size)); have HM7 := Lib.hid (HM.out.grow hb); clear ho hb HB6 HM) | (go_at_call 12; refine (Rows_calls _ _ A at_ _ (HX5.out.below HB7.out) (HI.out.below (HBB.out.trans (HB7.out.mono HBB.out.size)))).mono ?_; rintro e w8 ⟨r, rfl, ho, hb⟩; obtain ⟨ar, cr, rfl, -, -, -⟩ := ho.rd.open; have HR := Lib.hid (ho.mono fun k hk => Nat.le_trans HB7.out.size hk); have HB8 := Lib.hid (HB7.out.trans (hb.mono HB7.out.size)); have HM8 := Lib.hid (HM7.out.grow hb); have HN8 := Lib.hid (HN.out.grow hb); clear ho hb HB7 HM7 HN) | (go_at_call 13; refine (Rank_calls _ A _ (HX5.out.below HB8.out)).mono ?_; rintro e w9 ⟨rfl, hb⟩; have HB9 := Lib.hid (HB8.out.trans (hb.mono HB8.out.size)); have HC9 := Lib.hid hb; clear hb) | (go_at_call 14; refine (Encode_calls _ data more _ (HT.out.below HB9.out)).mono ?_; rintro e w10 ⟨l, rfl, ho, hb⟩; obtain ⟨al, cl, rfl, -, -, -⟩ := ho.rd.open; have HL := Lib.hid (ho.mono fun k hk => Nat.le_trans HB9.out.size hk); have HB10 := Lib.hid (HB9.out.trans (hb.mono HB9.out.size)); have HC10 := Lib.hid (HC9.out.trans (hb.mono HC9.out.size)); clear ho hb HB9 HC9) | (go_at_call 15; refine (Verify_calls _ data more _ (HT.out.below HB10.out)).mono ?_; rintro e w11 ⟨rfl, hb⟩; have HB11 := Lib.hid (HB10.out.trans (hb.mono HB10.out.size)); have HC11 := Lib.hid (HC10.out.trans (hb.mono HC10.out.size)); have HL11 := Lib.hid (HL.out.grow hb); clear hb HB10 HC10 HL) | (go_at_call 16; refine (Change_calls 0 1 [97] [98] _ data _ (HT.out.below HB11.out) (by decide) (by decide)).mono ?_; rintro e w12 ⟨c, rfl, ho, hb⟩; obtain ⟨ag, cg, rfl, -, -, -⟩ := ho.rd.open; have HG := Lib.hid (ho.mono fun k hk => Nat.le_trans HB11.out.size hk); have HB12 := Lib.hid (HB11.out.trans (hb.mono HB11.out.size)); have HC12 := Lib.hid (HC11.out.trans (hb.mono HC11.out.size)); have HL12 := Lib.hid (HL11.out.grow hb); clear ho hb HB11 HC11 HL11) | (go_at_call 17; refine (matrixBegun_calls _).mono ?_; rintro e w13 ⟨rfl, hb⟩; have HB13 := Lib.hid (HB12.out.trans (hb.mono HB12.out.size)); have HC13 := Lib.hid (HC12.out.trans (hb.mono HC12.out.size)); have HL13 := Lib.hid (HL12.out.grow hb); have HG13 := Lib.hid (HG.out.grow hb); clear hb HB12 HC12 HL12 HG) | (go_at_call 18; refine (codeBegun_calls _).mono ?_; rintro e w14 ⟨rfl, hb⟩; have HB14 := Lib.hid (HB13.out.trans (hb.mono HB13.out.size)); have HC14 := Lib.hid (HC13.out.trans (hb.mono HC13.out.size)); have HL14 := Lib.hid (HL13.out.grow hb); have HG14 := Lib.hid (HG13.out.grow hb); clear hb HB13 HC13 HL13 HG13))
  have HW : Hid (∀ k, k < 3 → ∃ u, (w14.alloc (.cells #[.slice am (mmul A C).length cm, .slice an (minv A).1.length cn, .slice ar (mrowsOf A at_).length cr] 22)).cell? ⟨w14.heap.size, k, none⟩ = some u ∧ Wm (fun k => w5.heap.size ≤ k) (w14.alloc (.cells #[.slice am (mmul A C).length cm, .slice an (minv A).1.length cn, .slice ar (mrowsOf A at_).length cr] 22)) u) := by
    refine Lib.hid fun k hk => ?_
    obtain ⟨u, hu, hor⟩ := three w14 22 (.slice am (mmul A C).length cm) (.slice an (minv A).1.length cn) (.slice ar (mrowsOf A at_).length cr) k hk
    refine ⟨u, hu, ?_⟩
    have up := fun (v : Value) (M : List (List UInt8)) (h : OMat (fun k => w5.heap.size ≤ k) w8 v M) => ((h.grow HC14.out).grow ((Below.refl _ w14).alloc (Nat.le_refl _) (.cells #[.slice am (mmul A C).length cm, .slice an (minv A).1.length cn, .slice ar (mrowsOf A at_).length cr] 22))).wm
    rcases hor with rfl | rfl | rfl
    · exact up _ _ HM8.out
    · exact up _ _ HN8.out
    · exact up _ _ HR.out
  clear HM8 HN8 HR HC14
  go_loopw [123] (fun x wr => ∃ k : Nat, k ≤ 3 ∧ x = .int .i64 k ∧ Sc isByte (fun k => w5.heap.size ≤ k) (w14.alloc (.cells #[.slice am (mmul A C).length cm, .slice an (minv A).1.length cn, .slice ar (mrowsOf A at_).length cr] 22)) wr) (fun x _ => 3 - (intOf x).toNat)
  case atStart => exact ⟨0, by omega, rfl, Sc.refl _ _ _⟩
  case' round =>
    obtain ⟨k, hk, rfl, hs⟩ := hrel
    have HS := Lib.hid hs
    clear hs
    by_cases hlt : k < 3
  case' pos =>
    have hk3 : decide (k < 3) = true := decide_eq_true hlt
    have hk3i : decide ((k : Int) < 3) = true := decide_eq_true (by omega)
    obtain ⟨u, hu, hwm⟩ := HW.out k hlt
    have hu' := HS.out.same _ _ hu hwm.noByte
    have HWM := Lib.hid hwm
    obtain ⟨a1, n1, c1, rfl, h1, h2, -⟩ := hwm
    unfold maxLen at h2
    clear hu
    go_wp2_with fail
    go_loopw [28] (fun x wx => ∃ j : Nat, j ≤ n1 ∧ x = .int .i64 j ∧ Sc isByte (fun k => w5.heap.size ≤ k) (w14.alloc (.cells #[.slice am (mmul A C).length cm, .slice an (minv A).1.length cn, .slice ar (mrowsOf A at_).length cr] 22)) wx) (fun x _ => n1 - (intOf x).toNat)
    case atStart => exact ⟨0, by omega, rfl, HS.out⟩
    case' round =>
      clear HS hu'
      obtain ⟨j, hj, rfl, hs⟩ := hrel
      have HS := Lib.hid hs
      by_cases hlj : j < n1
    case' pos =>
      obtain ⟨a', n', c', he, -, -, h3⟩ := HWM.out.sc hs
      simp only [Value.slice.injEq] at he
      obtain ⟨rfl, rfl, rfl⟩ := he
      obtain ⟨b, off, rfl, hcx⟩ := h3 (by omega)
      obtain ⟨u2, hu2, hw2⟩ := hcx j hlj
      have HW2 := Lib.hid hw2
      clear h3 hcx hw2 hs
      go_wp2_with (go_at_call 19; refine (scratch_calls (fun k => w5.heap.size ≤ k) _ _ HW2.out).mono ?_; rintro e w' ⟨rfl, hs'⟩; have HS2 := Lib.hid hs'; clear hs')
      go_roundw
      case rel => exact ⟨j + 1, by omega, by go_num, HS.out.trans HS2.out⟩
      case measure => simp [intOf]; omega
    have : j = n1 := by omega
    subst this
    clear hs
    go_wp2_with fail
    go_roundw
    case rel => exact ⟨k + 1, by omega, by go_num, HS.out⟩
    case measure => simp [intOf]; omega
  have : k = 3 := by omega
  subst this
  obtain ⟨w15, rfl⟩ : ∃ w15 : World, w15 = wr := ⟨_, rfl⟩
  have HB15 : Hid (Below w5.heap.size w5 w15) := HB14.out.trans (((Below.refl _ w14).alloc HB14.out.size _).trans (HS.out.below (by have := HB14.out.size; simp; omega)))
  have up := fun (v : Value) (M : List (List UInt8)) (h : OStrs (fun k => w5.heap.size ≤ k) w14 v M) => ((h.grow ((Below.refl _ w14).alloc (Nat.le_refl _) (.cells #[.slice am (mmul A C).length cm, .slice an (minv A).1.length cn, .slice ar (mrowsOf A at_).length cr] 22))).wr).sc2 HS.out textNoByte
  have HL15 := Lib.hid (up _ _ HL14.out)
  have HG15 := Lib.hid (up _ _ HG14.out)
  clear up HL14 HG14 HS HW HB14
  go_wp2_with fail
  have HW : Hid (∀ k, k < 2 → ∃ u, (w15.alloc (.cells #[.slice al (enc data more).length cl, .slice ag (chg 0 1 [97] [98] data).length cg] 24)).cell? ⟨w15.heap.size, k, none⟩ = some u ∧ Wr isText (fun k => w5.heap.size ≤ k) (w15.alloc (.cells #[.slice al (enc data more).length cl, .slice ag (chg 0 1 [97] [98] data).length cg] 24)) u) := by
    refine Lib.hid fun k hk => ?_
    obtain ⟨u, hu, hor⟩ := two w15 24 (.slice al (enc data more).length cl) (.slice ag (chg 0 1 [97] [98] data).length cg) k hk
    refine ⟨u, hu, ?_⟩
    rcases hor with rfl | rfl
    · exact HL15.out.up _
    · exact HG15.out.up _
  go_loopw [143] (fun x wr => ∃ k : Nat, k ≤ 2 ∧ x = .int .i64 k ∧ Sc isText (fun k => w5.heap.size ≤ k) (w15.alloc (.cells #[.slice al (enc data more).length cl, .slice ag (chg 0 1 [97] [98] data).length cg] 24)) wr) (fun x _ => 2 - (intOf x).toNat)
  case atStart => exact ⟨0, by omega, rfl, Sc.refl _ _ _⟩
  case' round =>
    obtain ⟨k, hk, rfl, hs⟩ := hrel
    have HS := Lib.hid hs
    clear hs
    by_cases hlt : k < 2
  case' pos =>
    have hk3 : decide (k < 2) = true := decide_eq_true hlt
    have hk3i : decide ((k : Int) < 2) = true := decide_eq_true (by omega)
    obtain ⟨u, hu, hwm⟩ := HW.out k hlt
    have hu' := HS.out.same _ _ hu hwm.noText
    have HWM := Lib.hid hwm
    obtain ⟨a1, n1, c1, rfl, h1, h2, -⟩ := hwm
    unfold maxLen at h2
    clear hu
    go_wp2_with fail
    go_loopw [31] (fun x wx => ∃ j : Nat, j ≤ n1 ∧ x = .int .i64 j ∧ Sc isText (fun k => w5.heap.size ≤ k) (w15.alloc (.cells #[.slice al (enc data more).length cl, .slice ag (chg 0 1 [97] [98] data).length cg] 24)) wx) (fun x _ => n1 - (intOf x).toNat)
    case atStart => exact ⟨0, by omega, rfl, HS.out⟩
    case' round =>
      clear HS hu'
      obtain ⟨j, hj, rfl, hs⟩ := hrel
      have HS := Lib.hid hs
      by_cases hlj : j < n1
    case' pos =>
      obtain ⟨a', n', c', he, -, -, h3⟩ := HWM.out.sc hs
      simp only [Value.slice.injEq] at he
      obtain ⟨rfl, rfl, rfl⟩ := he
      obtain ⟨b, off, rfl, hSb, hcx⟩ := h3 (by omega)
      obtain ⟨⟨u2, hu2, hk2⟩, hf2⟩ := hcx j hlj
      have HK2 := Lib.hid hk2
      have HSB := Lib.hid hSb
      clear h3 hcx hk2 hSb hs
      go_wp2_with fail
      go_roundw
      case rel => exact ⟨j + 1, by omega, by go_num, HS.out.trans (Sc.set hu2 HK2.out ⟨_, rfl⟩ HSB.out)⟩
      case measure => simp [intOf]; omega
    have : j = n1 := by omega
    subst this
    clear hs
    go_wp2_with fail
    go_roundw
    case rel => exact ⟨k + 1, by omega, by go_num, HS.out⟩
    case measure => simp [intOf]; omega
  have : k = 2 := by omega
  subst this
  obtain ⟨w16, rfl⟩ : ∃ w16 : World, w16 = wr := ⟨_, rfl⟩
  have HB16 : Hid (Below w5.heap.size w5 w16) := HB15.out.trans (((Below.refl _ w15).alloc HB15.out.size _).trans (HS.out.below (by have := HB15.out.size; simp; omega)))
  have HWF : Hid (Below w.heap.size w w16) := HBB.out.trans (HB16.out.mono HBB.out.size)
  clear HW HS HB15 HL15 HG15
  obtain ⟨af, cf, hvf, hcf1, hcf2, hcf3⟩ := (HTF.out.below HB16.out).open
  simp only [List.length_append, List.length_singleton, Value.slice.injEq, true_and] at hvf
  obtain ⟨rfl, rfl⟩ := hvf
  obtain ⟨bf, of, hbf, hcell⟩ := hcf3 (by simp)
  simp only [Option.some.injEq, Addr.mk.injEq, and_true] at hbf
  obtain ⟨rfl, rfl⟩ := hbf
  have hroom := hcell data.length (by simp)
  rw [show ns (data ++ [[114, 111, 111, 109]]) data.length = [114, 111, 111, 109] by simp [ns], Nat.zero_add] at hroom
  have hroom2 := fun q => (show (w16.drewN q).cell? ⟨g5, data.length, none⟩ = _ from hroom)
  rw [List.length_append, List.length_singleton] at hcf1
  unfold maxLen at hcf2
  clear hcell hcf3
  go_wp2_with fail
  refine (sameMatrix_calls _ _ A A _ (HX5.out.below HB16.out) (HA.out.below HWF.out)).mono ?_
  rw [decide_eq_true (rfl : A = A)]
  rintro e w17 ⟨rfl, n17, rfl⟩
  dsimp only
  go_wp2_with fail
  refine (sameMatrix_calls _ _ C C _ ((HY5.out.below HB16.out).below (below_drewN _ _)) ((HC.out.below HWF.out).below (below_drewN _ _))).mono ?_
  rw [decide_eq_true (rfl : C = C)]
  rintro e w18 ⟨rfl, n18, rfl⟩
  dsimp only
  go_wp2_with fail
  refine (sameTexts_calls _ _ data data _ ((HT.out.below HB16.out).below (below_drewN _ _)) ((HD.out.below HWF.out).below (below_drewN _ _))).mono ?_
  rw [decide_eq_true (rfl : data = data)]
  rintro e w19 ⟨rfl, n19, rfl⟩
  dsimp only
  go_wp2_with fail
  go_ret
  exact ⟨rfl, HWF.out.trans ((below_drewN _ _).mono HWF.out.size)⟩
end Go.Proofs.Ytphehfllcmbpkaa
