/- The contracts of package code, fifth part: Change. No condition. -/
import Derived.Test.YtphehfllcmbpkaaCodeD
import Derived.Laws.IdiomStrings
namespace Go.Proofs.Ytphehfllcmbpkaa
open Go Go.RowKit GF
set_option maxRecDepth 100000
set_option maxHeartbeats 2000000
/-- a row of bytes in block g (its row may bear a mark behind its last cell) -/
def Row8 (w : World) (g : Nat) (l : List UInt8) : Prop := g < w.heap.size ∧ ∀ j, j < l.length → w.cell? ⟨g, j, none⟩ = some (.int .u8 (B (nb l j))) ∧ w.frozen? ⟨g, j, none⟩ = false
theorem Row8.set {w g l} (h : Row8 w g l) {k : Nat} (_hk : k < l.length) (x : UInt8) : Row8 (w.setCell ⟨g, k, none⟩ (.int .u8 (B x))) g (l.set k x) := by
  refine ⟨by simpa using h.1, fun j hj => ⟨?_, by rw [World.frozen?_setCell]; exact (h.2 j (by simpa using hj)).2⟩⟩
  rw [List.length_set] at hj
  by_cases e : k = j
  · subst e
    rw [World.cell?_setCell_same w _ _ (h.2 k hj).1]; simp [nb, List.getD, hj]
  · rw [World.cell?_setCell_other w _ _ _ (by simp), (h.2 j hj).1]
    simp [nb, List.getD, e]
theorem Row8.drew {w g l} (h : Row8 w g l) : Row8 w.drew g l := h
theorem Row8.rd {w g l} (h : Row8 w g l) {cap : Nat} (h1 : l.length ≤ cap) (h2 : cap ≤ maxLen) : RBytes w (.slice (some ⟨g, 0, none⟩) l.length cap) l := by
  refine ⟨_, _, _, rfl, by simp, h1, h2, fun h => by simp at h, fun ad had => ?_⟩
  simp only [Option.some.injEq] at had
  subst had
  refine ⟨fun _ => rfl, fun j u hu => ?_⟩
  rw [List.getElem?_map] at hu
  cases hx : l[j]? with
  | none => rw [hx] at hu; simp at hu
  | some x =>
    rw [hx] at hu
    have hj := (List.getElem?_eq_some_iff.1 hx).1
    have := (h.2 j hj).1
    simp only [Nat.zero_add]
    rw [this]
    simp at hu
    rw [← hu]; simp [nb, List.getD, hx]
/-- []byte(s) -/
theorem conv_str {P : Program} (w : World) (src dst e : TypeId) (s : List UInt8) (hs : P.underlying src = some .string) (hd : P.underlying dst = some (.slice e)) (he : P.underlying e = some (.int .u8)) (hl : s.length ≤ maxLen) :
    ∃ cap w2, (convert src dst (.string (str s))).run P w = .ok (.slice (some ⟨w.heap.size, 0, none⟩) s.length cap) w2 ∧ s.length ≤ cap ∧ cap ≤ maxLen ∧ Below w.heap.size w w2 ∧ Row8 w2 w.heap.size s := by
  have h := run_bytes_of_string (P := P) w src dst e (str s) hs hd he
  rw [str_size] at h
  have hge := grownCap_ge w s.length 0 e
  have hle := grownCap_le_maxLen w s.length 0 e hl
  generalize grownCap w s.length 0 e = c at *
  refine ⟨c, _, h, hge, hle, ((Below.refl _ w).drew.alloc (Nat.le_refl _) _), by simp, fun j hj => ?_⟩
  have hsz : (bytesRow (str s) c).size = c := by
    unfold bytesRow; rw [Array.size_append, Array.size_map, Array.size_replicate, str_size]; show (str s).size + _ = c; rw [str_size]; omega
  have hb : ∀ fz, (w.drew.alloc (.cells (bytesRow (str s) c) e fz)).heap[w.heap.size]? = some (.cells (bytesRow (str s) c) e fz) := by
    intro fz
    show (w.heap.push _)[w.heap.size]? = _
    simp
  constructor
  · rw [cell_of_row _ _ _ _ _ _ (hb _)]
    have : (bytesRow (str s) c)[j]? = some (.int .u8 (B (nb s j))) := by
      unfold bytesRow
      rw [Array.getElem?_append_left (by simpa [str] using hj)]
      simp [str, nb, List.getD, hj, B]
    exact this
  · rw [World.frozen?]
    simp only [hb]
    simp [hsz]
    omega
def chgB (s old now : List UInt8) (f : UInt8) (x : Nat) : UInt8 := nb s x ^^^ gmul f (nb old x ^^^ nb now x)
def chgAt (s old now : List UInt8) (f : UInt8) (j : Nat) : List UInt8 := tabRow s.length fun x => if x < j then chgB s old now f x else nb s x
def chgRow (s old now : List UInt8) (f : UInt8) : List UInt8 := tabRow s.length (chgB s old now f)
def chgTo (l : List (List UInt8)) (old now : List UInt8) (i k : Nat) : List (List UInt8) := (List.range k).map fun r => chgRow (ns l r) old now (cauE l.length r i)
def chgE (i many : Int) (old now : List UInt8) (l : List (List UInt8)) : Int :=
  if ¬ (1 ≤ many ∧ many ≤ 8) then 3 else if i < 0 ∨ many ≤ i then 3 else if l.length = 0 then 8 else if 6 < l.length then 2 else alik (old :: now :: l)
def chg (i many : Int) (old now : List UInt8) (l : List (List UInt8)) : List (List UInt8) := if chgE i many old now l = 0 then chgTo l old now i.toNat l.length else []
theorem chgAt_zero (s old now f) : chgAt s old now f 0 = s := by unfold chgAt; simp; exact tabRow_self s
theorem chgAt_all (s old now f) : chgAt s old now f s.length = chgRow s old now f := tabRow_congr fun _ hk => if_pos hk
theorem chgAt_len (s old now f j) : (chgAt s old now f j).length = s.length := tabRow_len _ _
theorem chgAt_set (s old now f) (k : Nat) : (chgAt s old now f k).set k (nb s k ^^^ gmul f (nb old k ^^^ nb now k)) = chgAt s old now f (k+1) := by
  refine tabRow_set _ fun x hx => ?_
  by_cases h : x = k
  · subst h; rw [if_pos (by omega), if_pos rfl]; rfl
  · by_cases h2 : x < k
    · rw [if_neg h, if_pos h2, if_pos (by omega)]
    · rw [if_neg h, if_neg h2, if_neg (by omega)]
theorem nb_chgAt (s old now f) {j : Nat} (h : j < s.length) : nb (chgAt s old now f j) j = nb s j := by rw [chgAt, nb_tabRow h, if_neg (by omega)]
theorem chgTo_len (l old now i k) : (chgTo l old now i k).length = k := by simp [chgTo]
theorem chgTo_succ (l old now i k) : chgTo l old now i (k + 1) = chgTo l old now i k ++ [chgRow (ns l k) old now (cauE l.length k i)] := by simp [chgTo, List.range_succ]
theorem OStrs.snoc {S : Nat → Prop} {w' : World} {v v' : Value} {l : List (List UInt8)} {s : List UInt8} {m : Nat}
    (hown : Own (fun k => v.ownBlock = some k ∨ m ≤ k) w' 9 1 v' (l.length + 1) (l.map sv ++ [.string (str s)])) (hl : ∀ x ∈ l, x.length ≤ maxLen) (hs : s.length ≤ maxLen) (hS : ∀ k, v.ownBlock = some k ∨ m ≤ k → S k) : OStrs S w' v' (l ++ [s]) := by
  refine ⟨?_, ?_⟩
  · rw [List.length_append, List.map_append]; exact hown.mono hS
  · intro x hx
    rcases List.mem_append.1 hx with h | h
    · exact hl x h
    · simp at h; subst h; exact hs
theorem below_app {w w' : World} {o : Obj} {n c : Nat} (h : Kp (fun k => (Value.slice (some ⟨w.heap.size, 0, none⟩) n c).ownBlock = some k) (w.alloc o) w') : Below w.heap.size w w' := by
  have h1 : (w.alloc o).heap.size = w.heap.size + 1 := by simp
  refine ((Below.refl _ w).alloc (Nat.le_refl _) o).trans ⟨h.os, h.tape, h.output, h.size, fun k hk => h.block k (by omega) (fun e => ?_)⟩
  simp [Value.ownBlock] at e; omega
theorem Change_calls (i many : Int) (old now : List UInt8) (v : Value) (l : List (List UInt8)) (w : World) (h : RStrs w v l) (hlo : old.length ≤ maxLen) (hln : now.length ≤ maxLen) :
    Calls Try.prog 16 #[.int .i64 i, .string (str old), .string (str now), .int .i64 many, v] w fun e w' => ∃ x, e = .returned (.tuple #[x, .int .i64 (chgE i many old now l)]) ∧ OStrs (fun k => w.heap.size ≤ k) w' x (chg i many old now l) ∧ Below w.heap.size w w' := by
  obtain ⟨a, cap, rfl, hc, hcm, hx⟩ := h.open
  have HP := Lib.hid h
  have HX := Lib.hid hx
  have HB0 : Hid (∀ o, Below w.heap.size w (w.alloc o)) := Lib.hid fun o => (Below.refl _ w).alloc (Nat.le_refl _) o
  have HLO := Lib.hid hlo
  have HLN := Lib.hid hln
  unfold maxLen at hcm
  clear h hx hlo hln
  by_cases h1 : 1 ≤ many ∧ many ≤ 8
  · obtain ⟨h1a, h1b⟩ := h1
    have hw : (decide (1 ≤ many) && decide (many ≤ 8)) = true := by simp [h1a, h1b]
    have HW := Lib.hid hw
    clear hw
    by_cases h2 : i < 0
    · have HE : Hid (chgE i many old now l = 3) := by unfold chgE; rw [if_neg (by omega), if_pos (by omega)]; exact Lib.hid rfl
      go_enter Try.func16, Try.ntmps16
      go_wp2_with (go_at_call 45; refine (within_calls _ _ _).mono ?_; rw [HW.out]; rintro e w1 ⟨rfl, rfl⟩)
      go_ret2
      exact ⟨_, by rw [HE.out]; rfl, by unfold chg; rw [HE.out, if_neg (by omega)]; exact OStrs.nil _ _, Below.refl _ _⟩
    by_cases h3 : many ≤ i
    · have HE : Hid (chgE i many old now l = 3) := by unfold chgE; rw [if_neg (by omega), if_pos (by omega)]; exact Lib.hid rfl
      go_enter Try.func16, Try.ntmps16
      go_wp2_with (go_at_call 45; refine (within_calls _ _ _).mono ?_; rw [HW.out]; rintro e w1 ⟨rfl, rfl⟩)
      go_ret2
      exact ⟨_, by rw [HE.out]; rfl, by unfold chg; rw [HE.out, if_neg (by omega)]; exact OStrs.nil _ _, Below.refl _ _⟩
    by_cases h4 : l.length = 0
    · have HE : Hid (chgE i many old now l = 8) := by unfold chgE; rw [if_neg (by omega), if_neg (by omega), if_pos h4]; exact Lib.hid rfl
      have h4' : ((l.length : Int) == 0) = true := by simp [h4]
      clear h4
      go_enter Try.func16, Try.ntmps16
      go_wp2_with (go_at_call 45; refine (within_calls _ _ _).mono ?_; rw [HW.out]; rintro e w1 ⟨rfl, rfl⟩)
      go_ret2
      exact ⟨_, by rw [HE.out]; rfl, by unfold chg; rw [HE.out, if_neg (by omega)]; exact OStrs.nil _ _, Below.refl _ _⟩
    have h4' : ((l.length : Int) == 0) = false := by rw [beq_eq_false_iff_ne]; omega
    have h40 : 0 < l.length := Nat.pos_of_ne_zero h4
    clear h4
    by_cases h5 : 6 < l.length
    · have HE : Hid (chgE i many old now l = 2) := by unfold chgE; rw [if_neg (by omega), if_neg (by omega), if_neg (by omega), if_pos h5]; exact Lib.hid rfl
      go_enter Try.func16, Try.ntmps16
      go_wp2_with (go_at_call 45; refine (within_calls _ _ _).mono ?_; rw [HW.out]; rintro e w1 ⟨rfl, rfl⟩)
      go_ret2
      exact ⟨_, by rw [HE.out]; rfl, by unfold chg; rw [HE.out, if_neg (by omega)]; exact OStrs.nil _ _, Below.refl _ _⟩
    have HE : Hid (chgE i many old now l = alik (old :: now :: l)) := by unfold chgE; rw [if_neg (by omega), if_neg (by omega), if_neg (by omega), if_neg h5]; exact Lib.hid rfl
    by_cases he : alik (old :: now :: l) = 0
    · have HL := Lib.hid (alik_ok he)
      have HA := Lib.hid he
      have HE0 : Hid (chgE i many old now l = 0) := by rw [HE.out]; exact HA
      clear he
      obtain ⟨n, rfl⟩ := Int.eq_ofNat_of_zero_le (show 0 ≤ many by omega)
      obtain ⟨q, rfl⟩ := Int.eq_ofNat_of_zero_le (show 0 ≤ i by omega)
      have hlen : ∀ k, k < l.length → (ns l k).length = old.length := fun k hk => (HL.out (k + 2) (by simp only [List.length_cons]; omega)).1
      have hln : now.length = old.length := (HL.out 1 (by simp only [List.length_cons]; omega)).1
      have hl64 : old.length ≤ 64 := (HL.out 0 (by simp only [List.length_cons]; omega)).2
      have HLEN := Lib.hid hlen
      have HLNO := Lib.hid hln
      clear hlen hln
      go_enter Try.func16, Try.ntmps16
      have HAL : Hid (∀ s ∈ old :: now :: l, s.length ≤ maxLen) := by
        refine Lib.hid fun s hs => ?_
        rcases List.mem_cons.1 hs with rfl | hs
        · exact HLO.out
        · rcases List.mem_cons.1 hs with rfl | hs
          · exact HLN.out
          · exact HP.out.2 s hs
      go_wp2_with (first | (go_at_call 45; refine (within_calls _ _ _).mono ?_; rw [HW.out]; rintro e w1 ⟨rfl, rfl⟩) | (at_builtin; refine wpList_app rfl (.tmp 41) (.tmp 42) 24 rfl 9 _ 1 16 Try.underlying24 info_string rfl (by decide) (fun k => w.heap.size ≤ k) _ 2 [.string (str old), .string (str now)] rfl (Own.of (World.ownsRow_lit (size := 1) w #[.string (str old), .string (str now)] 2 (Nat.le_refl _) (by unfold maxLen; omega) rfl) (fun g hg _ => hg)) _ l.length (l.map sv) rfl (Rds.below HP.out.1 (HB0.out _)) (by simp) (oneCell_sv l) (by unfold maxLen; omega) (by omega) ?_; intro v' w' hown hkp; have HR : Hid (RStrs w' v' (old :: now :: l)) := ⟨hown.rds, HAL.out⟩; have HBA : Hid (Below w.heap.size w w') := below_app hkp; clear hown hkp) | (go_at_call 46; refine (alike_calls _ (old :: now :: l) _ HR.out).mono ?_; rw [HA.out]; rintro e w1 ⟨rfl, rfl⟩) | (go_at_call 47; refine (Cauchy_yes l.length n (by omega) (by omega) (by omega) (by omega) _).mono ?_; rintro e w1 ⟨v, rfl, ho, hb⟩; have HO := Lib.hid ho; have HBW : Hid (Below w.heap.size w w1) := HBA.out.trans (hb.mono HBA.out.size); clear ho hb HBA HR))
      obtain ⟨gv, cv, hv, _⟩ := HO.out.shape (by rw [tab_len]; omega)
      rw [tab_len] at hv
      subst hv
      have HRW : Hid (∀ k, k < l.length → ∃ gk ck, gv < w1.heap.size ∧ gk < w1.heap.size ∧ l.length ≤ cv ∧ cv ≤ maxLen ∧ w1.cell? ⟨gv, k, none⟩ = some (.slice (some ⟨gk, 0, none⟩) n ck) ∧ n ≤ ck ∧ ck ≤ maxLen ∧ w1.cell? ⟨gk, q, none⟩ = some (.int .u8 (B (cauE l.length k q)))) := by
        intro k hk
        have e0 : (tab l.length n (cauE l.length)).getD k [] = tabRow n (cauE l.length k) := by simp [tab, List.getD, hk]
        obtain ⟨g', c', gk, ck, hv, a1, a2, _, _, a3, a4, a5, a6, a7, a8, _, _⟩ := HO.out.rowAt (i := k) (k := q) (by rw [tab_len]; exact hk) (by rw [e0, tabRow_len]; omega)
        rw [tab_len] at hv a1
        simp only [Value.slice.injEq, Option.some.injEq, Addr.mk.injEq, and_true, true_and] at hv
        obtain ⟨rfl, rfl⟩ := hv
        rw [e0] at a5 a6 a8
        rw [tabRow_len] at a5 a6
        rw [nb_tabRow (by omega)] at a8
        exact ⟨gk, ck, a3, a4, a1, a2, a5, a6, a7, a8⟩
      clear HO HAL HA
      obtain ⟨b, off, rfl, hce⟩ := HX.out h40
      have HCE := Lib.hid hce
      clear hce HX
      go_loopw [57, 15] (fun x y wr => ∃ k : Nat, k ≤ l.length ∧ x = .int .i64 k ∧ OStrs (fun k => w1.heap.size ≤ k) wr y (chgTo l old now q k) ∧ Below w1.heap.size w1 wr) (fun x _ _ => l.length - (intOf x).toNat)
      case atStart => exact ⟨0, by omega, rfl, OStrs.nil _ _, Below.refl _ _⟩
      case round =>
        obtain ⟨k, hk, rfl, ho, hb⟩ := hrel
        have HO := Lib.hid ho
        have HB := Lib.hid hb
        clear ho hb
        by_cases hlt : k < l.length
        · have hp0 := HCE.out k hlt
          have hcp := ((HBW.out.trans (HB.out.mono HBW.out.size)).cell (p := ⟨b, off + k, none⟩) (block_lt hp0)).trans hp0
          have hlk := HLEN.out k hlt
          obtain ⟨cc, w2, hcv, h1, h2, hb2, hr8⟩ := conv_str (P := Try.prog) wr 9 25 5 (ns l k) Try.underlying9 Try.underlying25 Try.underlying5 (ns_len HP.out.2 k)
          have HR8 := Lib.hid hr8
          have HB2 := Lib.hid hb2
          rw [hlk] at hcv h1
          have HLK := Lib.hid hlk
          clear hp0 hr8 hb2 hlk
          unfold maxLen at h2
          go_wp2_with fail
          obtain ⟨wo, rfl⟩ : ∃ wo : World, wo = wr := ⟨_, rfl⟩
          go_loopw [66] (fun x wx => ∃ j : Nat, j ≤ old.length ∧ x = .int .i64 j ∧ Row8 wx wo.heap.size (chgAt (ns l k) old now (cauE l.length k q) j) ∧ Below wo.heap.size wo wx) (fun x _ => old.length - (intOf x).toNat)
          case atStart => exact ⟨0, by omega, rfl, by rw [chgAt_zero]; exact HR8.out, HB2.out⟩
          case round =>
            clear HR8 HB2 hcv hcp
            obtain ⟨j, hj, rfl, hr, hb⟩ := hrel
            have HR8 := Lib.hid hr
            have HB3 := Lib.hid hb
            clear hr hb
            by_cases hlj : j < old.length
            · have hcb := (HR8.out.2 j (by rw [chgAt_len, HLK.out]; exact hlj)).1
              have hfb := (HR8.out.2 j (by rw [chgAt_len, HLK.out]; exact hlj)).2
              rw [nb_chgAt _ _ _ _ (by rw [HLK.out]; exact hlj)] at hcb
              obtain ⟨gk, ck, z1, z2, z3, z4, z5, z6, z7, z8⟩ := HRW.out k hlt
              have hb4 : Below w1.heap.size w1 wr := HB.out.trans (HB3.out.mono HB.out.size)
              have hm1 := (hb4.cell (p := ⟨gv, k, none⟩) z1).trans z5
              have hm2 := (hb4.cell (p := ⟨gk, q, none⟩) z2).trans z8
              have hlj2 : j < now.length := by rw [HLNO.out]; exact hlj
              have hqn : q < n := by omega
              unfold maxLen at z4 z7
              clear z5 z8 hb4
              go_wp2_with fail
              refine region_tail 21 (by kernel_rfl) (by kernel_rfl) ?_
              simp only [List.take_succ_cons, List.take_zero, List.drop_succ_cons, List.drop_zero]
              repeat (first | still_step | still_call (mul_still _ _ _))
              refine wpStill_nil ?_
              go_wp2
              go_roundw
              case rel =>
                refine ⟨j+1, by omega, by go_num, ?_, (HB3.out.setCell (Nat.le_refl _) _).drew⟩
                rw [← chgAt_set]
                exact (HR8.out.set (by rw [chgAt_len, HLK.out]; exact hlj) _).drew
              case measure => simp [intOf]; omega
            · have : j = old.length := by omega
              subst this
              have HRR : Hid (Row8 wr wo.heap.size (chgRow (ns l k) old now (cauE l.length k q))) := by
                have := HR8.out
                rw [← HLK.out, chgAt_all] at this; exact Lib.hid this
              have hrl : (chgRow (ns l k) old now (cauE l.length k q)).length = old.length := by rw [chgRow, tabRow_len, HLK.out]
              have HCV : (convert 25 9 (.slice (some ⟨wo.heap.size, 0, none⟩) old.length cc)).run Try.prog wr = .ok (.string (str (chgRow (ns l k) old now (cauE l.length k q)))) wr := by
                have h := HRR.out.rd (cap := cc) (by rw [hrl]; exact h1) (by unfold maxLen; omega)
                rw [hrl] at h
                exact run_convert_bytes _ _ 5 Try.underlying25 Try.underlying5 Try.underlying9 h
              have HRL := Lib.hid hrl
              have HO2 := Lib.hid (HO.out.grow HB3.out)
              have hcl := chgTo_len l old now q k
              have HCL := Lib.hid hcl
              clear HR8 HRR hrl HO hcl
              go_wp2_with (at_builtin; refine wpList_app rfl (.tmp 91) (.tmp 94) 24 rfl 9 _ 1 16 Try.underlying24 info_string rfl (by decide) (fun k => w1.heap.size ≤ k) _ _ ((chgTo l old now q k).map sv) rfl (Own.grow HO2.out.1 ((Below.refl _ wr).alloc (Nat.le_refl _) _)) _ 1 [.string (str (chgRow (ns l k) old now (cauE l.length k q)))] rfl ⟨_, 1, 1, rfl, rfl, by omega, by unfold maxLen; omega, fun h => by simp at h, by rintro ad ⟨⟩; exact ⟨fun _ => rfl, fun j u hu => by cases j <;> simp at hu ⊢; exact hu⟩⟩ rfl (by intro u hu; simp at hu; subst hu; rfl) (by rw [HCL.out]; unfold maxLen; omega) (by rw [HCL.out]; omega) ?_; intro v' w' hown hkp; have HON := Lib.hid hown; have HKP := Lib.hid hkp; clear hown hkp)
              go_roundw
              case rel =>
                have hsz := HB3.out.size
                have hsz2 := HB.out.size
                refine ⟨k + 1, by omega, by go_num, ?_, ?_⟩
                · rw [chgTo_succ]
                  refine OStrs.snoc HON.out HO2.out.2 (by rw [HRL.out]; unfold maxLen; omega) ?_
                  intro k hk
                  rcases hk with h | h
                  · exact HO2.out.1.2 k h
                  · simp at h; omega
                · refine HB.out.trans ((HB3.out.mono hsz2).trans (((Below.refl _ wr).alloc (Nat.le_trans hsz2 hsz) _).trans ⟨HKP.out.os, HKP.out.tape, HKP.out.output, HKP.out.size, fun k hk => HKP.out.block k (by simp; omega) (fun h => by have := HO2.out.1.2 k h; omega)⟩))
              case measure => simp [intOf]; omega
        · have : k = l.length := by omega
          subst this
          go_wp2_with fail
          go_ret2
          refine ⟨_, by rw [HE0.out]; rfl, ?_, HBW.out.trans (HB.out.mono HBW.out.size)⟩
          unfold chg
          rw [HE0.out, if_pos rfl]
          exact HO.out.mono fun k hk => Nat.le_trans HBW.out.size hk
    · have HN := Lib.hid he
      have he' : (alik (old :: now :: l) != 0) = true := by simp [he]
      have HAL : Hid (∀ s ∈ old :: now :: l, s.length ≤ maxLen) := by
        refine Lib.hid fun s hs => ?_
        rcases List.mem_cons.1 hs with rfl | hs
        · exact HLO.out
        · rcases List.mem_cons.1 hs with rfl | hs
          · exact HLN.out
          · exact HP.out.2 s hs
      clear he
      go_enter Try.func16, Try.ntmps16
      go_wp2_with (first | (go_at_call 45; refine (within_calls _ _ _).mono ?_; rw [HW.out]; rintro e w1 ⟨rfl, rfl⟩) | (at_builtin; refine wpList_app rfl (.tmp 41) (.tmp 42) 24 rfl 9 _ 1 16 Try.underlying24 info_string rfl (by decide) (fun k => w.heap.size ≤ k) _ 2 [.string (str old), .string (str now)] rfl (Own.of (World.ownsRow_lit (size := 1) w #[.string (str old), .string (str now)] 2 (Nat.le_refl _) (by unfold maxLen; omega) rfl) (fun g hg _ => hg)) _ l.length (l.map sv) rfl (Rds.below HP.out.1 (HB0.out _)) (by simp) (oneCell_sv l) (by unfold maxLen; omega) (by omega) ?_; intro v' w' hown hkp; have HR : Hid (RStrs w' v' (old :: now :: l)) := ⟨hown.rds, HAL.out⟩; have HBA : Hid (Below w.heap.size w w') := below_app hkp; clear hown hkp) | (go_at_call 46; refine (alike_calls _ (old :: now :: l) _ HR.out).mono ?_; rintro e w1 ⟨rfl, rfl⟩))
      go_ret2
      exact ⟨_, by rw [HE.out]; rfl, by unfold chg; rw [HE.out, if_neg HN.out]; exact OStrs.nil _ _, HBA.out⟩
  · have HE : Hid (chgE i many old now l = 3) := by unfold chgE; rw [if_pos h1]; exact Lib.hid rfl
    have hw : (decide (1 ≤ many) && decide (many ≤ 8)) = false := by
      rw [Bool.and_eq_false_iff]
      by_cases h5 : 1 ≤ many
      · exact .inr (decide_eq_false fun h => h1 ⟨h5, h⟩)
      · exact .inl (decide_eq_false h5)
    have HW := Lib.hid hw
    clear hw h1
    go_enter Try.func16, Try.ntmps16
    go_wp2_with (go_at_call 45; refine (within_calls _ _ _).mono ?_; rw [HW.out]; rintro e w1 ⟨rfl, rfl⟩)
    go_ret2
    exact ⟨_, by rw [HE.out]; rfl, by unfold chg; rw [HE.out, if_neg (by omega)]; exact OStrs.nil _ _, Below.refl _ _⟩
end Go.Proofs.Ytphehfllcmbpkaa
