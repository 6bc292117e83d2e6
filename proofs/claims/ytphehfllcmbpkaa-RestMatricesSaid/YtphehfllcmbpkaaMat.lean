/- The contracts of package matrix. No condition. -/
import Derived.Test.YtphehfllcmbpkaaField
import Derived.Test.YtphehfllcmbpkaaOwn
namespace Go.Proofs.Ytphehfllcmbpkaa
open Go Go.RowKit GF
set_option maxRecDepth 100000
set_option maxHeartbeats 1000000
theorem info_bytes : (Try.prog.info? 25).map (fun i => (i.zero, i.size, i.bytes)) = some (some (.slice none 0 0), 1, 24) := by kernel_rfl
theorem info_u8 : (Try.prog.info? 5).map (fun i => (i.zero, i.size, i.bytes)) = some (some (.int .u8 0), 1, 1) := by kernel_rfl
/-- a table of what stands at each place -/
def tabRow (cols : Nat) (at_ : Nat → UInt8) : List UInt8 := (List.range cols).map at_
def tab (rows cols : Nat) (at_ : Nat → Nat → UInt8) : List (List UInt8) := (List.range rows).map fun i => tabRow cols (at_ i)
def rowTo (cols : Nat) (at_ : Nat → UInt8) (k : Nat) : List UInt8 := tabRow cols fun b => if b < k then at_ b else 0
def fillTo (rows cols : Nat) (at_ : Nat → Nat → UInt8) (i : Nat) : List (List UInt8) := (List.range rows).map fun a => if a < i then tabRow cols (at_ a) else []
theorem fillTo_len (rows cols at_ i) : (fillTo rows cols at_ i).length = rows := by simp [fillTo]
theorem rowTo_len (cols at_ k) : (rowTo cols at_ k).length = cols := by simp [rowTo, tabRow]
theorem fillTo_zero (rows cols at_) : fillTo rows cols at_ 0 = List.replicate rows [] := by
  apply List.ext_getElem <;> simp [fillTo]
theorem rowTo_zero (cols at_) : rowTo cols at_ 0 = List.replicate cols 0 := by
  apply List.ext_getElem <;> simp [rowTo, tabRow]
theorem fillTo_all (rows cols at_) : fillTo rows cols at_ rows = tab rows cols at_ := by
  apply List.ext_getElem
  · simp [fillTo, tab]
  · intro i h1 h2; simp [fillTo] at h1; simp [fillTo, tab, h1]
theorem rowTo_all (cols at_) : rowTo cols at_ cols = tabRow cols at_ := by
  apply List.ext_getElem
  · simp [rowTo, tabRow]
  · intro i h1 h2; simp [rowTo, tabRow] at h1; simp [rowTo, tabRow, h1]
theorem rowTo_set (cols at_) (k : Nat) (_hk : k < cols) : (rowTo cols at_ k).set k (at_ k) = rowTo cols at_ (k+1) := by
  apply List.ext_getElem
  · simp [rowTo, tabRow]
  · intro i h1 h2
    simp [rowTo, tabRow, List.getElem_set]
    by_cases e : k = i
    · simp [e]
    · have : i < k ↔ i < k + 1 := by omega
      simp [e, this]
theorem fillTo_set (rows cols at_) (i : Nat) (_hi : i < rows) : (fillTo rows cols at_ i).set i (tabRow cols (at_ i)) = fillTo rows cols at_ (i+1) := by
  apply List.ext_getElem
  · simp [fillTo]
  · intro j h1 h2
    simp [fillTo, List.getElem_set]
    by_cases e : i = j
    · simp [e]
    · have : j < i ↔ j < i + 1 := by omega
      simp [e, this]
theorem filled_calls (rows cols : Nat) (hr : rows ≤ 1000000) (hc : cols ≤ 1000000) (f : FuncId) (cap : Array Value) (at_ : Nat → Nat → UInt8) (w : World) (hcf : ∀ args w, (callFunc f args).run Try.prog w = .ok (.enter f args) w)
    (hat : ∀ w1, Below w.heap.size w w1 → ∀ i k, i < rows → k < cols → Calls Try.prog f (#[.int .i64 i, .int .i64 k] ++ cap) w1 fun e w' => e = .returned (.int .u8 (B (at_ i k))) ∧ Below w1.heap.size w1 w') :
    Calls Try.prog 39 #[.int .i64 rows, .int .i64 cols, .func (.func f) #[] cap] w fun e w' => ∃ v, e = .returned v ∧ OMat (fun k => w.heap.size ≤ k) w' v (tab rows cols at_) ∧ Below w.heap.size w w' := by
  have HA := Lib.hid hat
  clear hat
  go_enter Try.func39, Try.ntmps39
  go_wp2_with (at_make; refine wpList_mk rfl _ _ 22 rfl 25 _ _ Try.underlying22 info_bytes rfl _ _ rows rfl rfl (by omega) (by unfold maxLen; omega) ?_; intro w1 hb1 hown1; have hb := Lib.hid hb1; have hown := Lib.hid hown1; clear hb1 hown1)
  go_loopw [14] (fun i wr => ∃ n : Nat, n ≤ rows ∧ i = .int .i64 n ∧ OMat (fun k => w.heap.size ≤ k) wr (.slice (some ⟨w.heap.size, 0, none⟩) rows rows) (fillTo rows cols at_ n) ∧ Below w.heap.size w wr) (fun i _ => rows - (intOf i).toNat)
  case atStart => exact ⟨0, by omega, rfl, by rw [fillTo_zero]; exact OMat.nils hown.out, hb.out⟩
  case round =>
    clear hown hb
    obtain ⟨n, hn, rfl, ho, hb⟩ := hrel
    by_cases hlt : n < rows
    · have hM : (fillTo rows cols at_ n)[n]? = some [] := by simp [fillTo, hlt]
      obtain ⟨g0, cap0, hv0, _, hg0, _, _, hf0, hrow0⟩ := ho.shape (by rw [fillTo_len]; omega)
      simp only [Value.slice.injEq, Option.some.injEq, Addr.mk.injEq, and_true] at hv0
      obtain ⟨rfl, -, -⟩ := hv0
      obtain ⟨u0, hu0, _, _⟩ := hrow0 n _ hM
      have hfn := hf0 n
      clear hf0 hrow0 hM
      have ho' := Lib.hid ho
      have hb' := Lib.hid hb
      clear ho hb
      go_wp2_with (at_make; refine wpList_mk rfl _ _ 25 rfl 5 _ _ Try.underlying25 info_u8 rfl _ _ cols rfl rfl (by omega) (by unfold maxLen; omega) ?_; intro w1 hb1 hown1; have hb2 := Lib.hid hb1; have hown := Lib.hid hown1; have hc1 := (hb1.cell (p := ⟨w.heap.size, n, none⟩) hg0).trans hu0; have hc2 := (hb1.frozen (p := ⟨w.heap.size, n, none⟩) hg0).trans hfn; clear hb1 hown1)
      have ho1 := ho'.out.putNew hb2.out (i := n) (by rw [fillTo_len]; omega) (u := .slice (some ⟨wr.heap.size, 0, none⟩) cols cols) (r := rowTo cols (at_ n) 0) (by rw [rowTo_zero]; exact (OBytes.zeros hown.out).mono fun k hk => Nat.le_trans hb'.out.size hk) (by intro g hg; simp [Value.ownBlock] at hg; omega) rfl
      have hb3 : Below w.heap.size w (w1.setCell ⟨w.heap.size, n, none⟩ (.slice (some ⟨wr.heap.size, 0, none⟩) cols cols)) := (hb'.out.trans (hb2.out.mono hb'.out.size)).setCell (Nat.le_refl _) _
      have ho2 := Lib.hid ho1
      have hb4 := Lib.hid hb3
      clear ho1 hb3 ho' hb' hown hb2
      obtain ⟨wo, rfl⟩ : ∃ wo : World, wo = wr := ⟨_, rfl⟩
      go_loopw [27] (fun i wx => ∃ k : Nat, k ≤ cols ∧ i = .int .i64 k ∧ OMat (fun k => w.heap.size ≤ k) wx (.slice (some ⟨w.heap.size, 0, none⟩) rows rows) ((fillTo rows cols at_ n).set n (rowTo cols (at_ n) k)) ∧ Below w.heap.size w wx) (fun i _ => cols - (intOf i).toNat)
      case atStart => exact ⟨0, by omega, rfl, ho2.out, hb4.out⟩
      case round =>
        clear ho2 hb4
        obtain ⟨k, hk, rfl, ho, hb⟩ := hrel
        have hM : ((fillTo rows cols at_ n).set n (rowTo cols (at_ n) k))[n]? = some (rowTo cols (at_ n) k) := by rw [List.getElem?_set_self (by rw [fillTo_len]; exact hlt)]
        obtain ⟨g0, cap0, hv0, _, hg0, _, _, hf0, hrow0⟩ := ho.shape (by rw [List.length_set, fillTo_len]; omega)
        simp only [Value.slice.injEq, Option.some.injEq, Addr.mk.injEq, and_true] at hv0
        obtain ⟨rfl, -, -⟩ := hv0
        obtain ⟨u0, hu0, hou0, _⟩ := hrow0 n _ hM
        clear hf0 hrow0
        have ho' := Lib.hid ho
        have hb' := Lib.hid hb
        clear ho hb
        by_cases hlk : k < cols
        · have hsh := hou0.shape
          rw [rowTo_len] at hsh
          rcases hsh with ⟨_, h0, _⟩ | ⟨gk, ck, rfl, _, hgk, _, _, hck, hfk⟩
          · omega
          · obtain ⟨old, hcc⟩ : ∃ u, wr.cell? ⟨gk, k, none⟩ = some u := ⟨_, by rw [hck k (by omega)]; exact List.getElem?_eq_getElem (by simp [rowTo_len]; exact hlk)⟩
            have hff := hfk k
            have hou := Lib.hid hou0
            have hM' := Lib.hid hM
            clear hck hfk hou0 hM
            go_wp2_with fail
            go_region_with ((with_reducible refine (HA.out _ (by exact hb'.out.drew) n k hlt hlk).mono ?_); rintro e w4 ⟨rfl, hb4⟩; have hc1 := (hb4.cell (p := ⟨w.heap.size, n, none⟩) hg0).trans hu0; have hc2 := (hb4.cell (p := ⟨gk, k, none⟩) hgk).trans hcc; have hc3 := (hb4.frozen (p := ⟨gk, k, none⟩) hgk).trans hff)
            all_goals go_wp2_with fail
            all_goals
              go_roundw
              case rel =>
                have hw4 : Below wr.heap.size wr w4 := (Below.refl _ wr).drew.trans hb4
                have ho4 := (ho'.out.grow hw4).setByte (i := n) (k := k) (at_ n k) hM'.out rfl hc1
                rw [List.set_set, rowTo_set _ _ _ hlk] at ho4
                exact ⟨k+1, by omega, by go_num, ho4.1, (hb'.out.trans (hw4.mono hb'.out.size)).setCell ho4.2 _⟩
              case measure => simp [intOf]; omega
        · have : k = cols := by omega
          subst this
          go_wp2_with fail
          go_roundw
          case rel => exact ⟨n+1, by omega, by go_num, by rw [← fillTo_set _ _ _ _ hlt, ← rowTo_all]; exact ho'.out, hb'.out⟩
          case measure => simp [intOf]; omega
    · have : n = rows := by omega
      subst this
      have ho' := Lib.hid ho
      have hb' := Lib.hid hb
      clear ho hb
      go_wp2_with fail
      go_ret
      refine ⟨_, rfl, ?_, hb'.out⟩
      rw [← fillTo_all]; exact ho'.out
/-- what Check says of one row, of rows, of a matrix -/
def mrow (n0 : Nat) (r : List UInt8) : Int := if 16 < r.length then 2 else if r.length = 0 ∨ r.length ≠ n0 then 1 else 0
def mrows (n0 : Nat) : List (List UInt8) → Int
  | [] => 0
  | r :: rs => if mrow n0 r = 0 then mrows n0 rs else mrow n0 r
/-- the length of the first row -/
def wid (M : List (List UInt8)) : Nat := (M.headD []).length
def mcheck (M : List (List UInt8)) : Int := if 16 < M.length then 2 else if M.length = 0 then 1 else mrows (wid M) M
theorem mrows_drop {n0 : Nat} {M : List (List UInt8)} {k : Nat} {r : List UInt8} (h : M[k]? = some r) : mrows n0 (M.drop k) = if mrow n0 r = 0 then mrows n0 (M.drop (k+1)) else mrow n0 r := by
  have hk := (List.getElem?_eq_some_iff.1 h)
  obtain ⟨hk, he⟩ := hk
  rw [List.drop_eq_getElem_cons hk, mrows, he]
theorem mcheck_calls (v : Value) (M : List (List UInt8)) (w : World) (h : RMat w v M) :
    Calls Try.prog 37 #[v] w fun e w' => w = w' ∧ e = .returned (.int .i64 (mcheck M)) := by
  obtain ⟨a, cap, rfl, hc, hm, hx⟩ := h.open
  unfold maxLen at hm
  by_cases h16 : 16 < M.length
  · have hf : Hid (mcheck M = 2) := by unfold mcheck; rw [if_pos h16]; exact Lib.hid rfl
    clear hx
    go_enter Try.func37, Try.ntmps37
    go_wp2
    go_ret
    exact ⟨rfl, by rw [hf.out]; rfl⟩
  by_cases h0 : M.length = 0
  · have hf : Hid (mcheck M = 1) := by unfold mcheck; rw [if_neg h16, if_pos h0]; exact Lib.hid rfl
    have h0' : ((M.length : Int) == 0) = true := by simp [h0]
    clear hx h0
    go_enter Try.func37, Try.ntmps37
    go_wp2
    go_ret
    exact ⟨rfl, by rw [hf.out]; rfl⟩
  obtain ⟨b, off, rfl, hrow⟩ := hx (by omega)
  obtain ⟨r0, hr0⟩ : ∃ r0, M[0]? = some r0 := ⟨_, List.getElem?_eq_getElem (by omega)⟩
  obtain ⟨u0, hu0, hb0⟩ := hrow 0 r0 hr0
  obtain ⟨a0, c0, rfl, _, hm0, _⟩ := hb0.open
  have h0' : ((M.length : Int) == 0) = false := by rw [beq_eq_false_iff_ne]; omega
  have hf : Hid (mcheck M = mrows r0.length (M.drop 0)) := by
    unfold mcheck wid; rw [if_neg h16, if_neg h0]
    have : M.headD [] = r0 := by cases M <;> simp_all
    rw [this]; exact Lib.hid rfl
  have hrow' := Lib.hid hrow
  unfold maxLen at hm0
  simp only [Nat.add_zero] at hu0
  clear hrow h0
  have hr0' := Lib.hid hr0
  clear hr0
  go_enter Try.func37, Try.ntmps37
  go_wp2
  go_loop [15] (fun i => ∃ k : Nat, k ≤ M.length ∧ i = .int .i64 k ∧ Hid (mcheck M = mrows r0.length (M.drop k))) (fun i => M.length - (intOf i).toNat)
  case atStart => exact ⟨0, by omega, rfl, hf⟩
  case round =>
    clear hf
    obtain ⟨k, hk, rfl, hf⟩ := hrel
    by_cases hlt : k < M.length
    · obtain ⟨r, hr⟩ : ∃ r, M[k]? = some r := ⟨_, List.getElem?_eq_getElem hlt⟩
      obtain ⟨u, hu, hbr⟩ := hrow'.out k r hr
      obtain ⟨ar, cr, rfl, _, hmr, _⟩ := hbr.open
      have hs := Lib.hid (mrows_drop (n0 := r0.length) hr)
      unfold maxLen at hmr
      clear hr hbr
      by_cases c1 : 16 < r.length
      · have hz : Hid (mrow r0.length r = 2) := by unfold mrow; rw [if_pos c1]; exact Lib.hid rfl
        go_wp2
        go_ret
        exact ⟨rfl, by rw [hf.out, hs.out, hz.out]; rfl⟩
      by_cases c2 : r.length = 0
      · have hz : Hid (mrow r0.length r = 1) := by unfold mrow; rw [if_neg c1, if_pos (.inl c2)]; exact Lib.hid rfl
        have c2' : ((r.length : Int) == 0) = true := by simp [c2]
        clear c2
        go_wp2
        go_ret
        exact ⟨rfl, by rw [hf.out, hs.out, hz.out]; rfl⟩
      have c2' : ((r.length : Int) == 0) = false := by rw [beq_eq_false_iff_ne]; omega
      by_cases c3 : r.length = r0.length
      · have hz : Hid (mrow r0.length r = 0) := by unfold mrow; rw [if_neg c1, if_neg (by omega)]; exact Lib.hid rfl
        have c3' : ((r.length : Int) != (r0.length : Int)) = false := by simp [c3]
        clear c3
        go_wp2
        go_round
        case rel => exact ⟨k+1, by omega, by go_num, by unfold Hid; rw [hf.out, hs.out, if_pos hz.out]⟩
        case measure => simp [intOf]; omega
      · have hz : Hid (mrow r0.length r = 1) := by unfold mrow; rw [if_neg c1, if_pos (.inr c3)]; exact Lib.hid rfl
        have c3' : ((r.length : Int) != (r0.length : Int)) = true := by rw [bne_iff_ne]; omega
        clear c3
        go_wp2
        go_ret
        exact ⟨rfl, by rw [hf.out, hs.out, hz.out]; rfl⟩
    · have : k = M.length := by omega
      subst this
      have hz : Hid (mcheck M = 0) := by unfold Hid; rw [hf.out]; simp [mrows]
      go_wp2
      go_ret
      exact ⟨rfl, by rw [hz.out]; rfl⟩
end Go.Proofs.Ytphehfllcmbpkaa
