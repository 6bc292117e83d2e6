/- The contracts of package matrix, third part: rows that are worked on. No condition. -/
import Derived.Test.YtphehfllcmbpkaaMatB
namespace Go.Proofs.Ytphehfllcmbpkaa
open Go Go.RowKit GF
set_option maxRecDepth 100000
set_option maxHeartbeats 1000000
def scaleTo (r : List UInt8) (f : UInt8) (k : Nat) : List UInt8 := tabRow r.length fun j => if j < k then gmul (nb r j) f else nb r j
def scaleRow (r : List UInt8) (f : UInt8) : List UInt8 := tabRow r.length fun j => gmul (nb r j) f
theorem tabRow_len (n f) : (tabRow n f).length = n := by simp [tabRow]
theorem nb_tabRow {n : Nat} {f : Nat → UInt8} {k : Nat} (h : k < n) : nb (tabRow n f) k = f k := by simp [nb, tabRow, List.getD, h]
theorem tabRow_self (r : List UInt8) : tabRow r.length (nb r) = r := by
  apply List.ext_getElem
  · simp [tabRow]
  · intro i h1 h2; simp [tabRow, nb, h2]
theorem tabRow_congr {n : Nat} {f g : Nat → UInt8} (h : ∀ k, k < n → f k = g k) : tabRow n f = tabRow n g := by
  unfold tabRow; apply List.map_congr_left; intro k hk; exact h k (List.mem_range.1 hk)
theorem tabRow_set {n : Nat} {f : Nat → UInt8} {k : Nat} {x : UInt8} (g : Nat → UInt8) (h : ∀ j, j < n → g j = if j = k then x else f j) : (tabRow n f).set k x = tabRow n g := by
  apply List.ext_getElem
  · simp [tabRow]
  · intro i h1 h2
    simp [tabRow] at h1 h2
    have := h i h2
    simp [tabRow, List.getElem_set, this]
    by_cases e : k = i
    · simp [e]
    · have e2 : ¬ i = k := fun h => e h.symm
      simp [e, e2]
theorem scaleTo_zero (r f) : scaleTo r f 0 = r := by
  unfold scaleTo; simp; exact tabRow_self r
theorem scaleTo_all (r f) : scaleTo r f r.length = scaleRow r f := tabRow_congr fun _ hk => if_pos hk
theorem scaleTo_set (r f) (k : Nat) : (scaleTo r f k).set k (gmul (nb r k) f) = scaleTo r f (k+1) := by
  refine tabRow_set _ fun j hj => ?_
  by_cases h : j = k
  · subst h; simp
  · by_cases h2 : j < k
    · rw [if_neg h, if_pos h2, if_pos (by omega)]
    · rw [if_neg h, if_neg h2, if_neg (by omega)]
theorem getD_set_self {α} {l : List α} {i : Nat} {x d : α} (h : i < l.length) : (l.set i x).getD i d = x := by simp [List.getD, h]
theorem getD_set_ne {α} {l : List α} {i j : Nat} {x d : α} (h : i ≠ j) : (l.set i x).getD j d = l.getD j d := by simp [List.getD, List.getElem?_set_ne h]
theorem scale_calls (S : Nat → Prop) (v : Value) (M : List (List UInt8)) (i : Nat) (f : UInt8) (w : World) (ho : OMat S w v M) (hi : i < M.length) (hl : (M.getD i []).length ≤ 1000) :
    Calls Try.prog 92 #[v, .int .i64 i, .int .u8 (B f)] w fun e w' => e = .returned (.tuple #[]) ∧ OMat S w' v (M.set i (scaleRow (M.getD i []) f)) ∧ Kp S w w' := by
  obtain ⟨g, cap, rfl, hS, hg, hn, hm, hf, hrow⟩ := ho.shape (by omega)
  obtain ⟨u, hu, hou, _⟩ := hrow i (M.getD i []) (by simp [List.getD, hi])
  obtain ⟨ar, cr, rfl, hcr, hmr, _⟩ := hou.rd.open
  have h0 : M.set i (scaleTo (M.getD i []) f 0) = M := by rw [scaleTo_zero]; simp [List.getD, hi]
  have HO : Hid (OMat S w (.slice (some ⟨g, 0, none⟩) M.length cap) (M.set i (scaleTo (M.getD i []) f 0))) := by rw [h0]; exact Lib.hid ho
  unfold maxLen at hm hmr
  clear ho hrow hf hou h0
  generalize hr : M.getD i [] = r at *
  clear hr
  go_enter Try.func92, Try.ntmps92
  go_wp2_with fail
  go_loopw [12] (fun x wr => ∃ k : Nat, k ≤ r.length ∧ x = .int .i64 k ∧ OMat S wr (.slice (some ⟨g, 0, none⟩) M.length cap) (M.set i (scaleTo r f k)) ∧ Kp S w wr) (fun x _ => r.length - (intOf x).toNat)
  case atStart => exact ⟨0, by omega, rfl, HO.out, Kp.refl _ _⟩
  case round =>
    clear HO
    obtain ⟨k, hk, rfl, ho, hkp⟩ := hrel
    have HO := Lib.hid ho
    have HK := Lib.hid hkp
    clear ho hkp
    by_cases hlt : k < r.length
    · have hgd : (M.set i (scaleTo r f k)).getD i [] = scaleTo r f k := getD_set_self hi
      have hln : (scaleTo r f k).length = r.length := tabRow_len _ _
      have hnb : nb (scaleTo r f k) k = nb r k := by rw [scaleTo, nb_tabRow hlt, if_neg (by omega)]
      obtain ⟨g', cap', gk, ck, hv, _, _, hSg, hSk, hg', hgk, h1, h2, h3, h4, h5, _⟩ := HO.out.rowAt (i := i) (k := k) (by rw [List.length_set]; exact hi) (by rw [hgd, hln]; exact hlt)
      simp only [Value.slice.injEq, Option.some.injEq, Addr.mk.injEq, and_true] at hv
      obtain ⟨rfl, -, -⟩ := hv
      rw [hgd, hln] at *
      rw [hnb] at h4
      have HN := Lib.hid hgd
      clear hgd hln hnb
      unfold maxLen at h3
      go_wp2_with fail
      refine region_tail 15 (by kernel_rfl) (by kernel_rfl) ?_
      simp only [List.take_succ_cons, List.take_zero, List.drop_succ_cons, List.drop_zero]
      repeat (first | still_step | still_call (mul_still _ _ _))
      refine wpStill_nil ?_
      go_wp2
      go_roundw
      case rel =>
        have ho4 := (HO.out.setByte (i := i) (k := k) (gmul (nb r k) f) (by rw [List.getElem?_set_self hi]) rfl h1).1
        rw [List.set_set, scaleTo_set] at ho4
        exact ⟨k+1, by omega, by go_num, ho4.drew, (HK.out.setIn hSk _).drew⟩
      case measure => simp [intOf]; omega
    · have : k = r.length := by omega
      subst this
      go_wp2
      go_end0
      exact ⟨rfl, by rw [← scaleTo_all]; exact HO.out, HK.out⟩
def addTo (a b : List UInt8) (f : UInt8) (k : Nat) : List UInt8 := tabRow a.length fun j => if j < k then nb a j ^^^ gmul f (nb b j) else nb a j
def addRow (a b : List UInt8) (f : UInt8) : List UInt8 := tabRow a.length fun j => nb a j ^^^ gmul f (nb b j)
theorem addTo_zero (a b f) : addTo a b f 0 = a := by
  unfold addTo; simp; exact tabRow_self a
theorem addTo_all (a b f) : addTo a b f a.length = addRow a b f := tabRow_congr fun _ hk => if_pos hk
theorem addTo_set (a b f) (k : Nat) : (addTo a b f k).set k (nb a k ^^^ gmul f (nb b k)) = addTo a b f (k+1) := by
  refine tabRow_set _ fun j hj => ?_
  by_cases h : j = k
  · subst h; simp
  · by_cases h2 : j < k
    · rw [if_neg h, if_pos h2, if_pos (by omega)]
    · rw [if_neg h, if_neg h2, if_neg (by omega)]
theorem add_calls (S : Nat → Prop) (v : Value) (M : List (List UInt8)) (i j : Nat) (f : UInt8) (w : World) (ho : OMat S w v M) (hi : i < M.length) (hj : j < M.length) (hij : i ≠ j) (hl : (M.getD i []).length = (M.getD j []).length) (hl2 : (M.getD j []).length ≤ 1000) :
    Calls Try.prog 93 #[v, .int .i64 i, .int .i64 j, .int .u8 (B f)] w fun e w' => e = .returned (.tuple #[]) ∧ OMat S w' v (M.set i (addRow (M.getD i []) (M.getD j []) f)) ∧ Kp S w w' := by
  obtain ⟨g, cap, rfl, hS, hg, hn, hm, hf, hrow⟩ := ho.shape (by omega)
  obtain ⟨u, hu, hou, hub⟩ := hrow j (M.getD j []) (by simp [List.getD, hj])
  obtain ⟨ar, cr, rfl, hcr, hmr, hxr⟩ := hou.rd.open
  have h0 : M.set i (addTo (M.getD i []) (M.getD j []) f 0) = M := by rw [addTo_zero]; simp [List.getD, hi]
  have HO : Hid (OMat S w (.slice (some ⟨g, 0, none⟩) M.length cap) (M.set i (addTo (M.getD i []) (M.getD j []) f 0))) := by rw [h0]; exact Lib.hid ho
  unfold maxLen at hm hmr
  clear hrow hf hou h0 hxr
  generalize hr : M.getD i [] = r at *
  generalize hr2 : M.getD j [] = r2 at *
  have HR2 := Lib.hid hr2
  have HL := Lib.hid hl
  -- the other row's slot stays what it is, in every round
  have HSL : Hid (∀ wr k, OMat S wr (.slice (some ⟨g, 0, none⟩) M.length cap) (M.set i (addTo r r2 f k)) → wr.cell? ⟨g, j, none⟩ = some (.slice ar r2.length cr) → k < r2.length → ∃ gk, ar = some ⟨gk, 0, none⟩ ∧ wr.cell? ⟨gk, k, none⟩ = some (.int .u8 (B (nb r2 k)))) := by
    intro wr k hwr hc hk
    have e2 : (M.set i (addTo r r2 f k)).getD j [] = r2 := by rw [getD_set_ne hij, hr2]
    obtain ⟨g', cap', gk, ck, hv, _, _, _, _, _, _, h1, _, _, h4, _, _⟩ := hwr.rowAt (i := j) (k := k) (by rw [List.length_set]; exact hj) (by rw [e2]; exact hk)
    simp only [Value.slice.injEq, Option.some.injEq, Addr.mk.injEq, and_true] at hv
    obtain ⟨rfl, -, -⟩ := hv
    rw [hc] at h1
    simp only [Option.some.injEq, Value.slice.injEq] at h1
    rw [e2] at h4
    exact ⟨gk, h1.1, h4⟩
  clear hr hr2 hl ho
  go_enter Try.func93, Try.ntmps93
  go_wp2_with fail
  go_loopw [15] (fun x wr => ∃ k : Nat, k ≤ r2.length ∧ x = .int .i64 k ∧ OMat S wr (.slice (some ⟨g, 0, none⟩) M.length cap) (M.set i (addTo r r2 f k)) ∧ Kp S w wr ∧ wr.cell? ⟨g, j, none⟩ = some (.slice ar r2.length cr)) (fun x _ => r2.length - (intOf x).toNat)
  case atStart => exact ⟨0, by omega, rfl, HO.out, Kp.refl _ _, hu⟩
  case round =>
    clear HO hu
    obtain ⟨k, hk, rfl, ho, hkp, hcj⟩ := hrel
    have HO := Lib.hid ho
    have HK := Lib.hid hkp
    clear ho hkp
    by_cases hlt : k < r2.length
    · obtain ⟨gj, rfl, hcjk⟩ := HSL.out wr k HO.out hcj hlt
      have hgd : (M.set i (addTo r r2 f k)).getD i [] = addTo r r2 f k := getD_set_self hi
      have hln : (addTo r r2 f k).length = r.length := tabRow_len _ _
      have hnb : nb (addTo r r2 f k) k = nb r k := by rw [addTo, nb_tabRow (by rw [HL.out]; exact hlt), if_neg (by omega)]
      obtain ⟨g', cap', gk, ck, hv, _, _, hSg, hSk, hg', hgk, h1, h2, h3, h4, h5, _⟩ := HO.out.rowAt (i := i) (k := k) (by rw [List.length_set]; exact hi) (by rw [hgd, hln, HL.out]; exact hlt)
      simp only [Value.slice.injEq, Option.some.injEq, Addr.mk.injEq, and_true] at hv
      obtain ⟨rfl, -, -⟩ := hv
      rw [hgd, hln] at *
      rw [hnb] at h4
      have hlr : k < r.length := by rw [HL.out]; exact hlt
      have hne : g ≠ gk := by
        intro e
        subst e
        obtain ⟨g'', cap'', hv'', _, _, _, _, _, hrow''⟩ := HO.out.shape (by rw [List.length_set]; omega)
        simp only [Value.slice.injEq, Option.some.injEq, Addr.mk.injEq, and_true] at hv''
        obtain ⟨rfl, -, -⟩ := hv''
        obtain ⟨u', hu', _, hne'⟩ := hrow'' i _ (List.getElem?_set_self hi)
        rw [h1] at hu'
        obtain rfl := Option.some.inj hu'
        exact hne' rfl
      clear hgd hln hnb
      unfold maxLen at h3
      go_wp2_with fail
      refine region_tail 12 (by kernel_rfl) (by kernel_rfl) ?_
      simp only [List.take_succ_cons, List.take_zero, List.drop_succ_cons, List.drop_zero]
      repeat (first | still_step | still_call (mul_still _ _ _))
      refine wpStill_nil ?_
      go_wp2
      go_roundw
      case rel =>
        have ho4 := (HO.out.setByte (i := i) (k := k) (nb r k ^^^ gmul f (nb r2 k)) (by rw [List.getElem?_set_self hi]) rfl h1).1
        rw [List.set_set, addTo_set] at ho4
        refine ⟨k+1, by omega, by go_num, ho4.drew, (HK.out.setIn hSk _).drew, ?_⟩
        rw [← hcj]
        exact World.cell?_of_block (w := wr) (heap_setCell_other wr ⟨gk, k, none⟩ g _ hne)
      case measure => simp [intOf]; omega
    · have : k = r2.length := by omega
      subst this
      go_wp2
      go_end0
      exact ⟨rfl, by rw [← addTo_all, HL.out]; exact HO.out, HK.out⟩
theorem clear1_calls (u : Value) (r : List UInt8) (c : Nat) (p : Addr) (w : World) (hu : RBytes w u r) (hc : c < r.length) (hp : w.cell? p = some (.int .i64 c)) :
    Calls Try.prog 90 #[u, .pointer (some p)] w fun e w' => w = w' ∧ e = .returned (.bool (nb r c != 0)) := by
  obtain ⟨a, cap, rfl, h1, h2, hx⟩ := hu.open
  obtain ⟨b, off, rfl, hcell⟩ := hx (by omega)
  have h3 := hcell c hc
  have hz := Lib.hid (B_ne0 (nb r c))
  unfold maxLen at h2
  clear hx hcell hu
  go_enter Try.func90, Try.ntmps90
  go_wp2
  go_ret
  exact ⟨rfl, by rw [← hz.out]; rfl⟩
/-- r is the first place below n where p holds, or -1 -/
def IdxSpec (p : Nat → Bool) (n : Nat) (r : Int) : Prop := (∃ i : Nat, i < n ∧ r = i ∧ p i = true ∧ ∀ j, j < i → p j = false) ∨ (r = -1 ∧ ∀ j, j < n → p j = false)
theorem Rds.slot {w a n cap vs} (h : Rds w (.slice a n cap) 1 vs) : vs.length = n ∧ n ≤ cap ∧ cap ≤ maxLen ∧ (0 < n → ∃ b off, a = some ⟨b, off, none⟩ ∧ ∀ j u, vs[j]? = some u → w.cell? ⟨b, off + j, none⟩ = some u) := by
  have h' := h
  obtain ⟨a', n', cap', h1, hl, hc, hm, _⟩ := h
  simp only [Value.slice.injEq] at h1
  obtain ⟨rfl, rfl, rfl⟩ := h1
  exact ⟨by omega, hc, hm, fun h0 => h'.addr h0⟩
theorem idxRows_calls (v : Value) (vs : List Value) (f : FuncId) (cap : Array Value) (p : Nat → Bool) (w : World) (hcf : ∀ args w, (callFunc f args).run Try.prog w = .ok (.enter f args) w) (hr : Rds w v 1 vs)
    (hp : ∀ i u, vs[i]? = some u → Calls Try.prog f (#[u] ++ cap) w fun e w' => w = w' ∧ e = .returned (.bool (p i))) :
    Calls Try.prog 89 #[v, .func (.func f) #[] cap] w fun e w' => w = w' ∧ ∃ r : Int, e = .returned (.int .i64 r) ∧ IdxSpec p vs.length r := by
  have hr' := hr
  obtain ⟨a, n, cp, rfl, -⟩ := hr
  obtain ⟨rfl, h1, h2, hx⟩ := hr'.slot
  have HP := Lib.hid hp
  unfold maxLen at h2
  clear hp hr'
  go_enter Try.func89, Try.ntmps89
  go_wp2_with fail
  go_loop [8] (fun x => ∃ k : Nat, k ≤ vs.length ∧ x = .int .i64 k ∧ Hid (∀ j, j < k → p j = false)) (fun x => vs.length - (intOf x).toNat)
  case atStart => exact ⟨0, by omega, rfl, fun j hj => by omega⟩
  case round =>
    obtain ⟨k, hk, rfl, hq⟩ := hrel
    by_cases hlt : k < vs.length
    · obtain ⟨b, off, rfl, hce⟩ := hx (by omega)
      have h3 := hce k _ (List.getElem?_eq_getElem hlt)
      have HU := Lib.hid (List.getElem?_eq_getElem hlt)
      generalize vs[k] = u at *
      clear hx hce
      cases hpk : p k with
      | true =>
        have HPK := Lib.hid hpk
        have HC := HP.out k u HU.out
        rw [hpk] at HC
        have HC' := Lib.hid HC
        clear hpk HC
        go_wp2_with (with_reducible refine (HC'.out).mono ?_; rintro e w1 ⟨rfl, rfl⟩)
        go_ret
        exact ⟨rfl, _, rfl, .inl ⟨k, hlt, rfl, HPK.out, hq.out⟩⟩
      | false =>
        have HPK := Lib.hid hpk
        have HC := HP.out k u HU.out
        rw [hpk] at HC
        have HC' := Lib.hid HC
        clear hpk HC
        go_wp2_with (with_reducible refine (HC'.out).mono ?_; rintro e w1 ⟨rfl, rfl⟩)
        go_round
        case rel =>
          refine ⟨k+1, by omega, by go_num, fun j hj => ?_⟩
          by_cases e : j = k
          · subst e; exact HPK.out
          · exact hq.out j (by omega)
        case measure => simp [intOf]; omega
    · have : k = vs.length := by omega
      subst this
      clear hx
      go_wp2_with fail
      go_ret
      exact ⟨rfl, _, rfl, .inr ⟨rfl, hq.out⟩⟩
def swapRows (R : List (List UInt8)) (a b : Nat) : List (List UInt8) := (R.set a (R.getD b [])).set b (R.getD a [])
def elimTo (R : List (List UInt8)) (done c k : Nat) : List (List UInt8) :=
  (List.range R.length).map fun i => if i < k ∧ i ≠ done then addRow (R.getD i []) (R.getD done []) (ent R i c) else R.getD i []
def elim (R : List (List UInt8)) (done c : Nat) : List (List UInt8) := elimTo R done c R.length
def scaledAt (R : List (List UInt8)) (done c : Nat) : List (List UInt8) := R.set done (scaleRow (R.getD done []) (ginv (ent R done c)))
def pivot (R : List (List UInt8)) (done c : Nat) : Option Nat := (List.range (R.length - done)).find? fun i => ent R (done + i) c != 0
def pivotStep (R : List (List UInt8)) (done c i : Nat) : List (List UInt8) := elim (scaledAt (swapRows R done (done + i)) done c) done c
def clr : Nat → Nat → List (List UInt8) → Nat → List (List UInt8) × Nat
  | 0, _, R, done => (R, done)
  | n+1, c, R, done => match pivot R done c with
    | none => clr n (c+1) R done
    | some i => if done + 1 = R.length then (pivotStep R done c i, done + 1) else clr n (c+1) (pivotStep R done c i) (done + 1)
theorem swapRows_len (R a b) : (swapRows R a b).length = R.length := by simp [swapRows]
theorem elimTo_len (R done c k) : (elimTo R done c k).length = R.length := by simp [elimTo]
theorem scaledAt_len (R done c) : (scaledAt R done c).length = R.length := by simp [scaledAt]
theorem pivotStep_len (R done c i) : (pivotStep R done c i).length = R.length := by simp [pivotStep, elim, elimTo_len, scaledAt_len, swapRows_len]
theorem getD_map_range {α} {n i : Nat} {f : Nat → α} {d : α} (h : i < n) : ((List.range n).map f).getD i d = f i := by simp [List.getD, h]
theorem elimTo_getD {R : List (List UInt8)} {done c k i : Nat} (h : i < R.length) : (elimTo R done c k).getD i [] = if i < k ∧ i ≠ done then addRow (R.getD i []) (R.getD done []) (ent R i c) else R.getD i [] := getD_map_range h
theorem elimTo_zero (R done c) : elimTo R done c 0 = R := by
  apply List.ext_getElem
  · simp [elimTo]
  · intro i h1 h2; simp [elimTo, List.getD, h2]
theorem elimTo_skip {R : List (List UInt8)} {done c : Nat} : elimTo R done c (done + 1) = elimTo R done c done := by
  unfold elimTo; apply List.map_congr_left; intro i _
  have : (i < done + 1 ∧ i ≠ done) ↔ (i < done ∧ i ≠ done) := by omega
  simp only [this]
theorem elimTo_set {R : List (List UInt8)} {done c k : Nat} (_hk : k < R.length) (hd : k ≠ done) : (elimTo R done c k).set k (addRow (R.getD k []) (R.getD done []) (ent R k c)) = elimTo R done c (k + 1) := by
  apply List.ext_getElem
  · simp [elimTo]
  · intro i h1 h2
    simp [elimTo] at h2
    simp only [elimTo, List.getElem_set, List.getElem_map, List.getElem_range]
    by_cases e : k = i
    · subst e; rw [if_pos rfl, if_pos ⟨by omega, hd⟩]
    · rw [if_neg e]
      have : (i < k ∧ i ≠ done) ↔ (i < k + 1 ∧ i ≠ done) := by omega
      simp only [this]
theorem swapRows_getD {R : List (List UInt8)} {a b i : Nat} (ha : a < R.length) (hb : b < R.length) : (swapRows R a b).getD i [] = if i = b then R.getD a [] else if i = a then R.getD b [] else R.getD i [] := by
  unfold swapRows
  by_cases h1 : i = b
  · subst h1; rw [if_pos rfl, getD_set_self (by simpa using hb)]
  · rw [if_neg h1, getD_set_ne (fun e => h1 e.symm)]
    by_cases h2 : i = a
    · subst h2; rw [if_pos rfl, getD_set_self ha]
    · rw [if_neg h2, getD_set_ne (fun e => h2 e.symm)]
theorem swapRows_same {R : List (List UInt8)} {a : Nat} (_ha : a < R.length) : swapRows R a a = R := by
  unfold swapRows; simp [List.getD, _ha]
theorem swapRows_flat {R : List (List UInt8)} {m a b : Nat} (h : Flat R m) (ha : a < R.length) (hb : b < R.length) : Flat (swapRows R a b) m := by
  intro i hi
  rw [swapRows_len] at hi
  rw [swapRows_getD ha hb]
  split
  · exact h a ha
  · split
    · exact h b hb
    · exact h i hi
theorem scaledAt_getD {R : List (List UInt8)} {done c i : Nat} (h : done < R.length) : (scaledAt R done c).getD i [] = if i = done then scaleRow (R.getD done []) (ginv (ent R done c)) else R.getD i [] := by
  unfold scaledAt
  by_cases e : i = done
  · subst e; rw [if_pos rfl, getD_set_self h]
  · rw [if_neg e, getD_set_ne (fun e' => e e'.symm)]
theorem scaledAt_flat {R : List (List UInt8)} {m done c : Nat} (h : Flat R m) (hd : done < R.length) : Flat (scaledAt R done c) m := by
  intro i hi
  rw [scaledAt_len] at hi
  rw [scaledAt_getD hd]
  split
  · rw [scaleRow, tabRow_len]; exact h done hd
  · exact h i hi
theorem elimTo_flat {R : List (List UInt8)} {m done c k : Nat} (h : Flat R m) : Flat (elimTo R done c k) m := by
  intro i hi
  rw [elimTo_len] at hi
  rw [elimTo_getD hi]
  split
  · rw [addRow, tabRow_len]; exact h i hi
  · exact h i hi
theorem pivotStep_flat {R : List (List UInt8)} {m done c i : Nat} (h : Flat R m) (hd : done + i < R.length) : Flat (pivotStep R done c i) m :=
  elimTo_flat (scaledAt_flat (swapRows_flat h (by omega) hd) (by rw [swapRows_len]; omega))
theorem pivot_of {R : List (List UInt8)} {done c : Nat} {r : Int} (h : IdxSpec (fun i => ent R (done + i) c != 0) (R.length - done) r) :
    (r = -1 ∧ pivot R done c = none) ∨ ∃ i : Nat, r = i ∧ done + i < R.length ∧ pivot R done c = some i := by
  rcases h with ⟨i, hi, rfl, hp, hj⟩ | ⟨rfl, hj⟩
  · refine .inr ⟨i, rfl, by omega, ?_⟩
    unfold pivot
    rw [List.find?_range_eq_some]
    exact ⟨hp, List.mem_range.2 hi, fun j h => by have := hj j h; simp only [this]; rfl⟩
  · refine .inl ⟨rfl, ?_⟩
    unfold pivot
    rw [List.find?_range_eq_none]
    intro j h
    have := hj j h
    simp only [this]; rfl
theorem clr_none {R : List (List UInt8)} {done c cols : Nat} (h : pivot R done c = none) (hc : c < cols) : clr (cols - c) c R done = clr (cols - (c + 1)) (c + 1) R done := by
  rw [show cols - c = (cols - (c + 1)) + 1 by omega, clr, h]
theorem clr_last {R : List (List UInt8)} {done c cols i : Nat} (h : pivot R done c = some i) (hc : c < cols) (hd : done + 1 = R.length) : clr (cols - c) c R done = (pivotStep R done c i, done + 1) := by
  rw [show cols - c = (cols - (c + 1)) + 1 by omega, clr, h]; exact if_pos hd
theorem clr_more {R : List (List UInt8)} {done c cols i : Nat} (h : pivot R done c = some i) (hc : c < cols) (hd : done + 1 ≠ R.length) : clr (cols - c) c R done = clr (cols - (c + 1)) (c + 1) (pivotStep R done c i) (done + 1) := by
  rw [show cols - c = (cols - (c + 1)) + 1 by omega, clr, h]; exact if_neg hd
theorem clr_keeps (n m : Nat) : ∀ (k c : Nat) (R : List (List UInt8)) (done : Nat), R.length = n → Flat R m → done ≤ n → (clr k c R done).1.length = n ∧ Flat (clr k c R done).1 m := by
  intro k
  induction k with
  | zero => intro c R done h1 h2 _; exact ⟨h1, h2⟩
  | succ k ih =>
    intro c R done h1 h2 h3
    unfold clr
    cases hp : pivot R done c with
    | none => exact ih _ _ _ h1 h2 h3
    | some i =>
      have hi : done + i < R.length := by
        unfold pivot at hp
        rw [List.find?_range_eq_some] at hp
        have := List.mem_range.1 hp.2.1
        omega
      have e1 : (pivotStep R done c i).length = n := by rw [pivotStep_len, h1]
      have e2 : Flat (pivotStep R done c i) m := pivotStep_flat h2 hi
      dsimp only
      split
      · exact ⟨e1, e2⟩
      · exact ih _ _ _ e1 e2 (by omega)
end Go.Proofs.Ytphehfllcmbpkaa
