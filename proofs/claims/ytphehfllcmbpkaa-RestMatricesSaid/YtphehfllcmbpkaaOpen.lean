/- The row's last step for a law that answers true and leaves what was there as it was; the arguments opened. No condition. -/
import Derived.Test.YtphehfllcmbpkaaStr
import Derived.Test.YtphehfllcmbpkaaChecked
import Derived.ProofKit
import Derived.OpenVars
import Derived.Deep.Slices
import Derived.Deep.Matrix
import Derived.Deep.Strs
namespace Go.Proofs.Ytphehfllcmbpkaa
open Go Go.ChangeShapes Go.WideShapes Go.ChangeAt Go.RowKit
theorem own : ownKnob Try.prog.godebug = none := by kernel_rfl
theorem laidOut : laidOutB Try.prog = true := by kernel_rfl
theorem trodAll_below {H : Type} {enc : TypeId × Value → H} {P : Program} (hl : laidOutB P = true) {W W' : World} (hb : Below W.heap.size W W') :
    ∀ {ts : List TypeId} {vs : List Value} {ds : List (DataW H)} {ps : List MemPlace}, (∀ t ∈ ts, P.readableRec t = true ∧ t < P.types.size) → DataW.TrodAll enc P W 0 (fun _ => true) true ts vs ds ps → (∀ x ∈ ps, x.block < W.heap.size) →
      DataW.TrodAll enc P W' 0 (fun b => decide (b < W.heap.size)) true ts vs ds ps := by
  intro ts
  induction ts with
  | nil =>
    intro vs ds ps _ h _
    obtain ⟨rfl, rfl, rfl⟩ := trodAll_nil h
    exact trodAll_mk0
  | cons t ts ih =>
    intro vs ds ps ht h hlt
    obtain ⟨v, vs', d, ds', p, q, rfl, rfl, rfl, hd, hrest⟩ := trodAll_cons h
    have h1 := ht t (by simp)
    exact trodAll_cons_mk (Below.trod hl h1.1 h1.2 hd hb (fun x hx => hlt x (by simp [hx]))) (ih (fun t' h' => ht t' (by simp [h'])) hrest (fun x hx => hlt x (by simp [hx])))
/-- what a row asks of a law that answers true and leaves what was there as it was -/
theorem post_true {H : Type} {enc : TypeId × Value → H} {W W' : World} {args : Array Value} {ds gs : List (DataW H)} {before : List MemPlace} {s : ChangeSpec} {f : Func} {apart fresh handsOn : Bool}
    (hvars : s.vars = []) (hfn : s.fn H ds = { results := [.lit (.bool true)], args := ds }) (hrt : f.resultTypes = #[4]) (hts : ∀ t ∈ f.params.toList, Try.prog.readableRec t = true ∧ t < Try.prog.types.size)
    (hW : DataW.Whole enc Try.prog f.params.toList s.vars apart W args.toList ds gs before) (hb : Below W.heap.size W W') : s.post enc Try.prog f apart fresh handsOn false W args (.bool true) W' := by
  have hW' := hW
  have hlt := fun x hx => hW.lt x hx
  obtain ⟨p, q, hA, hV, rfl, _, _⟩ := hW
  rw [hvars] at hV
  obtain ⟨rfl, rfl⟩ := trodVars_none hV
  simp only [List.append_nil] at *
  refine ⟨ds, [], p, [], p, [], by simpa using hW', ?_, ?_, ?_, hb.frame _, fun h => by cases h⟩
  · rw [List.append_nil, hfn, hrt]
    exact trodAll_mk1 (shut_bool Try.underlying4 _)
  · rw [List.append_nil, hfn]
    exact trodAll_below laidOut hb hts hA hlt
  · rw [List.append_nil, hfn, hvars]; rfl
theorem cells_u8 : Try.prog.cellsOf 5 = 1 := by kernel_rfl
theorem cells_bytes : Try.prog.cellsOf 25 = 1 := by kernel_rfl
theorem cells_string : Try.prog.cellsOf 9 = 1 := by kernel_rfl
theorem cells_int : Try.prog.cellsOf 3 = 1 := by kernel_rfl
theorem flat_get {α : Type} {sz : Nat} (V : Nat → List α) : ∀ (n : Nat), (∀ i, i < n → (V i).length = sz) → ∀ j, j < n * sz → ((List.range n).flatMap V)[j]? = (V (j / sz))[j % sz]? := by
  intro n
  induction n with
  | zero => intro _ j hj; omega
  | succ n ih =>
    intro hs j hj
    have hl : ((List.range n).flatMap V).length = n * sz := by
      have : ∀ m, m ≤ n → ((List.range m).flatMap V).length = m * sz := by
        intro m
        induction m with
        | zero => intro _; simp
        | succ m ih2 => intro hm; rw [List.range_succ, List.flatMap_append, List.length_append, ih2 (by omega), List.flatMap_cons, List.flatMap_nil, List.append_nil, hs m (by omega), Nat.succ_mul]
      exact this n (Nat.le_refl _)
    rw [List.range_succ, List.flatMap_append, List.flatMap_cons, List.flatMap_nil, List.append_nil]
    by_cases h : j < n * sz
    · rw [List.getElem?_append_left (by omega)]
      exact ih (fun i hi => hs i (by omega)) j h
    · rw [List.getElem?_append_right (by omega), hl]
      have hz : 0 < sz := by rcases Nat.eq_zero_or_pos sz with h0 | h0; { subst h0; simp at hj }; exact h0
      rw [Nat.succ_mul] at hj
      have e1 : j / sz = n := by
        apply Nat.div_eq_of_lt_le
        · omega
        · rw [Nat.succ_mul]; omega
      have e2 : j % sz = j - n * sz := by
        have := Nat.div_add_mod j sz
        rw [e1, Nat.mul_comm] at this; omega
      rw [e1, e2]
theorem flat_len {α : Type} {sz : Nat} (V : Nat → List α) (n : Nat) (hs : ∀ i, i < n → (V i).length = sz) : ((List.range n).flatMap V).length = n * sz := by
  induction n with
  | zero => simp
  | succ n ih => rw [List.range_succ, List.flatMap_append, List.length_append, ih fun i hi => hs i (by omega), List.flatMap_cons, List.flatMap_nil, List.append_nil, hs n (by omega), Nat.succ_mul]
theorem weightsAll_mem {H : Type} {P : Program} {e : TypeId} : ∀ {ds : List (DataW H)} {d : DataW H}, d ∈ ds → ∀ n ∈ d.weights P e, n ∈ DataW.weightsAll P e ds
  | d0 :: ds, d, h, n, hn => by
    simp only [DataW.weightsAll, List.mem_append]
    rcases List.mem_cons.1 h with rfl | h
    · exact Or.inl hn
    · exact Or.inr (weightsAll_mem h n hn)
  | [], _, h, _, _ => by simp at h
/-- no part of it takes more than there is -/
def Wt {H : Type} (P : Program) (t : TypeId) (d : DataW H) : Prop := ∀ n ∈ d.weights P t, n ≤ 140737488351232
/-- a slice that is read, of elements of whatever type: its cells, and what each element reads as -/
theorem open_rds {H : Type} {enc : TypeId × Value → H} {P : Program} {W : World} {held : Bool} {t e sz fuel : Nat} {v : Value} {d : DataW H} {pl : List MemPlace} (ht : P.underlying t = some (.slice e)) (hc : P.cellsOf e = sz) (hz0 : 0 < sz)
    (h : DataW.trod enc P W 0 (fun _ => true) held fuel t [v] = some (d, pl)) (hw : Wt P t d) :
    ∃ (n k : Nat) (V : Nat → List Value) (D : Nat → DataW H) (Pl : Nat → List MemPlace), (∀ i, i < n → (V i).length = sz) ∧ Rds W v sz ((List.range n).flatMap V) ∧ n * P.bytesOf e ≤ 140737488351232 ∧ (∃ a c, v = .slice a n c) ∧
      ∀ i, i < n → DataW.trod enc P W 0 (fun _ => true) held k e (V i) = some (D i, Pl i) ∧ Wt P e (D i) := by
  rcases Go.Deep.open_slice ht h with ⟨h1, h2⟩ | ⟨a, len, cap, m, n, D, Pl, h1, hb, hl, hm, hmm, hx, hel⟩
  · simp at h1
    subst h1
    exact ⟨0, 0, fun _ => [], fun _ => .nil, fun _ => [], fun i hi => by omega, ⟨none, 0, 0, rfl, by simp, by omega, by omega, fun _ => ⟨rfl, rfl⟩, fun ad h => by simp at h⟩, by omega, ⟨none, 0, rfl⟩, fun i hi => by omega⟩
  · simp only [if_true] at hmm
    obtain rfl := hmm
    simp at h1
    subst h1
    rw [hc] at hel
    obtain ⟨V, hV⟩ := Go.Deep.choose_lt (α := List Value) (p := fun i cs' => W.cells? 0 (a.add (i * sz)) sz = some cs' ∧ DataW.trod enc P W 0 (fun _ => true) held n e cs' = some (D i, Pl i)) hel
    simp only [Prod.mk.injEq] at hx
    obtain ⟨rfl, -⟩ := hx
    have hws : ∀ i, i < len → (V i).length = sz := fun i hi => (World.cells?_some (hV i (by omega)).1).2.1
    have hmain : (len + ((List.range (m - len)).map fun j => D (len + j)).length) * P.bytesOf e ≤ 140737488351232 := by
      have := hw ((((List.range len).map D).length + ((List.range (m - len)).map fun j => D (len + j)).length) * P.bytesOf e) (by simp [DataW.weights, ht])
      simpa using this
    refine ⟨len, n, V, D, Pl, hws, ⟨some a, len, m, rfl, flat_len V len hws, hl, hm, fun h => by simp at h, ?_⟩, ?_, ⟨_, _, rfl⟩, ?_⟩
    · rintro ad ⟨⟩
      have hcell : ∀ i, i < len → ∀ q, q < sz → W.cell? ((a.add (i * sz)).add q) = (V i)[q]? := fun i hi q hq => (World.cells?_some (hV i (by omega)).1).2.2 q hq
      have hspot : 0 < len → a.spot = none := by
        intro h0
        have h1 := hcell 0 h0 0 hz0
        rw [List.getElem?_eq_getElem (by rw [hws 0 h0]; exact hz0), Nat.zero_mul] at h1
        have h2 := World.cell?_spot h1
        unfold Addr.add at h2
        simpa using h2
      refine ⟨fun h0 => ?_, fun j u hu => ?_⟩
      · exact hspot h0
      · have hj : j < len * sz := by have := (List.getElem?_eq_some_iff.1 hu).1; rwa [flat_len V len hws] at this
        rw [flat_get V len hws j hj] at hu
        have hz : 0 < sz := by rcases Nat.eq_zero_or_pos sz with h0 | h0; { subst h0; simp at hj }; exact h0
        have hi : j / sz < len := Nat.div_lt_of_lt_mul (by rw [Nat.mul_comm]; exact hj)
        have hq : j % sz < sz := Nat.mod_lt _ hz
        have h1 := hcell (j / sz) hi (j % sz) hq
        rw [hu, Go.Deep.add_add] at h1
        have hs := hspot (Nat.lt_of_le_of_lt (Nat.zero_le _) hi)
        obtain ⟨b, off, spot⟩ := a
        simp only at hs
        subst hs
        rw [Addr.add_lit] at h1
        have : j / sz * sz + j % sz = j := by rw [Nat.mul_comm]; exact Nat.div_add_mod j sz
        rw [this] at h1
        exact h1
    · exact Nat.le_trans (Nat.mul_le_mul_right _ (by omega)) hmain
    · intro i hi
      refine ⟨(hV i (by omega)).2, fun x hx => hw x ?_⟩
      simp only [DataW.weights, ht, List.mem_cons, List.mem_append]
      exact .inr (.inl (weightsAll_mem (List.mem_map.2 ⟨i, List.mem_range.2 hi, rfl⟩) x hx))
theorem map_flat {α β : Type} (n : Nat) (f : Nat → β) (g : β → α) : ((List.range n).flatMap fun i => [g (f i)]) = ((List.range n).map f).map g := by
  rw [List.map_map]
  induction n with
  | zero => rfl
  | succ n ih => rw [List.range_succ, List.flatMap_append, ih, List.map_append]; rfl
theorem flat_congr {α : Type} {n : Nat} {f g : Nat → List α} (h : ∀ i, i < n → f i = g i) : (List.range n).flatMap f = (List.range n).flatMap g := Go.Deep.flatMap_congr_range h
theorem toB (n : Int) (h : (Lit.int .u8 n).wf = true) : ∃ b : UInt8, n = B b := by
  have h2 : 0 ≤ n ∧ n ≤ 255 := by simpa [Lit.wf, IntKind.min, IntKind.max, IntKind.signed, IntKind.bits] using h
  refine ⟨UInt8.ofNat n.toNat, ?_⟩
  unfold B
  simp
  omega
theorem wf64 {n : Int} (h : (Lit.int .i64 n).wf = true) : -9223372036854775808 ≤ n ∧ n ≤ 9223372036854775807 := by
  simpa [Lit.wf, IntKind.min, IntKind.max, IntKind.signed, IntKind.bits] using h
section
variable {H : Type} {enc : TypeId × Value → H} {W : World} {held : Bool} {fuel : Nat} {v : Value} {d : DataW H} {pl : List MemPlace}
theorem open_RInts (h : DataW.trod enc Try.prog W 0 (fun _ => true) held fuel 23 [v] = some (d, pl)) (hw : Wt Try.prog 23 d) : ∃ l, RInts W v l ∧ l.length * 8 ≤ 140737488351232 := by
  obtain ⟨n, k, V, D, Pl, h1, h2, h3, _, h5⟩ := open_rds Try.underlying23 cells_int (by decide) h hw
  obtain ⟨z, hz⟩ := Go.Deep.choose_lt (α := Int) (p := fun i z => V i = [.int .i64 z] ∧ (Lit.int .i64 z).wf = true) (fun i hi => by
    obtain ⟨q, e1, _, e3⟩ := DataW.trod_int Try.underlying3 (h5 i hi).1
    exact ⟨q, e1, e3⟩)
  refine ⟨(List.range n).map z, ⟨?_, ?_⟩, ?_⟩
  · rw [flat_congr (g := fun i => [iv (z i)]) (fun i hi => (hz i hi).1), map_flat n z iv] at h2
    exact h2
  · intro x hx
    obtain ⟨i, hi, rfl⟩ := List.mem_map.1 hx
    exact wf64 (hz i (List.mem_range.1 hi)).2
  · rw [show Try.prog.bytesOf 3 = 8 by kernel_rfl] at h3
    rw [List.length_map, List.length_range]
    exact h3
theorem open_RStrs (h : DataW.trod enc Try.prog W 0 (fun _ => true) held fuel 24 [v] = some (d, pl)) (hw : Wt Try.prog 24 d) : ∃ l, RStrs W v l ∧ l.length * 16 ≤ 140737488351232 := by
  obtain ⟨n, k, V, D, Pl, h1, h2, h3, _, h5⟩ := open_rds Try.underlying24 cells_string (by decide) h hw
  obtain ⟨z, hz⟩ := Go.Deep.choose_lt (α := List UInt8) (p := fun i z => V i = [sv z] ∧ z.length ≤ maxLen) (fun i hi => by
    obtain ⟨q, e1, _, e3⟩ := DataW.trod_string Try.underlying9 (h5 i hi).1
    refine ⟨q.data.toList, ?_, by rw [Array.length_toList]; exact e3⟩
    rw [e1, sv, ← str_of])
  refine ⟨(List.range n).map z, ⟨?_, ?_⟩, ?_⟩
  · rw [flat_congr (g := fun i => [sv (z i)]) (fun i hi => (hz i hi).1), map_flat n z sv] at h2
    exact h2
  · intro x hx
    obtain ⟨i, hi, rfl⟩ := List.mem_map.1 hx
    exact (hz i (List.mem_range.1 hi)).2
  · rw [show Try.prog.bytesOf 9 = 16 by kernel_rfl] at h3
    rw [List.length_map, List.length_range]
    exact h3
theorem open_RBytes (h : DataW.trod enc Try.prog W 0 (fun _ => true) held fuel 25 [v] = some (d, pl)) (hw : Wt Try.prog 25 d) : ∃ l, RBytes W v l ∧ l.length ≤ 140737488351232 := by
  obtain ⟨n, k, V, D, Pl, h1, h2, h3, _, h5⟩ := open_rds Try.underlying25 cells_u8 (by decide) h hw
  obtain ⟨z, hz⟩ := Go.Deep.choose_lt (α := UInt8) (p := fun i z => V i = [.int .u8 (B z)]) (fun i hi => by
    obtain ⟨q, e1, _, e3⟩ := DataW.trod_int Try.underlying5 (h5 i hi).1
    obtain ⟨b, rfl⟩ := toB q e3
    exact ⟨b, e1⟩)
  refine ⟨(List.range n).map z, ?_, ?_⟩
  · rw [flat_congr (g := fun i => [(fun b => Value.int .u8 (B b)) (z i)]) (fun i hi => hz i hi), map_flat n z (fun b => Value.int .u8 (B b))] at h2
    exact h2
  · rw [show Try.prog.bytesOf 5 = 1 by kernel_rfl, Nat.mul_one] at h3
    rw [List.length_map, List.length_range]
    exact h3
theorem open_RMat (h : DataW.trod enc Try.prog W 0 (fun _ => true) held fuel 22 [v] = some (d, pl)) (hw : Wt Try.prog 22 d) :
    ∃ M, RMat W v M ∧ M.length * 24 ≤ 140737488351232 ∧ ∀ k, (M.getD k []).length ≤ 140737488351232 := by
  obtain ⟨n, k, V, D, Pl, h1, h2, h3, _, h5⟩ := open_rds Try.underlying22 cells_bytes (by decide) h hw
  obtain ⟨z, hz⟩ := Go.Deep.choose_lt (α := Value × List UInt8) (p := fun i z => V i = [z.1] ∧ RBytes W z.1 z.2 ∧ z.2.length ≤ 140737488351232) (fun i hi => by
    have hl := h1 i hi
    obtain ⟨u, hu⟩ : ∃ u, V i = [u] := by
      match hv : V i with
      | [u] => exact ⟨u, rfl⟩
      | [] => rw [hv] at hl; simp at hl
      | _ :: _ :: _ => rw [hv] at hl; simp at hl
    have h6 := (h5 i hi).1
    rw [hu] at h6
    obtain ⟨l, e1, e2⟩ := open_RBytes h6 (h5 i hi).2
    exact ⟨(u, l), hu, e1, e2⟩)
  rw [flat_congr (g := fun i => [(fun z : Value × List UInt8 => z.1) (z i)]) (fun i hi => (hz i hi).1), map_flat n z (fun z => z.1)] at h2
  refine ⟨((List.range n).map z).map (·.2), ⟨((List.range n).map z).map (·.1), by simp, h2, ?_⟩, ?_, ?_⟩
  · intro i r hr
    have hi : i < n := by have := (List.getElem?_eq_some_iff.1 hr).1; simpa using this
    simp [hi] at hr
    subst hr
    exact ⟨(z i).1, by simp [hi], (hz i hi).2.1⟩
  · rw [show Try.prog.bytesOf 25 = 24 by kernel_rfl] at h3
    rw [List.length_map, List.length_map, List.length_range]
    exact h3
  · intro i
    by_cases hi : i < n
    · have := (hz i hi).2.2
      simpa [List.getD, hi] using this
    · simp [List.getD, hi]
end
theorem sized {H : Type} {P : Program} {ts : List TypeId} {ds : List (DataW H)} (h : (DataW.weightsEach P ts ds).all (· ≤ reachBytes) = true) {j : Nat} {t : TypeId} {d : DataW H} (ht : ts[j]? = some t) (hd : ds[j]? = some d) : Wt P t d := by
  intro n hn
  have := List.all_eq_true.1 h _ (DataW.weights_mem_each ht hd n hn)
  exact of_decide_eq_true this
end Go.Proofs.Ytphehfllcmbpkaa
