/- What a call owns: slices whose blocks lie in a set S, and matrices of bytes. No condition. -/
import Derived.Test.YtphehfllcmbpkaaMem
namespace Go.Proofs.Ytphehfllcmbpkaa
open Go Go.RowKit
/-- v is a slice of the call's own, in a block of S (or nil), that holds xs (n elements of sz cells) -/
def Own (S : Nat → Prop) (w : World) (e : TypeId) (sz : Nat) (v : Value) (n : Nat) (xs : List Value) : Prop :=
  w.ownsRow 0 e sz v n xs ∧ ∀ g, v.ownBlock = some g → S g
theorem Own.len {S w e sz v n xs} (h : Own S w e sz v n xs) : xs.length = n * sz := h.1.1
theorem Own.lt {S w e sz v n xs} (h : Own S w e sz v n xs) {g : Nat} (hg : v.ownBlock = some g) : g < w.heap.size := (h.1.lt g hg).2
theorem Own.of {S : Nat → Prop} {w e sz v n xs B} (h : w.ownsRow B e sz v n xs) (hS : ∀ g, B ≤ g → g < w.heap.size → S g) : Own S w e sz v n xs := by
  refine ⟨⟨h.1, ?_⟩, fun g hg => hS g (h.lt g hg).1 (h.lt g hg).2⟩
  rcases h.2 with h | ⟨g, cap, cur, h1, h2, h3⟩
  · exact .inl h
  · exact .inr ⟨g, cap, cur, h1, Nat.zero_le _, h3⟩
theorem Own.shape {S w e sz v n xs} (h : Own S w e sz v n xs) :
    (v = .slice none 0 0 ∧ n = 0 ∧ xs = []) ∨ ∃ g cap, v = .slice (some ⟨g, 0, none⟩) n cap ∧ S g ∧ g < w.heap.size ∧ n ≤ cap ∧ cap ≤ maxLen ∧
      (∀ j, j < n * sz → w.cell? ⟨g, j, none⟩ = xs[j]?) ∧ (∀ j, w.frozen? ⟨g, j, none⟩ = false) := by
  obtain ⟨⟨hl, h⟩, hS⟩ := h
  rcases h with ⟨rfl, rfl⟩ | ⟨g, cap, cur, rfl, hb, hg, hn, hm, hs, ht⟩
  · exact .inl ⟨rfl, rfl, by simpa using hl⟩
  · refine .inr ⟨g, cap, rfl, hS g rfl, (Array.getElem?_eq_some_iff.1 hg).1, hn, hm, fun j hj => ?_, fun j => frozen_of_row w g j cur e hg⟩
    rw [cell_of_row w g j cur e (0,0) hg, ← ht, List.getElem?_take, if_pos hj]; simp
theorem Own.rds {S w e sz v n xs} (h : Own S w e sz v n xs) : Rds w v sz xs := by
  have hl := h.len
  rcases h.shape with ⟨rfl, rfl, rfl⟩ | ⟨g, cap, rfl, _, _, hn, hm, hc, _⟩
  · exact ⟨none, 0, 0, rfl, by simp, by omega, by omega, fun _ => ⟨rfl, rfl⟩, fun ad h => by simp at h⟩
  · refine ⟨_, n, cap, rfl, hl, hn, hm, fun h => by simp at h, ?_⟩
    rintro ad ⟨⟩
    refine ⟨fun _ => rfl, fun j u hu => ?_⟩
    have := (List.getElem?_eq_some_iff.1 hu).1
    rw [Nat.zero_add, hc j (by omega)]; exact hu
theorem Own.keep {S T : Nat → Prop} {w w' e sz v n xs} (h : Own S w e sz v n xs) (hk : Kp T w w') (hd : ∀ g, v.ownBlock = some g → ¬ T g) : Own S w' e sz v n xs := by
  refine ⟨⟨h.1.1, ?_⟩, h.2⟩
  rcases h.1.2 with hn | ⟨g, cap, cur, rfl, hb, hgg, rest⟩
  · exact .inl hn
  · exact .inr ⟨g, cap, cur, rfl, hb, by rw [hk.block g (Array.getElem?_eq_some_iff.1 hgg).1 (hd g rfl)]; exact hgg, rest⟩
theorem Own.grow {S : Nat → Prop} {w w' e sz v n xs} (h : Own S w e sz v n xs) (hb : Below w.heap.size w w') : Own S w' e sz v n xs := by
  refine ⟨⟨h.1.1, ?_⟩, h.2⟩
  rcases h.1.2 with hn | ⟨g, cap, cur, rfl, hb', hgg, rest⟩
  · exact .inl hn
  · exact .inr ⟨g, cap, cur, rfl, hb', by rw [hb.block g (Array.getElem?_eq_some_iff.1 hgg).1]; exact hgg, rest⟩
theorem Kp.setCell (w : World) (a : Addr) (u : Value) : Kp (fun k => k = a.block) w (w.setCell a u) :=
  ⟨rfl, rfl, rfl, by simp, fun k _ hk => heap_setCell_other w a k u hk⟩
theorem Kp.mono {S T : Nat → Prop} {w w' : World} (h : Kp S w w') (hs : ∀ k, S k → T k) : Kp T w w' :=
  ⟨h.os, h.tape, h.output, h.size, fun k hk ht => h.block k hk fun h => ht (hs k h)⟩
theorem Kp.drew {S : Nat → Prop} {w w' : World} (h : Kp S w w') : Kp S w w'.drew := ⟨h.os, h.tape, h.output, h.size, h.block⟩
/-- a store into an element of one's own -/
theorem Own.set {S w e sz n cap xs g} (h : Own S w e sz (.slice (some ⟨g, 0, none⟩) n cap) n xs) (j : Nat) (u : Value) :
    Own S (w.setCell ⟨g, j, none⟩ u) e sz (.slice (some ⟨g, 0, none⟩) n cap) n (xs.set j u) := ⟨(h.1.stored j u).1, h.2⟩
theorem Own.mono {S T : Nat → Prop} {w e sz v n xs} (h : Own S w e sz v n xs) (hs : ∀ k, S k → T k) : Own T w e sz v n xs := ⟨h.1, fun g hg => hs g (h.2 g hg)⟩
def bv (b : UInt8) : Value := .int .u8 (B b)
/-- a slice of bytes of the call's own -/
def OBytes (S : Nat → Prop) (w : World) (v : Value) (l : List UInt8) : Prop := Own S w 5 1 v l.length (l.map bv)
theorem OBytes.rd {S w v l} (h : OBytes S w v l) : RBytes w v l := h.rds
/-- a matrix of the call's own: its rows lie in blocks of their own -/
structure OMat (S : Nat → Prop) (w : World) (v : Value) (M : List (List UInt8)) : Prop where
  ex : ∃ vs : List Value, Own S w 25 1 v M.length vs ∧ (∀ (i : Nat) (r : List UInt8), M[i]? = some r → ∃ u, vs[i]? = some u ∧ OBytes S w u r) ∧
    (∀ (i j : Nat) (u x : Value) (g : Nat), vs[i]? = some u → vs[j]? = some x → u.ownBlock = some g → x.ownBlock = some g → i = j) ∧
    (∀ (i : Nat) (u : Value) (g : Nat), vs[i]? = some u → u.ownBlock = some g → v.ownBlock ≠ some g)
theorem OMat.keep {S T : Nat → Prop} {w w' v M} (h : OMat S w v M) (hk : Kp T w w') (hd : ∀ g, S g → ¬ T g) : OMat S w' v M := by
  obtain ⟨vs, h1, h2, h3, h4⟩ := h.ex
  exact ⟨vs, h1.keep hk fun g hg => hd g (h1.2 g hg), fun i r hr => let ⟨u, hu, ho⟩ := h2 i r hr; ⟨u, hu, ho.keep hk fun g hg => hd g (ho.2 g hg)⟩, h3, h4⟩
theorem OMat.grow {S : Nat → Prop} {w w' v M} (h : OMat S w v M) (hb : Below w.heap.size w w') : OMat S w' v M := by
  obtain ⟨vs, h1, h2, h3, h4⟩ := h.ex
  exact ⟨vs, h1.grow hb, fun i r hr => let ⟨u, hu, ho⟩ := h2 i r hr; ⟨u, hu, ho.grow hb⟩, h3, h4⟩
theorem OMat.mono {S T : Nat → Prop} {w v M} (h : OMat S w v M) (hs : ∀ k, S k → T k) : OMat T w v M := by
  obtain ⟨vs, h1, h2, h3, h4⟩ := h.ex
  exact ⟨vs, h1.mono hs, fun i r hr => let ⟨u, hu, ho⟩ := h2 i r hr; ⟨u, hu, ho.mono hs⟩, h3, h4⟩
/-- the parts of a matrix: the value, the outer cells, and one row -/
theorem OMat.shape {S w v M} (h : OMat S w v M) (hM : 0 < M.length) : ∃ g cap, v = .slice (some ⟨g, 0, none⟩) M.length cap ∧ S g ∧ g < w.heap.size ∧ M.length ≤ cap ∧ cap ≤ maxLen ∧ (∀ j, w.frozen? ⟨g, j, none⟩ = false) ∧
    ∀ (i : Nat) (r : List UInt8), M[i]? = some r → ∃ u, w.cell? ⟨g, i, none⟩ = some u ∧ OBytes S w u r ∧ u.ownBlock ≠ some g := by
  obtain ⟨vs, h1, h2, h3, h4⟩ := h.ex
  rcases h1.shape with ⟨_, h0, _⟩ | ⟨g, cap, rfl, hS, hlt, hn, hm, hc, hf⟩
  · omega
  · refine ⟨g, cap, rfl, hS, hlt, hn, hm, hf, fun i r hr => ?_⟩
    obtain ⟨u, hu, ho⟩ := h2 i r hr
    have := (List.getElem?_eq_some_iff.1 hr).1
    refine ⟨u, by rw [hc i (by omega)]; exact hu, ho, fun e => h4 i u g hu e rfl⟩
/-- one byte of one row is stored -/
theorem OMat.setByte {S w v M} (h : OMat S w v M) {i k g n cap : Nat} {r : List UInt8} (x : UInt8) (hr : M[i]? = some r)
    {gv c0 : Nat} {n0 : Nat} (hv : v = .slice (some ⟨gv, 0, none⟩) n0 c0) (hcell : w.cell? ⟨gv, i, none⟩ = some (.slice (some ⟨g, 0, none⟩) n cap)) :
    OMat S (w.setCell ⟨g, k, none⟩ (.int .u8 (B x))) v (M.set i (r.set k x)) ∧ S g := by
  obtain ⟨vs, h1, h2, h3, h4⟩ := h.ex
  subst hv
  have hi := (List.getElem?_eq_some_iff.1 hr).1
  have hl := h1.len
  obtain ⟨u, hu, ho⟩ := h2 i r hr
  have hcu : some (Value.slice (some ⟨g, 0, none⟩) n cap) = some u := by
    rcases h1.shape with ⟨h0, _, _⟩ | ⟨g', cap', h0, _, _, hn, hm, hc, hf⟩
    · simp at h0
    · simp only [Value.slice.injEq, Option.some.injEq, Addr.mk.injEq, and_true] at h0
      obtain ⟨rfl, rfl, rfl⟩ := h0
      rw [← hcell, hc i (by omega)]; exact hu
  obtain rfl := Option.some.inj hcu
  have hSg : S g := ho.2 g rfl
  have hgv : gv ≠ g := fun e => h4 i _ g hu rfl (by simp [Value.ownBlock, e])
  refine ⟨⟨vs, ?_, ?_, h3, ?_⟩, hSg⟩
  · rw [List.length_set]
    exact h1.keep (Kp.setCell w ⟨g, k, none⟩ _) (by intro g' h' e; simp only [Value.ownBlock, Option.some.injEq] at h'; simp at e; omega)
  · intro j r' hr'
    by_cases hj : j = i
    · subst hj
      rw [List.getElem?_set_self hi] at hr'
      obtain rfl := Option.some.inj hr'
      refine ⟨_, hu, ?_⟩
      have hn : n = r.length := by
        rcases ho.shape with ⟨h0, _, _⟩ | ⟨g', cap', h0, _⟩
        · simp at h0
        · simp only [Value.slice.injEq] at h0; exact h0.2.1
      subst hn
      have := Own.set ho k (.int .u8 (B x))
      unfold OBytes
      rw [List.length_set, List.map_set]; exact this
    · rw [List.getElem?_set_ne (fun e => hj e.symm)] at hr'
      obtain ⟨u', hu', ho'⟩ := h2 j r' hr'
      exact ⟨u', hu', ho'.keep (Kp.setCell w ⟨g, k, none⟩ _) fun g' h' e => hj (h3 j i u' _ g hu' hu (by simp at e; rw [h', e]) rfl)⟩
  · intro j u' g' hu' hg'
    exact h4 j u' g' hu' hg'
/-- a row is put in its place: a new one -/
theorem OMat.setRow {S w v M} (h : OMat S w v M) {i : Nat} (hi : i < M.length) {u : Value} {r : List UInt8} (ho : OBytes S w u r)
    {gv c0 : Nat} {n0 : Nat} (hv : v = .slice (some ⟨gv, 0, none⟩) n0 c0) (hnew : ∀ g, u.ownBlock = some g → g ≠ gv ∧ ∀ (j : Nat) (x : Value), j ≠ i → w.cell? ⟨gv, j, none⟩ = some x → j < M.length → x.ownBlock ≠ some g) :
    OMat S (w.setCell ⟨gv, i, none⟩ u) v (M.set i r) := by
  obtain ⟨vs, h1, h2, h3, h4⟩ := h.ex
  subst hv
  have hl := h1.len
  have hn0 : n0 = M.length := by
    rcases h1.shape with ⟨h0, _, _⟩ | ⟨g', cap', h0, _⟩
    · simp at h0
    · simp only [Value.slice.injEq] at h0; exact h0.2.1
  subst hn0
  have hcell : ∀ j, j < M.length → w.cell? ⟨gv, j, none⟩ = vs[j]? := by
    rcases h1.shape with ⟨h0, _, _⟩ | ⟨g', cap', h0, _, _, hn, hm, hc, hf⟩
    · simp at h0
    · simp only [Value.slice.injEq, Option.some.injEq, Addr.mk.injEq, and_true, true_and] at h0
      obtain ⟨rfl, rfl⟩ := h0
      intro j hj; exact hc j (by omega)
  refine ⟨vs.set i u, ?_, ?_, ?_, ?_⟩
  · rw [List.length_set]; exact Own.set h1 i u
  · intro j r' hr'
    by_cases hj : j = i
    · subst hj
      rw [List.getElem?_set_self hi] at hr'
      obtain rfl := Option.some.inj hr'
      exact ⟨u, by rw [List.getElem?_set_self (by omega)], ho.keep (Kp.setCell w ⟨gv, j, none⟩ _) fun g hg e => (hnew g hg).1 (by simpa using e)⟩
    · rw [List.getElem?_set_ne (fun e => hj e.symm)] at hr'
      obtain ⟨u', hu', ho'⟩ := h2 j r' hr'
      refine ⟨u', by rw [List.getElem?_set_ne (fun e => hj e.symm)]; exact hu', ho'.keep (Kp.setCell w ⟨gv, i, none⟩ _) fun g hg e => ?_⟩
      exact h4 j u' g hu' hg (by simp at e; simp [Value.ownBlock, e])
  · intro j k u' x g hu' hx hg hg'
    by_cases hj : j = i
    · by_cases hk : k = i
      · omega
      · subst hj
        rw [List.getElem?_set_self (by omega)] at hu'
        obtain rfl := Option.some.inj hu'
        rw [List.getElem?_set_ne (fun e => hk e.symm)] at hx
        have hk' : k < M.length := by have := (List.getElem?_eq_some_iff.1 hx).1; omega
        exact ((hnew g hg).2 k x hk (by rw [hcell k hk']; exact hx) hk' hg').elim
    · by_cases hk : k = i
      · subst hk
        rw [List.getElem?_set_self (by omega)] at hx
        obtain rfl := Option.some.inj hx
        rw [List.getElem?_set_ne (fun e => hj e.symm)] at hu'
        have hj' : j < M.length := by have := (List.getElem?_eq_some_iff.1 hu').1; omega
        exact ((hnew g hg').2 j u' hj (by rw [hcell j hj']; exact hu') hj' hg).elim
      · rw [List.getElem?_set_ne (fun e => hj e.symm)] at hu'
        rw [List.getElem?_set_ne (fun e => hk e.symm)] at hx
        exact h3 j k u' x g hu' hx hg hg'
  · intro j u' g hu' hg
    by_cases hj : j = i
    · subst hj
      rw [List.getElem?_set_self (by omega)] at hu'
      obtain rfl := Option.some.inj hu'
      simp only [Value.ownBlock, ne_eq, Option.some.injEq]
      exact fun e => (hnew g hg).1 e.symm
    · rw [List.getElem?_set_ne (fun e => hj e.symm)] at hu'
      exact h4 j u' g hu' hg
/-- a matrix that reads as M -/
def RMat (w : World) (v : Value) (M : List (List UInt8)) : Prop :=
  ∃ vs : List Value, vs.length = M.length ∧ Rds w v 1 vs ∧ ∀ (i : Nat) (r : List UInt8), M[i]? = some r → ∃ u, vs[i]? = some u ∧ RBytes w u r
theorem OMat.rd {S w v M} (h : OMat S w v M) : RMat w v M := by
  obtain ⟨vs, h1, h2, h3, h4⟩ := h.ex
  exact ⟨vs, by rw [h1.len, Nat.mul_one], h1.rds, fun i r hr => let ⟨u, hu, ho⟩ := h2 i r hr; ⟨u, hu, ho.rd⟩⟩
theorem RMat.below {w w' v M} (h : RMat w v M) (hb : Below w.heap.size w w') : RMat w' v M := by
  obtain ⟨vs, h1, h2, h3⟩ := h
  exact ⟨vs, h1, h2.below hb, fun i r hr => let ⟨u, hu, ho⟩ := h3 i r hr; ⟨u, hu, ho.below hb⟩⟩
/-- a matrix taken apart: its row i -/
theorem RMat.open {w v M} (h : RMat w v M) : ∃ a cap, v = .slice a M.length cap ∧ M.length ≤ cap ∧ cap ≤ maxLen ∧
    (0 < M.length → ∃ b off, a = some ⟨b, off, none⟩ ∧ ∀ (i : Nat) (r : List UInt8), M[i]? = some r → ∃ u, w.cell? ⟨b, off + i, none⟩ = some u ∧ RBytes w u r) := by
  obtain ⟨vs, h1, h2, h3⟩ := h
  have h2' := h2
  obtain ⟨a, n, cap, rfl, hl, hc, hm, _⟩ := h2
  have hn : n = M.length := by omega
  subst hn
  refine ⟨a, cap, rfl, hc, hm, fun h0 => ?_⟩
  obtain ⟨b, off, rfl, hce⟩ := Rds.addr h2' h0
  refine ⟨b, off, rfl, fun i r hr => ?_⟩
  obtain ⟨u, hu, ho⟩ := h3 i r hr
  exact ⟨u, hce i u hu, ho⟩
theorem OMat.putNew {S w w2 v M} (h : OMat S w v M) (hb : Below w.heap.size w w2) {i : Nat} (hi : i < M.length) {u : Value} {r : List UInt8} (ho : OBytes S w2 u r) (hnew : ∀ g, u.ownBlock = some g → w.heap.size ≤ g)
    {gv c0 : Nat} {n0 : Nat} (hv : v = .slice (some ⟨gv, 0, none⟩) n0 c0) : OMat S (w2.setCell ⟨gv, i, none⟩ u) v (M.set i r) := by
  obtain ⟨g, cap, h1, hS, hlt, hn, hm, hf, hrow⟩ := h.shape (by omega)
  have hv' := hv
  rw [h1] at hv'
  simp only [Value.slice.injEq, Option.some.injEq, Addr.mk.injEq, and_true] at hv'
  obtain ⟨rfl, _⟩ := hv'
  refine (h.grow hb).setRow hi ho hv fun g' hg' => ?_
  have := hnew g' hg'
  refine ⟨by omega, fun j x hj hx hjl e => ?_⟩
  obtain ⟨u', hu', ho', _⟩ := hrow j _ (List.getElem?_eq_getElem hjl)
  rw [hb.cell (p := ⟨g, j, none⟩) hlt, hu'] at hx
  obtain rfl := Option.some.inj hx
  have := ho'.lt e
  omega
/-- 'make([]T, n)' of one-cell elements: n zeros of the call's own -/
theorem wpList_mk {P : Program} {w : World} {ops : Array Oper} {rest : List Oper} {o : Oper} {a : Act} {Q : Exit → Act → World → Prop}
    (hg : o.guard = none) (l c : Operand) (t : TypeId) (hop : o.op = Op.makeSlice t l c) (e : TypeId) (z : Value) (bytes : Nat) (h1 : P.underlying t = some (.slice e))
    (h2 : (P.info? e).map (fun i => (i.zero, i.size, i.bytes)) = some (some z, 1, bytes)) (hz : z.cells = #[z]) (kl kc : IntKind) (n : Nat) (hl : a.eval l = .int kl n) (hc : a.eval c = .int kc n)
    (b2 : bytes * n ≤ 281474976710656) (b3 : n ≤ maxLen)
    (hK : ∀ w', Below w.heap.size w w' → Own (fun k => w.heap.size ≤ k) w' e 1 (.slice (some ⟨w.heap.size, 0, none⟩) n n) n (List.replicate n z) → wpList P ops Q rest (a.put o.dst (.slice (some ⟨w.heap.size, 0, none⟩) n n)) w') :
    wpList P ops Q (o :: rest) a w := by
  obtain ⟨i, hi, hz0, hz1, hz2⟩ := info_parts h2
  refine wpList_make_full w hg l c t hop w.heap.size e i z 1 h1 hi hz0 hz1 kl kc n n n hl hc rfl rfl (by rw [hz2]; exact b2) b3 (Nat.le_refl _) fun w' hown hgr => ?_
  refine hK w' ((Below.refl _ _).grown hgr (Nat.le_refl _) (by intro k hk; cases hk)) (Own.of (B := w.heap.size) ?_ fun g hg _ => hg)
  rw [hz, Nat.mul_one, toList_madeCells_one] at hown; exact hown
theorem OBytes.zeros {S w v n} (h : Own S w 5 1 v n (List.replicate n (.int .u8 0))) : OBytes S w v (List.replicate n 0) := by
  unfold OBytes; rw [List.length_replicate, List.map_replicate]; exact h
theorem OMat.nils {S w v n} (h : Own S w 25 1 v n (List.replicate n (.slice none 0 0))) : OMat S w v (List.replicate n []) := by
  refine ⟨List.replicate n (.slice none 0 0), by simpa using h, ?_, ?_, ?_⟩
  · intro i r hr
    simp only [List.getElem?_replicate] at hr
    split at hr
    · rename_i hlt
      simp at hr; subst hr
      exact ⟨_, by rw [List.getElem?_replicate, if_pos hlt], ⟨by simpa [OBytes] using World.ownsRow_nil w 0 _ 1, fun g hg => by simp [Value.ownBlock] at hg⟩⟩
    · simp at hr
  · intro i j u x g hu hx hg
    simp only [List.getElem?_replicate] at hu
    split at hu
    · simp at hu; subst hu; simp [Value.ownBlock] at hg
    · simp at hu
  · intro i u g hu hg
    simp only [List.getElem?_replicate] at hu
    split at hu
    · simp at hu; subst hu; simp [Value.ownBlock] at hg
    · simp at hu
theorem OMat.drew {S w v M} (h : OMat S w v M) : OMat S w.drew v M := h.grow (Below.refl _ w).drew
theorem OBytes.drew {S w v l} (h : OBytes S w v l) : OBytes S w.drew v l := Own.grow h (Below.refl _ w).drew
/-- row i of a matrix, and its byte k, ready to be read and written -/
theorem OMat.rowAt {S w v M} (h : OMat S w v M) {i k : Nat} (hi : i < M.length) (hk : k < (M.getD i []).length) :
    ∃ g cap gk ck, v = .slice (some ⟨g, 0, none⟩) M.length cap ∧ M.length ≤ cap ∧ cap ≤ maxLen ∧ S g ∧ S gk ∧ g < w.heap.size ∧ gk < w.heap.size ∧ w.cell? ⟨g, i, none⟩ = some (.slice (some ⟨gk, 0, none⟩) (M.getD i []).length ck) ∧ (M.getD i []).length ≤ ck ∧ ck ≤ maxLen ∧
      w.cell? ⟨gk, k, none⟩ = some (.int .u8 (B (nb (M.getD i []) k))) ∧ w.frozen? ⟨gk, k, none⟩ = false ∧ w.frozen? ⟨g, i, none⟩ = false := by
  obtain ⟨g, cap, hv, hS, hg, hn, hm, hf, hrow⟩ := h.shape (by omega)
  have hr : M[i]? = some (M.getD i []) := by simp [List.getD, hi]
  obtain ⟨u, hu, ho, _⟩ := hrow i _ hr
  have hl := hk
  rcases ho.shape with ⟨_, h0, _⟩ | ⟨gk, ck, rfl, hSk, hgk, hnk, hmk, hck, hfk⟩
  · omega
  · refine ⟨g, cap, gk, ck, hv, hn, hm, hS, hSk, hg, hgk, hu, hnk, hmk, ?_, hfk k, hf i⟩
    rw [hck k (by omega)]
    generalize M.getD i [] = r at *
    simp [bv, nb, hk]
theorem Kp.below {S : Nat → Prop} {w w' : World} (h : Below w.heap.size w w') : Kp S w w' := ⟨h.os, h.tape, h.output, h.size, fun k hk _ => h.block k hk⟩
theorem Kp.setIn {S : Nat → Prop} {w w' : World} (h : Kp S w w') {a : Addr} (ha : S a.block) (u : Value) : Kp S w (w'.setCell a u) :=
  h.trans ((Kp.setCell w' a u).mono fun k hk => by rw [hk]; exact ha)
/-- a cell is stored as what it is -/
theorem setCell_self {w : World} {g j : Nat} {u : Value} (h : w.cell? ⟨g, j, none⟩ = some u) : w.setCell ⟨g, j, none⟩ u = w := by
  have hh : (w.setCell ⟨g, j, none⟩ u).heap = w.heap := by
    apply Array.ext_getElem?
    intro k
    simp only [World.setCell]
    rw [Array.getElem?_modify]
    split
    · rename_i hk
      subst hk
      unfold World.cell? at h
      simp only at h
      cases hg : w.heap[g]? with
      | none => rfl
      | some o =>
        rw [hg] at h
        cases o <;> simp at h ⊢
        rename_i c _ _
        apply Array.ext_getElem?
        intro m
        rw [Array.getElem?_setIfInBounds]
        split
        · rename_i e; subst e
          split
          · exact h.symm
          · rename_i hlt; rw [Array.getElem?_eq_none (by omega)]
        · rfl
    · rfl
  have h2 : w.setCell ⟨g, j, none⟩ u = { w with heap := (w.setCell ⟨g, j, none⟩ u).heap } := rfl
  rw [h2, hh]
theorem Kp.of_grown {w w' : World} {row : Option Nat} (h : w.grownBy w' row) : Kp (fun k => row = some k) w w' :=
  ⟨h.os, h.tape, h.output, h.size, fun k hk hs => h.block k hk (fun e => hs e.symm)⟩
/-- 'append(s, x...)', s of the call's own, x whatever reads: the elements are there, in s's own block or in a new one -/
theorem wpList_app {P : Program} {w : World} {ops : Array Oper} {rest : List Oper} {o : Oper} {a : Act} {Q : Exit → Act → World → Prop} (hgd : o.guard = none) (s x : Operand) (t : TypeId)
    (ho : o.op = .call { callee := .builtin .append, args := #[s, x], argTypes := #[t, t] })
    (e : TypeId) (z : Value) (sz bytes : Nat) (ht : P.underlying t = some (.slice e)) (h2 : (P.info? e).map (fun i => (i.zero, i.size, i.bytes)) = some (some z, sz, bytes)) (hzs : z.cells.size = sz) (hsz : 0 < sz)
    (S : Nat → Prop) (v : Value) (n : Nat) (xs : List Value) (hs : a.eval s = v) (hown : Own S w e sz v n xs)
    (vx : Value) (m : Nat) (news : List Value) (hx : a.eval x = vx) (hr : Rds w vx sz news) (hm : news.length = m * sz) (hone : ∀ u ∈ news, u.oneCell' = true)
    (h63 : n + m ≤ maxLen) (hbytes : (n + m) * bytes ≤ 140737488355328)
    (hK : ∀ v' w', Own (fun k => v.ownBlock = some k ∨ w.heap.size ≤ k) w' e sz v' (n + m) (xs ++ news) → Kp (fun k => v.ownBlock = some k) w w' → wpList P ops Q rest (a.put o.dst v') w') : wpList P ops Q (o :: rest) a w := by
  obtain ⟨i, hi, hz0, hz1, hz2⟩ := info_parts h2
  obtain ⟨ax, mx, cx, rfl, hl, _, _, hno, hcell⟩ := hr
  have hmx : mx = m := Nat.eq_of_mul_eq_mul_right hsz (by omega)
  subst hmx
  cases ax with
  | none =>
    obtain ⟨rfl, rfl⟩ := hno rfl
    have hn0 : news = [] := List.eq_nil_of_length_eq_zero (by omega)
    subst hn0
    refine wpList_append_own_none hgd s x t ho 0 e i sz ht hi v n xs hs hown.1 hx ?_
    exact hK v w (by simpa using ⟨hown.1, fun g hg => .inl hg⟩) (Kp.refl _ _)
  | some ad =>
    obtain ⟨hsp, hc⟩ := hcell ad rfl
    have hc' : ∀ j u, news[j]? = some u → w.cell? (ad.add j) = some u := by
      intro j u hu
      have := hc j u hu
      obtain ⟨b, off, spot⟩ := ad
      have hsp := hsp (by have := (List.getElem?_eq_some_iff.1 hu).1; rcases Nat.eq_zero_or_pos mx with h | h; { subst h; omega }; exact h)
      simp only at hsp
      subst hsp
      rw [Addr.add_lit]; exact this
    rcases hown.1.2 with ⟨rfl, rfl⟩ | ⟨g, cap, cur, rfl, hb, hg, hnc, hcm, hcs, htk⟩
    · have hx0 : xs = [] := List.eq_nil_of_length_eq_zero (by have := hown.1.1; omega)
      subst hx0
      refine wpList_append_own w hgd s x t ho w.heap.size e i z sz bytes ht hi hz0 hz1 hz2 hzs hsz _ 0 [] hs (World.ownsRow_nil w _ e sz) ad mx cx news hx hl hc' hone h63 hbytes (Nat.le_refl _) fun v' w' h1 h2 _ => ?_
      exact hK v' w' (Own.of (B := w.heap.size) h1 fun g hg _ => .inr hg) (Kp.of_grown h2)
    · by_cases hroom : n + mx ≤ cap
      · refine wpList_append_fits w hgd s x t ho 0 e i sz ht hi hz1 g n cap xs hs hown.1 ad mx cx news hx hl hc' hone hroom fun w' h1 h2 => ?_
        exact hK _ w' ⟨h1, fun g' hg' => .inl hg'⟩ (Kp.of_grown h2)
      · refine wpList_append_grows w hgd s x t ho e i z sz bytes ht hi hz0 hz1 hz2 hzs hsz (some ⟨g, 0, none⟩) n cap xs hs (fun h => by simp at h) hown.1.1 ?_ ad mx cx news hx hl hc' hone (by omega) h63 hbytes fun v' w' h1 h2 => ?_
        · rintro b ⟨⟩ j u hu
          exact hown.1.cells (g := g) rfl j u hu
        · exact hK v' w' (Own.of (B := w.heap.size) h1 fun g hg _ => .inr hg) ((Kp.of_grown h2).mono fun k hk => by cases hk)
/-- 'T{}' or s[:0:0]: an empty slice in a block of its own -/
theorem Own.empty (w : World) (e : TypeId) (sz : Nat) : Own (fun k => w.heap.size ≤ k) (w.alloc (.cells #[] e)) e sz (.slice (some ⟨w.heap.size, 0, none⟩) 0 0) 0 [] :=
  ⟨World.ownsRow_lit (base := 0) w #[] 0 (Nat.zero_le _) (Nat.zero_le _) (by simp), fun g hg => by simp [Value.ownBlock] at hg; omega⟩
/-- a row is put behind the others -/
theorem OMat.snoc {S : Nat → Prop} {w w' : World} {v v' u : Value} {M : List (List UInt8)} {r : List UInt8} {vs : List Value} {e : TypeId} (he : e = 25)
    (h2 : ∀ (i : Nat) (r : List UInt8), M[i]? = some r → ∃ u, vs[i]? = some u ∧ OBytes S w u r)
    (h3 : ∀ (i j : Nat) (u x : Value) (g : Nat), vs[i]? = some u → vs[j]? = some x → u.ownBlock = some g → x.ownBlock = some g → i = j)
    (h4 : ∀ (i : Nat) (u : Value) (g : Nat), vs[i]? = some u → u.ownBlock = some g → v.ownBlock ≠ some g ∧ g < w.heap.size) (hvl : vs.length = M.length)
    (hu : OBytes S w u r) (hnew : ∀ g, u.ownBlock = some g → (∀ (i : Nat) (x : Value), vs[i]? = some x → x.ownBlock ≠ some g) ∧ v.ownBlock ≠ some g)
    (hown : Own (fun k => v.ownBlock = some k ∨ w.heap.size ≤ k) w' e 1 v' (M.length + 1) (vs ++ [u])) (hkp : Kp (fun k => v.ownBlock = some k) w w') (hS : ∀ k, v.ownBlock = some k ∨ w.heap.size ≤ k → S k) : OMat S w' v' (M ++ [r]) := by
  subst he
  have hlt : ∀ g, u.ownBlock = some g → g < w.heap.size := fun g hg => Own.lt hu hg
  have hget : ∀ (i : Nat) (x : Value), (vs ++ [u])[i]? = some x → (i < M.length ∧ vs[i]? = some x) ∨ (i = M.length ∧ x = u) := by
    intro i x hx
    by_cases hi : i < M.length
    · rw [List.getElem?_append_left (by omega)] at hx; exact .inl ⟨hi, hx⟩
    · rw [List.getElem?_append_right (by omega), hvl] at hx
      have h0 : i - M.length = 0 := by
        have := (List.getElem?_eq_some_iff.1 hx).1
        simp at this; omega
      rw [h0] at hx
      simp at hx
      exact .inr ⟨by omega, hx.symm⟩
  refine ⟨vs ++ [u], by simpa using hown.mono hS, ?_, ?_, ?_⟩
  · intro i r' hr'
    by_cases hi : i < M.length
    · rw [List.getElem?_append_left hi] at hr'
      obtain ⟨x, hx, ho⟩ := h2 i r' hr'
      exact ⟨x, by rw [List.getElem?_append_left (by omega)]; exact hx, ho.keep hkp fun g hg hv => (h4 i x g hx hg).1 hv⟩
    · rw [List.getElem?_append_right (by omega)] at hr'
      have h0 : i - M.length = 0 := by
        have := (List.getElem?_eq_some_iff.1 hr').1
        simp at this; omega
      rw [h0] at hr'
      simp at hr'
      subst hr'
      refine ⟨u, by rw [List.getElem?_append_right (by omega), hvl, h0]; rfl, hu.keep hkp fun g hg hv => (hnew g hg).2 hv⟩
  · intro i j x y g hx hy hgx hgy
    rcases hget i x hx with ⟨_, hx1⟩ | ⟨hi, rfl⟩
    · rcases hget j y hy with ⟨_, hy1⟩ | ⟨hj, rfl⟩
      · exact h3 i j x y g hx1 hy1 hgx hgy
      · exact ((hnew g hgy).1 i x hx1 hgx).elim
    · rcases hget j y hy with ⟨_, hy1⟩ | ⟨hj, rfl⟩
      · exact ((hnew g hgx).1 j y hy1 hgy).elim
      · omega
  · intro i x g hx hg hv'
    have hb := hown.2 g hv'
    rcases hget i x hx with ⟨_, hx1⟩ | ⟨hi, rfl⟩
    · have := h4 i x g hx1 hg
      rcases hb with h | h
      · exact this.1 h
      · omega
    · have := hlt g hg
      rcases hb with h | h
      · exact (hnew g hg).2 h
      · omega
end Go.Proofs.Ytphehfllcmbpkaa
