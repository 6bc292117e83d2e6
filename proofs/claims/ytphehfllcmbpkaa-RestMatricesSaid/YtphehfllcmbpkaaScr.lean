/- scratch: bytes are written over. No condition. -/
import Derived.Test.YtphehfllcmbpkaaBegM
namespace Go.Proofs.Ytphehfllcmbpkaa
open Go Go.RowKit GF
set_option maxRecDepth 100000
set_option maxHeartbeats 2000000
/-- cells of kind K, in blocks of S, may have been written over by others of that kind: all else is as it was -/
structure Sc (K : Value → Prop) (S : Nat → Prop) (w w' : World) : Prop where
  kp : Kp S w w'
  same : ∀ p u, w.cell? p = some u → ¬ K u → w'.cell? p = some u
  kind : ∀ p u, w.cell? p = some u → K u → ∃ u', w'.cell? p = some u' ∧ K u'
  frz : ∀ p, w'.frozen? p = w.frozen? p
def isByte (u : Value) : Prop := ∃ x : UInt8, u = .int .u8 (B x)
def isText (u : Value) : Prop := ∃ s, u = .string s
theorem Sc.refl (K S w) : Sc K S w w := ⟨Kp.refl _ _, fun _ _ h _ => h, fun _ u h hk => ⟨u, h, hk⟩, fun _ => rfl⟩
theorem Sc.trans {K S w w' w''} (h : Sc K S w w') (h' : Sc K S w' w'') : Sc K S w w'' := by
  refine ⟨h.kp.trans h'.kp, fun p u hu hk => h'.same p u (h.same p u hu hk) hk, fun p u hu hk => ?_, fun p => (h'.frz p).trans (h.frz p)⟩
  obtain ⟨u', h1, h2⟩ := h.kind p u hu hk
  exact h'.kind p u' h1 h2
theorem Sc.mono {K : Value → Prop} {S T : Nat → Prop} {w w'} (h : Sc K S w w') (hs : ∀ k, S k → T k) : Sc K T w w' := ⟨h.kp.mono hs, h.same, h.kind, h.frz⟩
theorem Sc.set {K S w p u x} (hu : w.cell? p = some u) (hK : K u) (hx : K x) (hp : S p.block) : Sc K S w (w.setCell p x) := by
  refine ⟨(Kp.setCell w p x).mono fun k hk => by rw [hk]; exact hp, fun q v hv hk => ?_, fun q v hv hk => ?_, fun q => World.frozen?_setCell _ _ _ _⟩
  · rw [World.cell?_setCell_other w _ _ _ (fun e => ?_)]
    · exact hv
    · subst e
      rw [hu] at hv
      obtain rfl := Option.some.inj hv
      exact hk hK
  · by_cases e : p = q
    · subst e; exact ⟨x, World.cell?_setCell_same w _ _ hu, hx⟩
    · exact ⟨v, by rw [World.cell?_setCell_other w _ _ _ e]; exact hv, hk⟩
/-- a slice of cells of kind K that may be written -/
def Wr (K : Value → Prop) (S : Nat → Prop) (w : World) (v : Value) : Prop :=
  ∃ a n cap, v = .slice a n cap ∧ n ≤ cap ∧ cap ≤ maxLen ∧ (0 < n → ∃ b off, a = some ⟨b, off, none⟩ ∧ S b ∧ ∀ j, j < n → (∃ u, w.cell? ⟨b, off + j, none⟩ = some u ∧ K u) ∧ w.frozen? ⟨b, off + j, none⟩ = false)
theorem Wr.sc {K S T w w' v} (h : Wr K S w v) (hs : Sc K T w w') : Wr K S w' v := by
  obtain ⟨a, n, cap, h1, h2, h3, h4⟩ := h
  refine ⟨a, n, cap, h1, h2, h3, fun h0 => ?_⟩
  obtain ⟨b, off, h5, h6, h7⟩ := h4 h0
  refine ⟨b, off, h5, h6, fun j hj => ?_⟩
  obtain ⟨⟨u, hu, hk⟩, hf⟩ := h7 j hj
  exact ⟨hs.kind _ _ hu hk, by rw [hs.frz]; exact hf⟩
theorem OBytes.wr {S w v l} (h : OBytes S w v l) : Wr isByte S w v := by
  obtain ⟨a, cap, rfl, h1, h2, h3⟩ := h.rd.open
  refine ⟨_, _, _, rfl, h1, h2, fun h0 => ?_⟩
  obtain ⟨g, cg, hv, hS, _, _, _, hc, hf⟩ := h.shapeN h0
  simp only [Value.slice.injEq] at hv
  obtain ⟨rfl, -, -⟩ := hv
  exact ⟨g, 0, rfl, hS, fun j hj => ⟨⟨_, by rw [Nat.zero_add]; exact hc j hj, _, rfl⟩, by rw [Nat.zero_add]; exact hf j⟩⟩
theorem OStrs.wr {S w v l} (h : OStrs S w v l) : Wr isText S w v := by
  obtain ⟨a, cap, rfl, h1, h2, h3⟩ := h.rd.open
  refine ⟨_, _, _, rfl, h1, h2, fun h0 => ?_⟩
  obtain ⟨g, cg, hv, hS, _, _, _, hc, hf⟩ := h.shape h0
  simp only [Value.slice.injEq] at hv
  obtain ⟨rfl, -, -⟩ := hv
  exact ⟨g, 0, rfl, hS, fun j hj => ⟨⟨_, by rw [Nat.zero_add]; exact hc j hj, _, rfl⟩, by rw [Nat.zero_add]; exact hf j⟩⟩
/-- a slice of such slices -/
def Wm (S : Nat → Prop) (w : World) (v : Value) : Prop :=
  ∃ a n cap, v = .slice a n cap ∧ n ≤ cap ∧ cap ≤ maxLen ∧ (0 < n → ∃ b off, a = some ⟨b, off, none⟩ ∧ ∀ j, j < n → ∃ u, w.cell? ⟨b, off + j, none⟩ = some u ∧ Wr isByte S w u)
theorem Wm.sc {S T w w' v} (h : Wm S w v) (hs : Sc isByte T w w') : Wm S w' v := by
  obtain ⟨a, n, cap, h1, h2, h3, h4⟩ := h
  refine ⟨a, n, cap, h1, h2, h3, fun h0 => ?_⟩
  obtain ⟨b, off, h5, h7⟩ := h4 h0
  refine ⟨b, off, h5, fun j hj => ?_⟩
  obtain ⟨u, hu, hw⟩ := h7 j hj
  refine ⟨u, hs.same _ _ hu ?_, hw.sc hs⟩
  rintro ⟨x, rfl⟩
  obtain ⟨_, _, _, h, _⟩ := hw
  simp at h
theorem OMat.wm {S w v M} (h : OMat S w v M) : Wm S w v := by
  obtain ⟨a, cap, rfl, h1, h2, _⟩ := h.rd.open
  refine ⟨_, _, _, rfl, h1, h2, fun h0 => ?_⟩
  obtain ⟨g, cg, hv, _, _, _, _, _, hrow⟩ := h.shape h0
  simp only [Value.slice.injEq] at hv
  obtain ⟨rfl, -, -⟩ := hv
  refine ⟨g, 0, rfl, fun j hj => ?_⟩
  obtain ⟨u, hu, ho, _⟩ := hrow j _ (List.getElem?_eq_getElem hj)
  exact ⟨u, by rw [Nat.zero_add]; exact hu, ho.wr⟩
theorem scratch_calls (S : Nat → Prop) (v : Value) (w : World) (h : Wr isByte S w v) :
    Calls Try.prog 19 #[v] w fun e w' => e = .returned (.tuple #[]) ∧ Sc isByte S w w' := by
  obtain ⟨a, n, cap, rfl, h1, h2, h3⟩ := h
  have HX := Lib.hid h3
  unfold maxLen at h2
  clear h3
  go_enter Try.func19, Try.ntmps19
  go_wp2_with fail
  go_loopw [2] (fun x wr => ∃ k : Nat, k ≤ n ∧ x = .int .i64 k ∧ Sc isByte S w wr) (fun x _ => n - (intOf x).toNat)
  case atStart => exact ⟨0, by omega, rfl, Sc.refl _ _ _⟩
  case round =>
    obtain ⟨k, hk, rfl, hs⟩ := hrel
    have HS := Lib.hid hs
    by_cases hlt : k < n
    · obtain ⟨b, off, rfl, hSb, hc⟩ := HX.out (by omega)
      obtain ⟨⟨u, hu, hku⟩, hf⟩ := hc k hlt
      obtain ⟨u', hu', hku'⟩ := hs.kind _ _ hu hku
      have hf' : wr.frozen? ⟨b, off + k, none⟩ = false := by rw [hs.frz]; exact hf
      have HK := Lib.hid hku'
      have HSB := Lib.hid hSb
      clear hs hc hu hku hf hku' hSb
      go_wp2_with fail
      go_roundw
      case rel =>
        exact ⟨k + 1, by omega, by go_num, HS.out.trans (Sc.set hu' HK.out ⟨99, rfl⟩ HSB.out)⟩
      case measure => simp [intOf]; omega
    · have : k = n := by omega
      subst this
      clear hs
      go_wp2_with fail
      go_end0
      exact ⟨rfl, HS.out⟩
end Go.Proofs.Ytphehfllcmbpkaa
