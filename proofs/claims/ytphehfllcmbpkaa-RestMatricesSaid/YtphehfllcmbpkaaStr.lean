/- Strings as lists of bytes, and slices of strings. No condition. -/
import Derived.Test.YtphehfllcmbpkaaOwn
import Derived.Test.YtphehfllcmbpkaaProg
namespace Go.Proofs.Ytphehfllcmbpkaa
open Go Go.RowKit
/-- the string of these bytes -/
def str (l : List UInt8) : ByteArray := ⟨l.toArray⟩
def sv (l : List UInt8) : Value := .string (str l)
theorem str_size (l : List UInt8) : (str l).size = l.length := by simp [str, ByteArray.size]
theorem str_toList (l : List UInt8) : (str l).toList = l := ByteArray.toList_mk l
theorem str_inj {a b : List UInt8} (h : str a = str b) : a = b := by rw [← str_toList a, ← str_toList b, h]
theorem str_of (s : ByteArray) : s = str s.data.toList := by
  apply ByteArray.ext; simp [str]
theorem str_get (l : List UInt8) (n : Nat) (h : n < (str l).size) : (str l)[n]'h = nb l n := by
  have h' : n < l.length := by rw [str_size] at h; exact h
  show (str l).data[n] = _
  simp [str, nb, h']
theorem toNat_B (x : UInt8) : ((x.toNat : Nat) : Int) = B x := rfl
attribute [go_sem] str_size str_toList str_get toNat_B
theorem sv_eq (l : List UInt8) : Value.string (str l) = sv l := rfl
theorem oneCell_sv (l : List (List UInt8)) : ∀ u ∈ l.map sv, u.oneCell' = true := by
  intro u hu
  obtain ⟨_, _, rfl⟩ := List.mem_map.1 hu
  rfl
/-- the string at a place -/
def ns (l : List (List UInt8)) (k : Nat) : List UInt8 := l.getD k []
/-- a slice of strings that reads as l -/
def RStrs (w : World) (v : Value) (l : List (List UInt8)) : Prop := Rds w v 1 (l.map sv) ∧ ∀ s ∈ l, s.length ≤ maxLen
theorem RStrs.below {w w' : World} {v : Value} {l} (h : RStrs w v l) (hb : Below w.heap.size w w') : RStrs w' v l := ⟨Rds.below h.1 hb, h.2⟩
theorem ns_len {l : List (List UInt8)} (h : ∀ s ∈ l, s.length ≤ maxLen) (k : Nat) : (ns l k).length ≤ maxLen := by
  unfold ns
  by_cases hk : k < l.length
  · simp only [List.getD, hk, List.getElem?_eq_getElem, Option.getD_some]
    exact h _ (List.getElem_mem hk)
  · simp [List.getD, List.getElem?_eq_none (Nat.le_of_not_lt hk)]
theorem RStrs.open {w : World} {v : Value} {l : List (List UInt8)} (h : RStrs w v l) :
    ∃ a cap, v = .slice a l.length cap ∧ l.length ≤ cap ∧ cap ≤ maxLen ∧
      (0 < l.length → ∃ b off, a = some ⟨b, off, none⟩ ∧ ∀ j, j < l.length → w.cell? ⟨b, off + j, none⟩ = some (.string (str (ns l j)))) := by
  have h0 := h.1
  obtain ⟨⟨a, n, cap, rfl, hl, hc, hm, hno, hcell⟩, _⟩ := h
  simp at hl
  subst hl
  refine ⟨a, cap, rfl, hc, hm, fun hn => ?_⟩
  obtain ⟨b, off, rfl, hce⟩ := Rds.addr h0 hn
  exact ⟨b, off, rfl, fun j hj => hce j _ (by simp [ns, sv, hj])⟩
/-- a slice of strings of the call's own -/
def OStrs (S : Nat → Prop) (w : World) (v : Value) (l : List (List UInt8)) : Prop := Own S w 9 1 v l.length (l.map sv) ∧ ∀ s ∈ l, s.length ≤ maxLen
theorem OStrs.rd {S w v l} (h : OStrs S w v l) : RStrs w v l := ⟨h.1.rds, h.2⟩
theorem OStrs.nil (S : Nat → Prop) (w : World) : OStrs S w (.slice none 0 0) [] := ⟨⟨World.ownsRow_nil w 0 _ 1, fun g hg => by simp [Value.ownBlock] at hg⟩, by simp⟩
theorem OStrs.mono {S T : Nat → Prop} {w v l} (h : OStrs S w v l) (hs : ∀ k, S k → T k) : OStrs T w v l := ⟨h.1.mono hs, h.2⟩
theorem OStrs.grow {S : Nat → Prop} {w w' v l} (h : OStrs S w v l) (hb : Below w.heap.size w w') : OStrs S w' v l := ⟨h.1.grow hb, h.2⟩
/-- string(b) -/
theorem run_convert_bytes {P : Program} {w : World} (src dst e : TypeId) {v : Value} {l : List UInt8} (hs : P.underlying src = some (.slice e)) (he : P.underlying e = some (.int .u8)) (hd : P.underlying dst = some .string) (h : RBytes w v l) :
    (convert src dst v).run P w = .ok (.string (str l)) w := by
  obtain ⟨a, n, cap, rfl, hl, hc, hm, hno, hcell⟩ := h
  rw [run_convert_bytes_string w src dst e a n cap hs he hd]
  simp at hl
  subst hl
  cases a with
  | none =>
    have h0 := (hno rfl).1
    have : l = [] := List.eq_nil_of_length_eq_zero h0
    subst this
    rfl
  | some ad =>
    obtain ⟨hsp, hce⟩ := hcell ad rfl
    obtain ⟨b, off, spot⟩ := ad
    simp only at hsp hce
    rcases Nat.eq_zero_or_pos l.length with h0 | h0
    · have : l = [] := List.eq_nil_of_length_eq_zero h0
      subst this
      have hbs := run_bytesToString (P := P) w ⟨b, off, spot⟩ 0 cap [] (by have := run_loadCells_list (P := P) w ⟨b, off, spot⟩ [] (fun j u hu => by simp at hu); simpa using this)
      exact hbs.trans rfl
    have hsp := hsp h0
    subst hsp
    have hload : (loadCells ⟨b, off, none⟩ l.length).run P w = .ok ((l.map B).map (Value.int .u8)).toArray w := by
      have := run_loadCells_list (P := P) w ⟨b, off, none⟩ ((l.map B).map (Value.int .u8)) (fun j u hu => by rw [Addr.add_lit]; exact hce j u (by rw [List.map_map] at hu; exact hu))
      simpa using this
    rw [run_bytesToString w ⟨b, off, none⟩ l.length cap (l.map B) hload]
    have key : ∀ (ys : List UInt8) (acc : ByteArray), ((ys.map B).foldl (fun r n => r.push (UInt8.ofNat n.toNat)) acc) = ⟨acc.data ++ ys.toArray⟩ := by
      intro ys
      induction ys with
      | nil => intro acc; simp
      | cons y ys ih =>
        intro acc
        simp only [List.map_cons, List.foldl_cons]
        rw [ih]
        apply ByteArray.ext
        have e : UInt8.ofNat (B y).toNat = y := by unfold B; simp
        rw [e]
        simp [ByteArray.push]
    rw [key]
    congr 2
    apply ByteArray.ext
    simp [str]
end Go.Proofs.Ytphehfllcmbpkaa
