/- How slices read in memory, and what keeps a reading. No condition. -/
import Derived.Test.YtphehfllcmbpkaaBase
namespace Go.Proofs.Ytphehfllcmbpkaa
open Go Go.RowKit
/-- the slice value v reads as the cells xs, in elements of sz cells -/
def Rds (w : World) (v : Value) (sz : Nat) (xs : List Value) : Prop :=
  ∃ a n cap, v = .slice a n cap ∧ xs.length = n * sz ∧ n ≤ cap ∧ cap ≤ maxLen ∧ (a = none → n = 0 ∧ cap = 0) ∧
    ∀ ad, a = some ad → (0 < n → ad.spot = none) ∧ ∀ j u, xs[j]? = some u → w.cell? ⟨ad.block, ad.off + j, none⟩ = some u
/-- blocks outside S stay as they were -/
structure Kp (S : Nat → Prop) (w w' : World) : Prop where
  os : w'.os = w.os
  tape : w'.tape = w.tape
  output : w'.output = w.output
  size : w.heap.size ≤ w'.heap.size
  block : ∀ k, k < w.heap.size → ¬ S k → w'.heap[k]? = w.heap[k]?
theorem Kp.refl (S w) : Kp S w w := ⟨rfl, rfl, rfl, Nat.le_refl _, fun _ _ _ => rfl⟩
theorem Kp.of_below {B : Nat} {w w' : World} (h : Below B w w') : Kp (fun k => B ≤ k) w w' :=
  ⟨h.os, h.tape, h.output, h.size, fun k _ hs => h.block k (Nat.lt_of_not_le hs)⟩
theorem Kp.trans {S : Nat → Prop} {a b c : World} (h : Kp S a b) (k : Kp S b c) : Kp S a c :=
  ⟨k.os.trans h.os, k.tape.trans h.tape, k.output.trans h.output, Nat.le_trans h.size k.size, fun i hi hs => (k.block i (Nat.lt_of_lt_of_le hi h.size) hs).trans (h.block i hi hs)⟩
theorem block_lt {w : World} {a : Addr} {u : Value} (h : w.cell? a = some u) : a.block < w.heap.size := World.block_lt_of_cell? w a h
theorem Rds.keep {w w' : World} {v : Value} {sz : Nat} {xs : List Value} (h : Rds w v sz xs)
    (hk : ∀ b, b < w.heap.size → (∀ a n c, v = .slice (some a) n c → xs ≠ [] → b = a.block → w'.heap[b]? = w.heap[b]?)) : Rds w' v sz xs := by
  obtain ⟨a, n, cap, rfl, hl, hc, hm, hn, hcell⟩ := h
  refine ⟨a, n, cap, rfl, hl, hc, hm, hn, fun ad had => ⟨(hcell ad had).1, fun j u hu => ?_⟩⟩
  have h1 := (hcell ad had).2 j u hu
  rw [World.cell?_of_block (w := w) (hk _ (block_lt h1) ad n cap (by rw [had]) (by rintro rfl; simp at hu) rfl)]
  exact h1
theorem Rds.below {w w' : World} {v : Value} {sz : Nat} {xs : List Value} (h : Rds w v sz xs) (hb : Below w.heap.size w w') : Rds w' v sz xs :=
  h.keep fun b hlt _ _ _ _ _ _ => hb.block b hlt
theorem Rds.addr {w : World} {a : Option Addr} {n cap sz : Nat} {xs : List Value} (h : Rds w (.slice a n cap) sz xs) (hn : 0 < n) :
    ∃ b off, a = some ⟨b, off, none⟩ ∧ ∀ j u, xs[j]? = some u → w.cell? ⟨b, off + j, none⟩ = some u := by
  obtain ⟨a', n', cap', h1, hl, hc, hm, hno, hcell⟩ := h
  simp only [Value.slice.injEq] at h1
  obtain ⟨rfl, rfl, rfl⟩ := h1
  cases ha : a with
  | none => have := (hno ha).1; omega
  | some ad =>
    obtain ⟨b, off, spot⟩ := ad
    obtain ⟨h1, hc⟩ := hcell _ ha
    have h2 := h1 hn
    simp only at h2
    subst h2
    exact ⟨b, off, rfl, hc⟩
/-- the element at a place; 0 where there is none -/
def nb (l : List UInt8) (k : Nat) : UInt8 := l.getD k 0
def RBytes (w : World) (v : Value) (l : List UInt8) : Prop := Rds w v 1 (l.map fun b => .int .u8 (B b))
theorem RBytes.below {w w' : World} {v : Value} {l} (h : RBytes w v l) (hb : Below w.heap.size w w') : RBytes w' v l := Rds.below h hb
/-- a slice of bytes, taken apart: its parts, and the cells under one name for whatever round -/
theorem RBytes.open {w : World} {v : Value} {l : List UInt8} (h : RBytes w v l) :
    ∃ a cap, v = .slice a l.length cap ∧ l.length ≤ cap ∧ cap ≤ maxLen ∧
      (0 < l.length → ∃ b off, a = some ⟨b, off, none⟩ ∧ ∀ j, j < l.length → w.cell? ⟨b, off + j, none⟩ = some (.int .u8 (B (nb l j)))) := by
  have h0 := h
  obtain ⟨a, n, cap, rfl, hl, hc, hm, hno, hcell⟩ := h
  simp at hl
  subst hl
  refine ⟨a, cap, rfl, hc, hm, fun hn => ?_⟩
  obtain ⟨b, off, rfl, hce⟩ := Rds.addr h0 hn
  exact ⟨b, off, rfl, fun j hj => hce j _ (by simp [nb, hj])⟩
def dotTo (a b : List UInt8) (k : Nat) : UInt8 := xsum k fun k => GF.gmul (nb a k) (nb b k)
def dot (a b : List UInt8) : UInt8 := dotTo a b a.length
theorem undrew {B : Nat} {w w' : World} (h : Below B w.drew w') : Below B w w' := ⟨h.os, h.tape, h.output, h.size, h.block⟩
/-- a boxed variable, behind calls that make memory -/
theorem box_kept {w w1 : World} {v : Value} {t : TypeId} (hb : Below (w.alloc (.cells #[v] t)).heap.size (w.alloc (.cells #[v] t)) w1) :
    w1.cell? ⟨w.heap.size, 0, none⟩ = some v ∧ Below w.heap.size w w1 := by
  refine ⟨?_, ((Below.refl _ w).alloc (Nat.le_refl _) _).trans (hb.mono (by simp))⟩
  rw [hb.cell (p := ⟨w.heap.size, 0, none⟩) (by simp)]
  simp
theorem box_kept' {w w1 : World} {v : Value} {t : TypeId} (hb : Below (w.alloc (.cells #[v] t)).drew.heap.size (w.alloc (.cells #[v] t)).drew w1) :
    w1.cell? ⟨w.heap.size, 0, none⟩ = some v ∧ Below w.heap.size w w1 := box_kept (undrew hb)
theorem below_alloc {w w1 : World} {o : Obj} (hb : Below (w.alloc o).heap.size (w.alloc o) w1) : Below w.heap.size w w1 :=
  ((Below.refl _ w).alloc (Nat.le_refl _) _).trans (hb.mono (by simp))
def iv (n : Int) : Value := .int .i64 n
def ni (l : List Int) (k : Nat) : Int := l.getD k 0
/-- a slice of ints that reads as l -/
def RInts (w : World) (v : Value) (l : List Int) : Prop := Rds w v 1 (l.map iv) ∧ ∀ x ∈ l, -9223372036854775808 ≤ x ∧ x ≤ 9223372036854775807
theorem RInts.below {w w' : World} {v : Value} {l} (h : RInts w v l) (hb : Below w.heap.size w w') : RInts w' v l := ⟨Rds.below h.1 hb, h.2⟩
theorem ni_range {l : List Int} (h : ∀ x ∈ l, -9223372036854775808 ≤ x ∧ x ≤ 9223372036854775807) (k : Nat) : -9223372036854775808 ≤ ni l k ∧ ni l k ≤ 9223372036854775807 := by
  unfold ni
  by_cases hk : k < l.length
  · simp only [List.getD, hk, List.getElem?_eq_getElem, Option.getD_some]
    exact h _ (List.getElem_mem hk)
  · simp [List.getD, List.getElem?_eq_none (Nat.le_of_not_lt hk)]
theorem RInts.open {w : World} {v : Value} {l : List Int} (h : RInts w v l) :
    ∃ a cap, v = .slice a l.length cap ∧ l.length ≤ cap ∧ cap ≤ maxLen ∧
      (0 < l.length → ∃ b off, a = some ⟨b, off, none⟩ ∧ ∀ j, j < l.length → w.cell? ⟨b, off + j, none⟩ = some (.int .i64 (ni l j))) := by
  have h0 := h.1
  obtain ⟨⟨a, n, cap, rfl, hl, hc, hm, hno, hcell⟩, _⟩ := h
  simp at hl
  subst hl
  refine ⟨a, cap, rfl, hc, hm, fun hn => ?_⟩
  obtain ⟨b, off, rfl, hce⟩ := Rds.addr h0 hn
  exact ⟨b, off, rfl, fun j hj => hce j _ (by simp [ni, iv, hj])⟩
end Go.Proofs.Ytphehfllcmbpkaa
