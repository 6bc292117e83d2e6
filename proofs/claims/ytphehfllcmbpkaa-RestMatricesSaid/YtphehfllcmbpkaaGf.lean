/- Plain algebra of the field of 256: products of bytes, their laws, inverses. No condition. -/
namespace Go.Proofs.Ytphehfllcmbpkaa
/-- sum in the field of f 0 .. f (n-1) -/
def xsum : Nat → (Nat → UInt8) → UInt8
  | 0, _ => 0
  | n+1, f => xsum n f ^^^ f n
namespace GF
/-- all 256 bytes -/
def all (p : UInt8 → Bool) : Bool := (List.range 256).all (fun i => p (UInt8.ofNat i))
theorem all_spec {p : UInt8 → Bool} (h : all p = true) (a : UInt8) : p a = true := by
  have h2 := List.all_eq_true.1 h a.toNat (List.mem_range.2 a.toNat_lt)
  rwa [UInt8.ofNat_toNat] at h2
def bit (b : UInt8) (i : Nat) : Bool := b.toNat.testBit i
theorem bit_xor (a b : UInt8) (i : Nat) : bit (a ^^^ b) i = (bit a i ^^ bit b i) := by
  simp [bit, UInt8.toNat_xor, Nat.testBit_xor]
def xt (a : UInt8) : UInt8 := (a <<< 1) ^^^ (if bit a 7 then 29 else 0)
theorem shl_xor (a b : UInt8) : (a ^^^ b) <<< 1 = (a <<< 1) ^^^ (b <<< 1) := by
  exact UInt8.shiftLeft_xor ..
theorem xor_ite (p q : Bool) (c : UInt8) : (if (p ^^ q) then c else 0) = (if p then c else 0) ^^^ (if q then c else 0) := by
  cases p <;> cases q <;> simp
theorem xor4 (a b c d : UInt8) : (a ^^^ b) ^^^ (c ^^^ d) = (a ^^^ c) ^^^ (b ^^^ d) := by
  simp only [UInt8.xor_assoc]; rw [← UInt8.xor_assoc b c d, UInt8.xor_comm b c, UInt8.xor_assoc]
theorem xt_xor (a b : UInt8) : xt (a ^^^ b) = xt a ^^^ xt b := by
  simp only [xt, shl_xor, bit_xor, xor_ite]; exact xor4 ..
def term (b : UInt8) (i : Nat) (x : UInt8) : UInt8 := if bit b i then x else 0
theorem term_xor_l (a b x : UInt8) (i) : term (a ^^^ b) i x = term a i x ^^^ term b i x := by
  simp only [term, bit_xor]; exact xor_ite ..
theorem term_xor_r (b x y : UInt8) (i) : term b i (x ^^^ y) = term b i x ^^^ term b i y := by
  simp only [term]; split <;> simp
def mulN : Nat → UInt8 → UInt8 → UInt8
  | 0, _, _ => 0
  | n+1, a, b => mulN n a b ^^^ term b n (Nat.repeat xt n a)
def gmul (a b : UInt8) : UInt8 := mulN 8 a b
theorem rep_xor (n) (a b : UInt8) : Nat.repeat xt n (a ^^^ b) = Nat.repeat xt n a ^^^ Nat.repeat xt n b := by
  induction n with
  | zero => rfl
  | succ n ih => simp only [Nat.repeat, ih, xt_xor]
theorem mulN_xor_l (n) (a b c : UInt8) : mulN n (a ^^^ b) c = mulN n a c ^^^ mulN n b c := by
  induction n with
  | zero => simp [mulN]
  | succ n ih => simp only [mulN, ih, rep_xor, term_xor_r]; exact xor4 ..
theorem mulN_xor_r (n) (a b c : UInt8) : mulN n a (b ^^^ c) = mulN n a b ^^^ mulN n a c := by
  induction n with
  | zero => simp [mulN]
  | succ n ih => simp only [mulN, ih, term_xor_l]; exact xor4 ..
theorem gmul_xor_l (a b c : UInt8) : gmul (a ^^^ b) c = gmul a c ^^^ gmul b c := mulN_xor_l ..
theorem gmul_xor_r (a b c : UInt8) : gmul a (b ^^^ c) = gmul a b ^^^ gmul a c := mulN_xor_r ..
theorem xt_zero : xt 0 = 0 := by decide
theorem rep_zero (n) : Nat.repeat xt n 0 = 0 := by
  induction n with
  | zero => rfl
  | succ n ih => simp only [Nat.repeat, ih, xt_zero]
theorem gmul_zero_l (a) : gmul 0 a = 0 := by
  have := gmul_xor_l 0 0 a; simpa using this
theorem gmul_zero_r (a) : gmul a 0 = 0 := by
  have := gmul_xor_r a 0 0; simpa using this
theorem xt_term (b x i) : xt (term b i x) = term b i (xt x) := by
  simp only [term]; split
  · rfl
  · exact xt_zero
theorem rep_xt (n a) : Nat.repeat xt n (xt a) = xt (Nat.repeat xt n a) := by
  induction n with
  | zero => rfl
  | succ n ih => simp only [Nat.repeat, ih]
theorem mulN_xt (n a b) : mulN n (xt a) b = xt (mulN n a b) := by
  induction n with
  | zero => exact xt_zero.symm
  | succ n ih => simp only [mulN, ih, xt_xor, xt_term, rep_xt]
theorem gmul_xt_l (a b) : gmul (xt a) b = xt (gmul a b) := mulN_xt ..
theorem gmul_comm (a b : UInt8) : gmul a b = gmul b a := by
  -- decomposition of b in powers
  have dec : ∀ c : UInt8, c = gmul 1 c := fun c => by
    have := all_spec (p := fun c => c == gmul 1 c) (by decide +kernel) c
    simpa using this
  have one : ∀ c : UInt8, gmul c 1 = c := fun c => by
    have := all_spec (p := fun c => gmul c 1 == c) (by decide +kernel) c
    simpa using this
  have pw : ∀ n, n < 8 → ∀ c : UInt8, gmul c (Nat.repeat xt n 1) = Nat.repeat xt n c := by
    intro n hn c
    have h := all_spec (p := fun c => (List.range 8).all fun n => gmul c (Nat.repeat xt n 1) == Nat.repeat xt n c) (by decide +kernel) c
    have := List.all_eq_true.1 h n (List.mem_range.2 hn)
    simpa using this
  have key : ∀ n, n ≤ 8 → gmul a (mulN n 1 b) = mulN n a b := by
    intro n
    induction n with
    | zero => intro _; exact gmul_zero_r a
    | succ n ih =>
      intro h
      simp only [mulN, gmul_xor_r, ih (by omega)]
      congr 1
      simp only [term]; split
      · exact pw n (by omega) a
      · exact gmul_zero_r a
  have h2 : ∀ n, n ≤ 8 → gmul (mulN n 1 b) a = mulN n a b := by
    intro n
    induction n with
    | zero => intro _; exact gmul_zero_l a
    | succ n ih =>
      intro h
      simp only [mulN, gmul_xor_l, ih (by omega)]
      congr 1
      simp only [term]; split
      · have : ∀ n, gmul (Nat.repeat xt n 1) a = Nat.repeat xt n (gmul 1 a) := by
          intro n; induction n with
          | zero => rfl
          | succ n ih => simp only [Nat.repeat, gmul_xt_l, ih]
        rw [this, ← dec a]
      · exact gmul_zero_l a
  have hb := dec b
  calc gmul a b = mulN 8 a b := rfl
    _ = gmul (mulN 8 1 b) a := (h2 8 (by omega)).symm
    _ = gmul b a := by show gmul (gmul 1 b) a = _; rw [← hb]
theorem gmul_one_r (a) : gmul a 1 = a := by
  have := all_spec (p := fun c => gmul c 1 == c) (by decide +kernel) a
  simpa using this
theorem gmul_one_l (a) : gmul 1 a = a := by rw [gmul_comm, gmul_one_r]
theorem gmul_xt_r (a b) : gmul a (xt b) = xt (gmul a b) := by rw [gmul_comm, gmul_xt_l, gmul_comm]
theorem gmul_assoc (a b c : UInt8) : gmul (gmul a b) c = gmul a (gmul b c) := by
  have rp : ∀ n, Nat.repeat xt n (gmul a b) = gmul a (Nat.repeat xt n b) := by
    intro n; induction n with
    | zero => rfl
    | succ n ih => simp only [Nat.repeat, ih, gmul_xt_r]
  have key : ∀ n, mulN n (gmul a b) c = gmul a (mulN n b c) := by
    intro n
    induction n with
    | zero => exact (gmul_zero_r a).symm
    | succ n ih =>
      simp only [mulN, gmul_xor_r, ih]
      congr 1
      simp only [term]; split
      · exact rp n
      · exact (gmul_zero_r a).symm
  exact key 8
/-- a^254 -/
def pw (a : UInt8) : Nat → UInt8
  | 0 => 1
  | n+1 => gmul a (pw a n)
def ginv (a : UInt8) : UInt8 :=
  let a2 := gmul a a; let a4 := gmul a2 a2; let a8 := gmul a4 a4; let a16 := gmul a8 a8
  let a32 := gmul a16 a16; let a64 := gmul a32 a32; let a128 := gmul a64 a64
  gmul a128 (gmul a64 (gmul a32 (gmul a16 (gmul a8 (gmul a4 a2)))))
theorem gmul_ginv (a : UInt8) (h : a ≠ 0) : gmul a (ginv a) = 1 := by
  have := all_spec (p := fun a => a == 0 || gmul a (ginv a) == 1) (by decide +kernel) a
  simpa [h] using this
def pwr (n : Nat) : UInt8 := Nat.repeat xt n 1
def tabl : List UInt8 := [1, 2, 4, 8, 16, 32, 64, 128, 29, 58, 116, 232, 205, 135, 19, 38, 76, 152, 45, 90, 180, 117, 234, 201, 143, 3, 6, 12, 24, 48, 96, 192, 157, 39, 78, 156, 37, 74, 148, 53, 106, 212, 181, 119, 238, 193, 159, 35, 70, 140, 5, 10, 20, 40, 80, 160, 93, 186, 105, 210, 185, 111, 222, 161, 95, 190, 97, 194, 153, 47, 94, 188, 101, 202, 137, 15, 30, 60, 120, 240, 253, 231, 211, 187, 107, 214, 177, 127, 254, 225, 223, 163, 91, 182, 113, 226, 217, 175, 67, 134, 17, 34, 68, 136, 13, 26, 52, 104, 208, 189, 103, 206, 129, 31, 62, 124, 248, 237, 199, 147, 59, 118, 236, 197, 151, 51, 102, 204, 133, 23, 46, 92, 184, 109, 218, 169, 79, 158, 33, 66, 132, 21, 42, 84, 168, 77, 154, 41, 82, 164, 85, 170, 73, 146, 57, 114, 228, 213, 183, 115, 230, 209, 191, 99, 198, 145, 63, 126, 252, 229, 215, 179, 123, 246, 241, 255, 227, 219, 171, 75, 150, 49, 98, 196, 149, 55, 110, 220, 165, 87, 174, 65, 130, 25, 50, 100, 200, 141, 7, 14, 28, 56, 112, 224, 221, 167, 83, 166, 81, 162, 89, 178, 121, 242, 249, 239, 195, 155, 43, 86, 172, 69, 138, 9, 18, 36, 72, 144, 61, 122, 244, 245, 247, 243, 251, 235, 203, 139, 11, 22, 44, 88, 176, 125, 250, 233, 207, 131, 27, 54, 108, 216, 173, 71, 142]
def logt : List Nat := [0, 0, 1, 25, 2, 50, 26, 198, 3, 223, 51, 238, 27, 104, 199, 75, 4, 100, 224, 14, 52, 141, 239, 129, 28, 193, 105, 248, 200, 8, 76, 113, 5, 138, 101, 47, 225, 36, 15, 33, 53, 147, 142, 218, 240, 18, 130, 69, 29, 181, 194, 125, 106, 39, 249, 185, 201, 154, 9, 120, 77, 228, 114, 166, 6, 191, 139, 98, 102, 221, 48, 253, 226, 152, 37, 179, 16, 145, 34, 136, 54, 208, 148, 206, 143, 150, 219, 189, 241, 210, 19, 92, 131, 56, 70, 64, 30, 66, 182, 163, 195, 72, 126, 110, 107, 58, 40, 84, 250, 133, 186, 61, 202, 94, 155, 159, 10, 21, 121, 43, 78, 212, 229, 172, 115, 243, 167, 87, 7, 112, 192, 247, 140, 128, 99, 13, 103, 74, 222, 237, 49, 197, 254, 24, 227, 165, 153, 119, 38, 184, 180, 124, 17, 68, 146, 217, 35, 32, 137, 46, 55, 63, 209, 91, 149, 188, 207, 205, 144, 135, 151, 178, 220, 252, 190, 97, 242, 86, 211, 171, 20, 42, 93, 158, 132, 60, 57, 83, 71, 109, 65, 162, 31, 45, 67, 216, 183, 123, 164, 118, 196, 23, 73, 236, 127, 12, 111, 246, 108, 161, 59, 82, 41, 157, 85, 170, 251, 96, 134, 177, 187, 204, 62, 90, 203, 89, 95, 176, 156, 169, 160, 81, 11, 245, 22, 235, 122, 117, 44, 215, 79, 174, 213, 233, 230, 231, 173, 232, 116, 214, 244, 234, 168, 80, 88, 175]
theorem pwr_tabl (n : Nat) (h : n < 255) : pwr n = tabl.getD n 0 := by
  induction n with
  | zero => rfl
  | succ n ih =>
    have c : ((List.range 254).all fun n => xt (tabl.getD n 0) == tabl.getD (n+1) 0) = true := by decide +kernel
    have := List.all_eq_true.1 c n (List.mem_range.2 (by omega))
    rw [show pwr (n+1) = xt (pwr n) from rfl, ih (by omega)]
    simpa using this
def glog (a : UInt8) : Nat := logt.getD a.toNat 0
theorem glog_spec (a : UInt8) (h : a ≠ 0) : glog a < 255 ∧ pwr (glog a) = a := by
  have := all_spec (p := fun a => a == 0 || (decide (glog a < 255) && tabl.getD (glog a) 0 == a)) (by decide +kernel) a
  simp [h] at this
  exact ⟨this.1, by rw [pwr_tabl _ this.1]; simpa using this.2⟩
theorem pwr_succ (n) : pwr (n+1) = xt (pwr n) := rfl
theorem pwr_add (m n : Nat) : gmul (pwr m) (pwr n) = pwr (m + n) := by
  induction n with
  | zero => exact gmul_one_r _
  | succ n ih => rw [pwr_succ, gmul_xt_r, ih]; rfl
theorem pwr_255 : pwr 255 = 1 := by
  rw [pwr_succ, pwr_tabl 254 (by omega)]; decide +kernel
theorem pwr_ne (d : Nat) (h0 : 0 < d) (h : d < 255) : pwr d ≠ 1 := by
  rw [pwr_tabl d h]
  have c : ((List.range 255).all fun n => n == 0 || tabl.getD n 0 != 1) = true := by decide +kernel
  have := List.all_eq_true.1 c d (List.mem_range.2 h)
  simpa [show d ≠ 0 by omega] using this
theorem gmul_cancel {a b c : UInt8} (h : a ≠ 0) (e : gmul a b = gmul a c) : b = c := by
  have : gmul (ginv a) (gmul a b) = gmul (ginv a) (gmul a c) := by rw [e]
  rwa [← gmul_assoc, ← gmul_assoc, gmul_comm (ginv a) a, gmul_ginv a h, gmul_one_l, gmul_one_l] at this
theorem pwr_ne0 (n : Nat) : pwr n ≠ 0 := by
  intro h
  have h2 : ∀ k, pwr (n + k) = 0 := fun k => by rw [← pwr_add, h, gmul_zero_l]
  have h3 : ∀ k, pwr (255 * k) = 1 := fun k => by
    induction k with
    | zero => rfl
    | succ k ih => rw [Nat.mul_succ, ← pwr_add, ih, pwr_255]; rfl
  have := h3 n
  have h4 := h2 (254 * n)
  rw [show n + 254 * n = 255 * n by omega, this] at h4
  exact absurd h4 (by decide)
theorem pwr_inj {i j : Nat} (hi : i < 255) (hj : j < 255) (e : pwr i = pwr j) : i = j := by
  have key : ∀ {i j : Nat}, i < j → j < 255 → pwr i = pwr j → False := by
    intro i j hij hj e
    have : gmul (pwr i) (pwr (j - i)) = gmul (pwr i) 1 := by
      rw [pwr_add, show i + (j - i) = j by omega, gmul_one_r, e]
    exact pwr_ne (j - i) (by omega) (by omega) (gmul_cancel (pwr_ne0 i) this)
  rcases Nat.lt_trichotomy i j with h | h | h
  · exact (key h hj e).elim
  · exact h
  · exact (key h hi e.symm).elim
theorem glog_pwr (i : Nat) (h : i < 255) : glog (pwr i) = i := by
  have := glog_spec (pwr i) (pwr_ne0 i)
  exact pwr_inj this.1 h this.2
theorem ginv_pwr (n : Nat) (h : n < 255) : pwr ((255 - n) % 255) = ginv (pwr n) := by
  apply gmul_cancel (pwr_ne0 n)
  rw [gmul_ginv _ (pwr_ne0 n), pwr_add]
  by_cases h0 : n = 0
  · subst h0; rfl
  · rw [Nat.mod_eq_of_lt (by omega), show n + (255 - n) = 255 by omega, pwr_255]
theorem ginv_zero : ginv 0 = 0 := by decide +kernel
theorem ginv_ne0 {a : UInt8} (h : a ≠ 0) : ginv a ≠ 0 := by
  intro e
  have := gmul_ginv a h
  rw [e, gmul_zero_r] at this
  exact absurd this (by decide)
theorem gmul_eq0 {a b : UInt8} (h : gmul a b = 0) : a = 0 ∨ b = 0 := by
  by_cases ha : a = 0
  · exact .inl ha
  · exact .inr (gmul_cancel ha (by rw [h, gmul_zero_r]))
end GF
end Go.Proofs.Ytphehfllcmbpkaa
