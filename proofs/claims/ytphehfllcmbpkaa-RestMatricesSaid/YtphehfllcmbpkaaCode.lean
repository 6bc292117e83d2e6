/- The contracts of package code, first part. No condition. -/
import Derived.Test.YtphehfllcmbpkaaMatG
import Derived.Test.YtphehfllcmbpkaaStr
namespace Go.Proofs.Ytphehfllcmbpkaa
open Go Go.RowKit GF
set_option maxRecDepth 100000
set_option maxHeartbeats 2000000
theorem within_calls (n most : Int) (w : World) : Calls Try.prog 45 #[.int .i64 n, .int .i64 most] w fun e w' => w = w' ∧ e = .returned (.bool (decide (1 ≤ n) && decide (n ≤ most))) := by
  by_cases h1 : 1 ≤ n
  · by_cases h2 : n ≤ most
    · go_enter Try.func45, Try.ntmps45
      go_wp2_with fail
      go_ret
      exact ⟨rfl, by simp [h1, h2]⟩
    · go_enter Try.func45, Try.ntmps45
      go_wp2_with fail
      go_ret
      exact ⟨rfl, by simp [h2]⟩
  · go_enter Try.func45, Try.ntmps45
    go_wp2_with fail
    go_ret
    have h1' : decide (1 ≤ n) = false := decide_eq_false (by omega)
    exact ⟨rfl, by rw [h1']; rfl⟩
theorem idxStr_calls (v : Value) (vs : List Value) (f : FuncId) (cap : Array Value) (p : Nat → Bool) (w : World) (hcf : ∀ args w, (callFunc f args).run Try.prog w = .ok (.enter f args) w) (hr : Rds w v 1 vs)
    (hp : ∀ i u, vs[i]? = some u → Calls Try.prog f (#[u] ++ cap) w fun e w' => w = w' ∧ e = .returned (.bool (p i))) :
    Calls Try.prog 97 #[v, .func (.func f) #[] cap] w fun e w' => w = w' ∧ ∃ r : Int, e = .returned (.int .i64 r) ∧ IdxSpec p vs.length r := by
  have hr' := hr
  obtain ⟨a, n, cp, rfl, -⟩ := hr
  obtain ⟨rfl, h1, h2, hx⟩ := hr'.slot
  have HP := Lib.hid hp
  unfold maxLen at h2
  clear hp hr'
  go_enter Try.func97, Try.ntmps97
  go_wp2_with fail
  go_loop [8] (fun x => ∃ k : Nat, k ≤ vs.length ∧ x = .int .i64 k ∧ Hid (∀ j, j < k → p j = false)) (fun x => vs.length - (intOf x).toNat)
  case atStart => exact ⟨0, by omega, rfl, fun j hj => by omega⟩
  case round =>
    obtain ⟨k, hk, rfl, hq⟩ := hrel
    by_cases hlt : k < vs.length
    · obtain ⟨b, off, rfl, hce⟩ := hx (by omega)
      have h3 := hce k _ (List.getElem?_eq_getElem hlt)
      have HU := Lib.hid (List.getElem?_eq_getElem hlt)
      generalize vs[k] = u at *
      clear hx hce
      cases hpk : p k with
      | true =>
        have HPK := Lib.hid hpk
        have HC := HP.out k u HU.out
        rw [hpk] at HC
        have HC' := Lib.hid HC
        clear hpk HC
        go_wp2_with (with_reducible refine (HC'.out).mono ?_; rintro e w1 ⟨rfl, rfl⟩)
        go_ret
        exact ⟨rfl, _, rfl, .inl ⟨k, hlt, rfl, HPK.out, hq.out⟩⟩
      | false =>
        have HPK := Lib.hid hpk
        have HC := HP.out k u HU.out
        rw [hpk] at HC
        have HC' := Lib.hid HC
        clear hpk HC
        go_wp2_with (with_reducible refine (HC'.out).mono ?_; rintro e w1 ⟨rfl, rfl⟩)
        go_round
        case rel =>
          refine ⟨k+1, by omega, by go_num, fun j hj => ?_⟩
          by_cases e : j = k
          · subst e; exact HPK.out
          · exact hq.out j (by omega)
        case measure => simp [intOf]; omega
    · have : k = vs.length := by omega
      subst this
      clear hx
      go_wp2_with fail
      go_ret
      exact ⟨rfl, _, rfl, .inr ⟨rfl, hq.out⟩⟩
def someAt (p : Nat → Bool) (n : Nat) : Bool := (List.range n).any p
theorem someAt_of {p : Nat → Bool} {n : Nat} {r : Int} (h : IdxSpec p n r) : decide (r ≥ 0) = someAt p n := by
  unfold someAt
  rcases h with ⟨i, hi, rfl, hp, _⟩ | ⟨rfl, h⟩
  · have : (List.range n).any p = true := List.any_eq_true.2 ⟨i, List.mem_range.2 hi, hp⟩
    rw [this]; simp
  · have : (List.range n).any p = false := by
      rw [List.any_eq_false]; intro j hj; rw [h j (List.mem_range.1 hj)]; simp
    rw [this]; simp
theorem anyStr_calls (v : Value) (vs : List Value) (f : FuncId) (cap : Array Value) (p : Nat → Bool) (w : World) (hcf : ∀ args w, (callFunc f args).run Try.prog w = .ok (.enter f args) w) (hr : Rds w v 1 vs)
    (hp : ∀ i u, vs[i]? = some u → Calls Try.prog f (#[u] ++ cap) w fun e w' => w = w' ∧ e = .returned (.bool (p i))) :
    Calls Try.prog 49 #[v, .func (.func f) #[] cap] w fun e w' => w = w' ∧ e = .returned (.bool (someAt p vs.length)) := by
  have HR := Lib.hid hr
  have HP := Lib.hid hp
  clear hr hp
  go_enter Try.func49, Try.ntmps49
  go_wp2_with (go_at_call 97; refine (idxStr_calls _ vs _ _ p _ hcf HR.out HP.out).mono ?_; rintro e w1 ⟨rfl, r, rfl, hix⟩; have HI := Lib.hid hix; clear hix)
  go_ret
  exact ⟨rfl, by rw [← someAt_of HI.out]; rfl⟩
theorem long_calls (l : List UInt8) (w : World) (hl : l.length ≤ maxLen) : Calls Try.prog 94 #[.string (str l)] w fun e w' => w = w' ∧ e = .returned (.bool (decide (64 < l.length))) := by
  unfold maxLen at hl
  go_enter Try.func94, Try.ntmps94
  go_wp2_with fail
  go_ret
  exact ⟨rfl, by congr 2; simp; omega⟩
/-- alike's answer -/
def alik (l : List (List UInt8)) : Int :=
  if someAt (fun i => decide (64 < (ns l i).length)) l.length = true then 2 else if someAt (fun i => decide ((ns l i).length ≠ (ns l 0).length)) l.length = true then 1 else 0
theorem RStrs.slot {w v l} (_h : RStrs w v l) (i : Nat) (u : Value) (hu : (l.map sv)[i]? = some u) : u = .string (str (ns l i)) := by
  rw [List.getElem?_map] at hu
  cases hx : l[i]? with
  | none => rw [hx] at hu; simp at hu
  | some x => rw [hx] at hu; simp at hu; rw [← hu]; simp [ns, sv, List.getD, hx]
theorem alike_calls (v : Value) (l : List (List UInt8)) (w : World) (h : RStrs w v l) :
    Calls Try.prog 46 #[v] w fun e w' => w = w' ∧ e = .returned (.int .i64 (alik l)) := by
  obtain ⟨a, cap, rfl, h1, h2, hx⟩ := h.open
  have HL := Lib.hid (ns_len h.2)
  have HX := Lib.hid hx
  have HA : Hid (Calls Try.prog 49 #[.slice a l.length cap, .func (.func 94) #[] #[]] w fun e w' => w = w' ∧ e = .returned (.bool (someAt (fun i => decide (64 < (ns l i).length)) l.length))) := by
    refine Lib.hid ((anyStr_calls _ (l.map sv) _ #[] (fun i => decide (64 < (ns l i).length)) w (fun _ _ => rfl) h.1 fun i u hu => ?_).mono ?_)
    · rw [h.slot i u hu]; simpa using long_calls (ns l i) w (HL.out i)
    · rintro e w1 ⟨rfl, rfl⟩; exact ⟨rfl, by simp⟩
  unfold maxLen at h2
  clear h hx
  have HE : Hid (alik l = if someAt (fun i => decide (64 < (ns l i).length)) l.length = true then 2 else if someAt (fun i => decide ((ns l i).length ≠ (ns l 0).length)) l.length = true then 1 else 0) := Lib.hid rfl
  generalize someAt (fun i => decide (64 < (ns l i).length)) l.length = b at *
  cases b with
  | true =>
    have HE2 : Hid (alik l = 2) := by rw [HE.out]; exact Lib.hid rfl
    clear HE
    go_enter Try.func46, Try.ntmps46
    go_wp2_with (with_reducible refine (HA.out).mono ?_; rintro e w1 ⟨rfl, rfl⟩)
    go_ret
    exact ⟨rfl, by rw [HE2.out]; rfl⟩
  | false =>
    have HE2 : Hid (alik l = if someAt (fun i => decide ((ns l i).length ≠ (ns l 0).length)) l.length = true then 1 else 0) := by rw [HE.out]; exact Lib.hid (by simp)
    clear HE
    go_enter Try.func46, Try.ntmps46
    go_wp2_with (with_reducible refine (HA.out).mono ?_; rintro e w1 ⟨rfl, rfl⟩)
    go_loop [9] (fun x => ∃ k : Nat, k ≤ l.length ∧ x = .int .i64 k ∧ Hid (∀ j, j < k → (ns l j).length = (ns l 0).length)) (fun x => l.length - (intOf x).toNat)
    case atStart => exact ⟨0, by omega, rfl, fun j hj => by omega⟩
    case round =>
      obtain ⟨k, hk, rfl, hq⟩ := hrel
      by_cases hlt : k < l.length
      · obtain ⟨b, off, rfl, hce⟩ := HX.out (by omega)
        have h3 := hce k hlt
        have h4 := hce 0 (by omega)
        simp only [Nat.add_zero] at h4
        clear hce
        by_cases he : (ns l k).length = (ns l 0).length
        · have HE3 := Lib.hid he
          have he' : (((ns l k).length : Int) != ((ns l 0).length : Int)) = false := by simp [he]
          clear he
          go_wp2_with fail
          go_round
          case rel =>
            refine ⟨k+1, by omega, by go_num, fun j hj => ?_⟩
            by_cases e : j = k
            · subst e; exact HE3.out
            · exact hq.out j (by omega)
          case measure => simp [intOf]; omega
        · have HE3 := Lib.hid he
          have he' : (((ns l k).length : Int) != ((ns l 0).length : Int)) = true := by simp [bne_iff_ne]; omega
          clear he
          go_wp2_with fail
          go_ret
          have e : alik l = 1 := by
            rw [HE2.out, if_pos]
            refine List.any_eq_true.2 ⟨k, List.mem_range.2 hlt, ?_⟩
            exact decide_eq_true HE3.out
          exact ⟨rfl, by rw [e]; rfl⟩
      · have : k = l.length := by omega
        subst this
        go_wp2_with fail
        go_ret
        have e : alik l = 0 := by
          rw [HE2.out, if_neg]
          intro h
          obtain ⟨j, hj, hjj⟩ := List.any_eq_true.1 h
          have := hq.out j (List.mem_range.1 hj)
          exact of_decide_eq_true hjj this
        exact ⟨rfl, by rw [e]; rfl⟩
theorem alik_ok {l : List (List UInt8)} (h : alik l = 0) : ∀ i, i < l.length → (ns l i).length = (ns l 0).length ∧ (ns l i).length ≤ 64 := by
  intro i hi
  unfold alik at h
  split at h
  · omega
  · rename_i h1
    split at h
    · omega
    · rename_i h2
      refine ⟨?_, ?_⟩
      · apply Decidable.byContradiction; intro e
        exact h2 (List.any_eq_true.2 ⟨i, List.mem_range.2 hi, by simpa using e⟩)
      · apply Decidable.byContradiction; intro e
        exact h1 (List.any_eq_true.2 ⟨i, List.mem_range.2 hi, by simp; omega⟩)
end Go.Proofs.Ytphehfllcmbpkaa
