/- codeBegun. No condition. -/
import Derived.Test.YtphehfllcmbpkaaRef
import Derived.Deep.RegionHeld
import Derived.Deep.DrawnRows
namespace Go.Proofs.Ytphehfllcmbpkaa
open Go Go.RowKit GF
set_option maxRecDepth 100000
set_option maxHeartbeats 2000000
attribute [local go_sem ↓] Go.wp_at_zero Go.wp_at_succ
theorem Rds.lit (w : World) (cs : Array Value) (T : TypeId) (n : Nat) (l : List Value) (h : cs.toList = l) (hn : l.length = n) (hm : n ≤ maxLen) : Rds (w.alloc (.cells cs T)) (.slice (some ⟨w.heap.size, 0, none⟩) n n) 1 l := by
  subst hn
  refine ⟨_, _, _, rfl, by simp, Nat.le_refl _, hm, fun h => by simp at h, fun ad had => ?_⟩
  simp only [Option.some.injEq] at had
  subst had
  refine ⟨fun _ => rfl, fun j u hu => ?_⟩
  rw [Nat.zero_add, cell_of_row (w.alloc (.cells cs T)) w.heap.size j cs T (0, 0) (by show (w.heap.push _)[w.heap.size]? = _; simp)]
  rw [← h] at hu; simpa using hu
theorem RStrs.lit (w : World) (cs : Array Value) (T : TypeId) (n : Nat) (l : List (List UInt8)) (h : cs.toList = l.map sv) (hn : l.length = n) (hm : n ≤ 100) (hs : ∀ s ∈ l, s.length ≤ 100) : RStrs (w.alloc (.cells cs T)) (.slice (some ⟨w.heap.size, 0, none⟩) n n) l :=
  ⟨Rds.lit w cs T n _ h (by simpa using hn) (by unfold maxLen; omega), fun s h => by have := hs s h; unfold maxLen; omega⟩
theorem RInts.lit (w : World) (cs : Array Value) (T : TypeId) (n : Nat) (l : List Int) (h : cs.toList = l.map iv) (hn : l.length = n) (hm : n ≤ 100) (hs : ∀ s ∈ l, -100 ≤ s ∧ s ≤ 100) : RInts (w.alloc (.cells cs T)) (.slice (some ⟨w.heap.size, 0, none⟩) n n) l :=
  ⟨Rds.lit w cs T n _ h (by simpa using hn) (by unfold maxLen; omega), fun s h => by have := hs s h; omega⟩
theorem RStrs.up {w v l} (h : RStrs w v l) (o : Obj) : RStrs (w.alloc o) v l := h.below ((Below.refl _ _).alloc (Nat.le_refl _) _)
theorem RInts.up {w v l} (h : RInts w v l) (o : Obj) : RInts (w.alloc o) v l := h.below ((Below.refl _ _).alloc (Nat.le_refl _) _)
def bD : List (List UInt8) := [[111,110,101],[116,119,111],[115,105,120]]
def bE : List (List UInt8) := [[111,110,101],[116,101,110],[115,105,120]]
def bM : List (List UInt8) := enc bD 2
def bA : List (List UInt8) := bD ++ bM
theorem bD_map : (#[.string ⟨#[111, 110, 101]⟩, .string ⟨#[116, 119, 111]⟩, .string ⟨#[115, 105, 120]⟩] : Array Value).toList = bD.map sv := rfl
theorem bE_map : (#[.string ⟨#[111, 110, 101]⟩, .string ⟨#[116, 101, 110]⟩, .string ⟨#[115, 105, 120]⟩] : Array Value).toList = bE.map sv := rfl
theorem bM_len : bM.length = 2 := by decide +kernel
theorem bA_len : bA.length = 5 := by decide +kernel
theorem encE_bD : encE bD 2 = 0 := by decide +kernel
theorem encE_bE : encE bE 2 = 0 := by decide +kernel
theorem verE_bA : verE bA 2 = 0 := by decide +kernel
theorem verB_bA : verB bA 2 = true := by decide +kernel
theorem rbE_1 : rbE 3 2 [4, 1, 3] [ns bA 4, ns bA 1, ns bA 3] = 0 := by decide +kernel
theorem rb_1 : rb 3 2 [4, 1, 3] [ns bA 4, ns bA 1, ns bA 3] = bD := by decide +kernel
theorem rbE_2 : rbE 3 2 [1, 1, 2] bD = 6 := by decide +kernel
theorem chgE_1 : chgE 1 3 [116, 119, 111] [116, 101, 110] bM = 0 := by decide +kernel
theorem chg_1 : decide (chg 1 3 [116, 119, 111] [116, 101, 110] bM = enc bE 2) = true := by decide +kernel
theorem chg_2 : decide (chg 1 3 [116, 119, 111] [116, 101, 110] bM = bM) = false := by decide +kernel
theorem wpList_appS {P : Program} {w : World} {ops : Array Oper} {rest : List Oper} {o : Oper} {a : Act} {Q : Exit → Act → World → Prop} (hgd : o.guard = none) (s x : Operand) (hP : P = Try.prog)
    (ho : o.op = .call { callee := .builtin .append, args := #[s, x], argTypes := #[24, 24] })
    (S : Nat → Prop) (v : Value) (l : List (List UInt8)) (hs : a.eval s = v) (hown : OStrs S w v l) (vx : Value) (l2 : List (List UInt8)) (hx : a.eval x = vx) (hr : RStrs w vx l2) (hb : (l.length + l2.length) * 16 ≤ 140737488355328)
    (hK : ∀ v' w', OStrs (fun k => v.ownBlock = some k ∨ w.heap.size ≤ k) w' v' (l ++ l2) → Kp (fun k => v.ownBlock = some k) w w' → wpList P ops Q rest (a.put o.dst v') w') : wpList P ops Q (o :: rest) a w := by
  subst hP
  refine wpList_app hgd s x 24 ho 9 _ 1 16 Try.underlying24 info_string rfl (by decide) S v l.length (l.map sv) hs hown.1 vx l2.length (l2.map sv) hx hr.1 (by simp) (oneCell_sv l2) (by unfold maxLen; omega) hb ?_
  intro v' w' h1 h2
  refine hK v' w' ⟨by rw [List.length_append, List.map_append]; exact h1, fun s hs => ?_⟩ h2
  rcases List.mem_append.1 hs with h | h
  · exact hown.2 s h
  · exact hr.2 s h
theorem OStrs.lit0 (w : World) : OStrs (fun k => w.heap.size ≤ k) (w.alloc (.cells #[] 9)) (.slice (some ⟨w.heap.size, 0, none⟩) 0 0) [] :=
  ⟨Own.of (World.ownsRow_lit (size := 1) w #[] 0 (Nat.le_refl _) (Nat.zero_le _) rfl) (fun g hg _ => hg), by simp⟩
/-- only blocks from m on change -/
theorem Below.ofKp {S : Nat → Prop} {w w' : World} {m : Nat} (h : Kp S w w') (hS : ∀ k, S k → m ≤ k) (hm : m ≤ w.heap.size) : Below m w w' :=
  ⟨h.os, h.tape, h.output, h.size, fun k hk => h.block k (by omega) (fun e => by have := hS k e; omega)⟩
theorem own_ge {w : World} {o : Obj} {n c k : Nat} (h : (Value.slice (some ⟨w.heap.size, 0, none⟩) n c).ownBlock = some k ∨ (w.alloc o).heap.size ≤ k) : w.heap.size ≤ k := by
  rcases h with h | h
  · have : w.heap.size = k := by simpa [Value.ownBlock] using h
    omega
  · have : (w.alloc o).heap.size = w.heap.size + 1 := by simp
    omega
theorem RStrs.lit1 (w : World) (cs : Array Value) (T : TypeId) (n : Nat) (l : List (List UInt8)) (o : Obj) (h : cs.toList = l.map sv) (hn : l.length = n) (hm : n ≤ 100) (hs : ∀ s ∈ l, s.length ≤ 100) : RStrs ((w.alloc (.cells cs T)).alloc o).drew (.slice (some ⟨w.heap.size, 0, none⟩) n n) l := ((RStrs.lit w cs T n l h hn hm hs).up o).below ⟨rfl, rfl, rfl, Nat.le_refl _, fun _ _ => rfl⟩
theorem RStrs.lit2 (w : World) (cs : Array Value) (T : TypeId) (n : Nat) (l : List (List UInt8)) (o : Obj) (h : cs.toList = l.map sv) (hn : l.length = n) (hm : n ≤ 100) (hs : ∀ s ∈ l, s.length ≤ 100) : RStrs ((w.alloc o).alloc (.cells cs T)).drew (.slice (some ⟨w.heap.size + 1, 0, none⟩) n n) l := by
  have h1 := RStrs.lit (w.alloc o) cs T n l h hn hm hs
  rw [show (w.alloc o).heap.size = w.heap.size + 1 by simp] at h1
  exact h1.below ⟨rfl, rfl, rfl, Nat.le_refl _, fun _ _ => rfl⟩
theorem RInts.lit1 (w : World) (cs : Array Value) (T : TypeId) (n : Nat) (l : List Int) (o : Obj) (h : cs.toList = l.map iv) (hn : l.length = n) (hm : n ≤ 100) (hs : ∀ s ∈ l, -100 ≤ s ∧ s ≤ 100) : RInts ((w.alloc (.cells cs T)).alloc o).drew (.slice (some ⟨w.heap.size, 0, none⟩) n n) l := ((RInts.lit w cs T n l h hn hm hs).up o).below ⟨rfl, rfl, rfl, Nat.le_refl _, fun _ _ => rfl⟩
theorem RInts.lit2 (w : World) (cs : Array Value) (T : TypeId) (n : Nat) (l : List Int) (o : Obj) (h : cs.toList = l.map iv) (hn : l.length = n) (hm : n ≤ 100) (hs : ∀ s ∈ l, -100 ≤ s ∧ s ≤ 100) : RInts ((w.alloc o).alloc (.cells cs T)).drew (.slice (some ⟨w.heap.size + 1, 0, none⟩) n n) l := by
  have h1 := RInts.lit (w.alloc o) cs T n l h hn hm hs
  rw [show (w.alloc o).heap.size = w.heap.size + 1 by simp] at h1
  exact h1.below ⟨rfl, rfl, rfl, Nat.le_refl _, fun _ _ => rfl⟩
def bP : List (List UInt8) := [ns bA 4, ns bA 1, ns bA 3]
theorem bP_len : ∀ s ∈ bP, s.length ≤ 100 := by decide +kernel
theorem bP_map : (#[.string (str (ns bA 4)), .string (str (ns bA 1)), .string (str (ns bA 3))] : Array Value).toList = bP.map sv := rfl
theorem b413 : ∀ s ∈ ([4, 1, 3] : List Int), -100 ≤ s ∧ s ≤ 100 := by decide
theorem below_two (w : World) (o p : Obj) {w' : World} (h : Below ((w.alloc o).alloc p).drew.heap.size ((w.alloc o).alloc p).drew w') : Below w.heap.size w w' := by
  refine (((Below.refl _ w).alloc (Nat.le_refl _) o).alloc (by simp) p).drew.trans (h.mono ?_)
  show w.heap.size ≤ ((w.alloc o).alloc p).heap.size
  simp; omega
/-- the facts of codeBegun's own texts, under names -/
structure BegC (D E M P X Y : List (List UInt8)) (I J : List Int) : Prop where
  dm : (#[.string ⟨#[111, 110, 101]⟩, .string ⟨#[116, 119, 111]⟩, .string ⟨#[115, 105, 120]⟩] : Array Value).toList = D.map sv
  dl : D.length = 3
  ds : ∀ s ∈ D, s.length ≤ 100
  em : (#[.string ⟨#[111, 110, 101]⟩, .string ⟨#[116, 101, 110]⟩, .string ⟨#[115, 105, 120]⟩] : Array Value).toList = E.map sv
  el : E.length = 3
  es : ∀ s ∈ E, s.length ≤ 100
  im : (#[.int .i64 4, .int .i64 1, .int .i64 3] : Array Value).toList = I.map iv
  il : I.length = 3
  is : ∀ s ∈ I, -100 ≤ s ∧ s ≤ 100
  jm : (#[.int .i64 1, .int .i64 1, .int .i64 2] : Array Value).toList = J.map iv
  jl : J.length = 3
  js : ∀ s ∈ J, -100 ≤ s ∧ s ≤ 100
  d1 : encE D 2 = 0
  d2 : enc D 2 = M
  ml : M.length = 2
  e1 : encE E 2 = 0
  pm : (#[.string (str (ns (D ++ M) 4)), .string (str (ns (D ++ M) 1)), .string (str (ns (D ++ M) 3))] : Array Value).toList = P.map sv
  pl : P.length = 3
  ps : ∀ s ∈ P, s.length ≤ 100
  r1 : rbE 3 2 I P = 0
  r2 : rb 3 2 I P = D
  v1 : verE (D ++ M) 2 = 0
  v2 : verB (D ++ M) 2 = true
  c1 : chgE 1 3 [116, 119, 111] [116, 101, 110] M = 0
  c0 : chg 1 3 [116, 119, 111] [116, 101, 110] M = X
  e2 : enc E 2 = Y
  c2 : decide (X = Y) = true
  c3 : decide (X = M) = false
  q1 : rbE 3 2 J D = 6
theorem begC : BegC bD bE bM bP (chg 1 3 [116, 119, 111] [116, 101, 110] bM) (enc bE 2) [4, 1, 3] [1, 1, 2] where
  dm := rfl
  dl := rfl
  ds := by decide
  em := rfl
  el := rfl
  es := by decide
  im := rfl
  il := rfl
  is := b413
  jm := rfl
  jl := rfl
  js := by decide
  d1 := encE_bD
  d2 := rfl
  ml := bM_len
  e1 := encE_bE
  pm := rfl
  pl := rfl
  ps := bP_len
  r1 := rbE_1
  r2 := rb_1
  v1 := verE_bA
  v2 := verB_bA
  c1 := chgE_1
  c0 := rfl
  e2 := rfl
  c2 := chg_1
  c3 := chg_2
  q1 := rbE_2
theorem sv2 : Value.string (str [116, 119, 111]) = .string ⟨#[116, 119, 111]⟩ := rfl
theorem sv3 : Value.string (str [116, 101, 110]) = .string ⟨#[116, 101, 110]⟩ := rfl
theorem codeBegun_core (D E M P X Y : List (List UInt8)) (I J : List Int) (h : BegC D E M P X Y I J) (w : World) : Calls Try.prog 18 #[] w fun e w' => e = .returned (.bool true) ∧ Below w.heap.size w w' := by
  have H := Lib.hid h
  have hal : (D ++ M).length = 5 := by rw [List.length_append, h.dl, h.ml]
  have HAL := Lib.hid hal
  clear h hal
  go_enter Try.func18, Try.ntmps18
  go_wp2_with (first | (go_at_call 14; refine (Encode_calls _ D 2 _ (RStrs.lit _ _ _ 3 D H.out.dm H.out.dl (by decide) H.out.ds)).mono ?_; rw [H.out.d1, H.out.d2]; rintro e w1 ⟨x1, rfl, ho, hb⟩; obtain ⟨g1, c1, rfl, _, hg1, hc1, hm1, _, _⟩ := ho.shape (by rw [H.out.ml]; omega); rw [H.out.ml] at ho hc1 ⊢; have HO1 := Lib.hid ho; have HD1 := Lib.hid (RStrs.below (RStrs.lit w _ 9 3 D H.out.dm H.out.dl (by decide) H.out.ds) hb); have HB1 := Lib.hid (below_alloc hb); unfold maxLen at hm1; clear ho hb) | (at_builtin; refine wpList_appS rfl (.tmp 28) (.tmp 29) rfl rfl (fun k => w1.heap.size ≤ k) _ [] rfl (OStrs.lit0 w1) _ D rfl (HD1.out.up _) (by rw [H.out.dl]; decide) ?_; intro v2 w2 ho2 hk2; have HO2 := Lib.hid ho2; have HB2 : Hid (Below w1.heap.size w1 w2) := below_app hk2; clear ho2 hk2) | (at_builtin; refine wpList_appS rfl (.tmp 30) (.tmp 31) rfl rfl (fun k => w1.heap.size ≤ k) _ D rfl (HO2.out.mono fun k hk => own_ge hk) _ M rfl (HO1.out.rd.below HB2.out) (by rw [H.out.ml, H.out.dl]; decide) ?_; intro v3 w3 ho3 hk3; have HB3 : Hid (Below w1.heap.size w1 w3) := HB2.out.trans (Below.ofKp hk3 (fun k hk => own_ge (HO2.out.1.2 k hk)) HB2.out.size); obtain ⟨g3, c3, rfl, _, hg3, hc3, hm3, hce3, _⟩ := ho3.shape (by rw [HAL.out]; omega); rw [HAL.out] at ho3 hc3 hce3 ⊢; have HO3 := Lib.hid ho3.rd; have HC3 := Lib.hid hce3; unfold maxLen at hm3; clear ho3 hk3 hce3))
  clear HO2 HB2
  go_cut [5, 6] (fun x y wx => y = .int .i64 0 ∧ RStrs wx x D ∧ Below w3.heap.size w3 wx)
  case first =>
    have f4 := HC3.out 4 (by omega)
    have f1 := HC3.out 1 (by omega)
    have f3 := HC3.out 3 (by omega)
    have HPM := Lib.hid H.out.pm
    generalize ns (D ++ M) 4 = p4 at *
    generalize ns (D ++ M) 1 = p1 at *
    generalize ns (D ++ M) 3 = p3 at *
    go_region_held (fun w' => w'.cell? ⟨g3, 4, none⟩ = some (.string (str p4)) ∧ w'.cell? ⟨g3, 1, none⟩ = some (.string (str p1)) ∧ w'.cell? ⟨g3, 3, none⟩ = some (.string (str p3))) (go_keep) ((go_at_call 54; (refine (Rebuild_calls 3 2 _ _ I P _ (by first | exact RInts.lit1 _ _ _ 3 I _ H.out.im H.out.il (by decide) H.out.is | exact RInts.lit2 _ _ _ 3 I _ H.out.im H.out.il (by decide) H.out.is) (by first | exact RStrs.lit1 _ _ _ 3 P _ HPM.out H.out.pl (by decide) H.out.ps | exact RStrs.lit2 _ _ _ 3 P _ HPM.out H.out.pl (by decide) H.out.ps)).mono ?_; rw [H.out.r1, H.out.r2]; rintro e w4 ⟨x4, rfl, ho4, hb4⟩; have HO4 := Lib.hid ho4; have HB4 := Lib.hid (below_two _ _ _ hb4); have k4 := (HB4.out.cell (p := ⟨g3, 4, none⟩) hg3).trans f4; have k1 := (HB4.out.cell (p := ⟨g3, 1, none⟩) hg3).trans f1; have k3 := (HB4.out.cell (p := ⟨g3, 3, none⟩) hg3).trans f3; clear ho4 hb4)))
    all_goals go_wp2_with fail
    all_goals go_meet
    all_goals exact ⟨rfl, HO4.out.rd, HB4.out⟩
  case rest =>
    obtain ⟨rfl, hs4, hb4⟩ := hcut
    have HS4 := Lib.hid hs4
    have HBC : Hid (Below w1.heap.size w1 wc) := HB3.out.trans (hb4.mono HB3.out.size)
    have HA4 := Lib.hid (HO3.out.below hb4)
    clear hs4 hb4 HB3 HC3 HO3
    go_wp2_with (first | (go_at_call 15; refine (Verify_calls _ (D ++ M) 2 _ HA4.out).mono ?_; rw [H.out.v1, H.out.v2]; rintro e w5 ⟨rfl, hb5⟩; have HB5 : Hid (Below w1.heap.size w1 w5) := HBC.out.trans (hb5.mono HBC.out.size); have HC5 := Lib.hid hb5; clear hb5) | (go_at_call 16; refine (Change_calls 1 3 [116, 119, 111] [116, 101, 110] _ M _ (HO1.out.rd.below HB5.out) (by decide) (by decide)).mono ?_; rw [H.out.c1, H.out.c0]; rintro e w6 ⟨x6, rfl, ho6, hb6⟩; have HB6 : Hid (Below w1.heap.size w1 w6) := HB5.out.trans (hb6.mono HB5.out.size); have HC6 : Hid (Below wc.heap.size wc w6) := HC5.out.trans (hb6.mono HC5.out.size); have HO6 := Lib.hid ho6.rd; clear hb6 ho6) | (go_at_call 14; refine (Encode_calls _ E 2 _ (RStrs.lit _ _ _ 3 E H.out.em H.out.el (by decide) H.out.es)).mono ?_; rw [H.out.e1, H.out.e2]; rintro e w7 ⟨x7, rfl, ho7, hb7⟩; have HB67 := Lib.hid (below_alloc hb7); have HO7 := Lib.hid ho7.rd; clear ho7 hb7) | (go_at_call 54; refine (Rebuild_calls 3 2 _ _ J D _ (RInts.lit _ _ _ 3 J H.out.jm H.out.jl (by decide) H.out.js) (((HD1.out.below HB6.out).below HB67.out).up _)).mono ?_; rw [H.out.q1]; rintro e w8 ⟨x8, rfl, ho8, hb8⟩; have HB78 := Lib.hid (below_alloc hb8); clear ho8 hb8))
    have a1 := ((HS4.out.below HC6.out).below HB67.out).below HB78.out
    have a2 := ((HD1.out.below HB6.out).below HB67.out).below HB78.out
    have a3 := Lib.hid ((HO6.out.below HB67.out).below HB78.out)
    have a4 := Lib.hid (HO7.out.below HB78.out)
    have a5 := Lib.hid (((HO1.out.rd.below HB6.out).below HB67.out).below HB78.out)
    refine (sameTexts_calls _ _ D D _ a1 a2).mono ?_
    rw [decide_eq_true (rfl : D = D)]
    rintro e w9 ⟨rfl, n9, rfl⟩
    dsimp only
    clear a1 a2
    go_wp2_with fail
    refine (sameTexts_calls _ _ X Y _ (a3.out.below (below_drewN _ _)) (a4.out.below (below_drewN _ _))).mono ?_
    rw [H.out.c2]
    rintro e w10 ⟨rfl, n10, rfl⟩
    dsimp only
    go_wp2_with fail
    refine (sameTexts_calls _ _ X M _ (a3.out.below (below_drewN _ _)) (a5.out.below (below_drewN _ _))).mono ?_
    rw [H.out.c3]
    rintro e w11 ⟨rfl, n11, rfl⟩
    dsimp only
    go_wp2_with fail
    go_ret
    refine ⟨rfl, ?_⟩
    have h1 := HB1.out
    have h2 := h1.trans (HB6.out.mono h1.size)
    have h3 := h2.trans (HB67.out.mono h2.size)
    have h4 := h3.trans (HB78.out.mono h3.size)
    exact h4.trans ((below_drewN _ _).mono h4.size)
theorem codeBegun_calls (w : World) : Calls Try.prog 18 #[] w fun e w' => e = .returned (.bool true) ∧ Below w.heap.size w w' := codeBegun_core _ _ _ _ _ _ _ _ begC w
end Go.Proofs.Ytphehfllcmbpkaa
