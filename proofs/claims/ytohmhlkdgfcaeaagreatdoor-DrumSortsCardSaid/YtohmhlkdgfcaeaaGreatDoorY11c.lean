/- DrumSorts: the program tells whether any list is a sorting, the best sorting, and the longest list of batches that are apart, or the errors, as the reference does. For every input that can be read as data, the tables of Go's library being as their text lays them: the call returns true, and each argument reads behind it as before. -/
import Derived.KernelRfl
import Derived.Test.YtohmhlkdgfcaeaaGreatDoorTie
import Derived.Test.YtohmhlkdgfcaeaaGreatDoorCards
import Derived.Test.YtohmhlkdgfcaeaaGreatDoorY11b
set_option linter.unusedVariables false
set_option linter.unusedSimpArgs false
namespace Go.Proofs.YtohmhlkdgfcaeaaGreatDoor
section
open Go Go.RowKit
def aJ (l : List Int) : List (List Int) := (List.range ((rn 0 l).toNat + 1)).map fun (x : Nat) => l ++ [(x : Int)]
def gY : Nat → List Int → List (List Int)
 | 0, l => [l]
 | k + 1, l => (aJ l).flatMap (gY k)
theorem zIU {v : Int} : ∀ (l m : List Int) (w : List zC), ∀ s ∈ jO v l w, s ∈ jO v (l ++ m) w := by
 intro l
 induction l with
 | nil => intro m w s h; cases w <;> cases h
 | cons x r ih =>
  intro m w s h
  cases w with
  | nil => cases h
  | cons t w =>
   rw [List.cons_append]
   rw [jO] at h ⊢
   cases hc : decide (x = v) with
   | true =>
    rw [hc, cond_true] at h
    rw [cond_true]
    rcases List.mem_cons.1 h with rfl | h
    ·exact List.mem_cons_self
    ·exact List.mem_cons_of_mem _ (ih m w s h)
   | false =>
    rw [hc, cond_false] at h
    rw [cond_false]
    exact ih m w s h
theorem zMV {w w' : List zC} (h : (eT w).ne) (hs : ∀ s ∈ w', s ∈ w) : (eT w').ne := uE.1 ((uE.2 h).sub hs)
theorem zGN {w : List zC} {l : List Int} {x : Int} (h : xZ w (l ++ [x]) = true) : xZ w l = true := by
 unfold xZ at *
 rw [zFO, zIS, Bool.and_eq_true, Bool.and_eq_true, List.all_eq_true] at h
 obtain ⟨⟨h1, _⟩, h2⟩ := h
 rw [h1, Bool.true_and, List.all_eq_true]
 intro v hv
 have hv := List.mem_range.1 hv
 have := of_decide_eq_true (h2 v (List.mem_range.2 (by omega)))
 exact decide_eq_true (zMV this (zIU l [x] w))
structure Way (l : List Int) : Prop where
 rg : rgB 0 l = true
 nn : ∀ x ∈ l, 0 ≤ x
theorem Way.nil : Way [] := ⟨rfl, by simp⟩
theorem Way.step {l : List Int} (h : Way l) {x : Nat} (hx : (x : Int) ≤ rn 0 l) : Way (l ++ [(x : Int)]) :=
 ⟨by rw [zFO, h.rg, decide_eq_true hx]; rfl, fun y hy => by
  rcases List.mem_append.1 hy with hy | hy
  ·exact h.nn y hy
  ·obtain rfl := List.mem_singleton.1 hy; omega⟩
theorem Way.rn {l : List Int} (h : Way l) : 0 ≤ rn 0 l ∧ YtohmhlkdgfcaeaaGreatDoor.rn 0 l ≤ l.length := by
 have h1 := zNM l 0 h.rg
 have h2 := zNN l 0
 omega
theorem tX {l z : List Int} (h : Way l) (hz : z ∈ aJ l) : Way z ∧ z.length = l.length + 1 ∧ ∃ x, z = l ++ [x] := by
 unfold aJ at hz
 obtain ⟨x, hx, rfl⟩ := List.mem_map.1 hz
 have := h.rn
 have hx := List.mem_range.1 hx
 exact ⟨h.step (by omega), by simp, _, rfl⟩
theorem tN : ∀ (k : Nat) (l z : List Int), Way l → z ∈ gY k l → Way z ∧ z.length = l.length + k := by
 intro k
 induction k with
 | zero => intro l z h hz; obtain rfl := List.mem_singleton.1 hz; exact ⟨h, rfl⟩
 | succ k ih =>
  intro l z h hz
  obtain ⟨y, hy, hz⟩ := List.mem_flatMap.1 hz
  obtain ⟨h1, h2, _⟩ := tX h hy
  obtain ⟨h3, h4⟩ := ih y z h1 hz
  exact ⟨h3, by omega⟩
theorem zMS {w : List zC} : ∀ (k : Nat) (l z : List Int), Way l → z ∈ gY k l → xZ w z = true → xZ w l = true := by
 intro k
 induction k with
 | zero => intro l z h hz hs; obtain rfl := List.mem_singleton.1 hz; exact hs
 | succ k ih =>
  intro l z h hz hs
  obtain ⟨y, hy, hz⟩ := List.mem_flatMap.1 hz
  obtain ⟨h1, _, x, rfl⟩ := tX h hy
  exact zGN (ih _ z h1 hz hs)
theorem zMQ {α β : Type} (f : α → List β) (b : Nat) : ∀ l : List α, (∀ x ∈ l, (f x).length ≤ b) → (l.flatMap f).length ≤ l.length * b := by
 intro l
 induction l with
 | nil => intro _; simp
 | cons x r ih =>
  intro h
  have h1 := h x List.mem_cons_self
  have h2 := ih (fun y hy => h y (List.mem_cons_of_mem _ hy))
  rw [List.flatMap_cons, List.length_append, List.length_cons, Nat.succ_mul]
  omega
theorem zCJ {l : List Int} (h : Way l) (hl : l.length ≤ 5) : (aJ l).length ≤ 6 := by
 have := h.rn
 simp only [aJ, List.length_map, List.length_range]
 omega
theorem zQY : ∀ (k : Nat) (l : List Int), Way l → l.length + k ≤ 5 → (gY k l).length ≤ 6 ^ k := by
 intro k
 induction k with
 | zero => intro l _ _; simp [gY]
 | succ k ih =>
  intro l h hl
  have h1 := zCJ h (by omega)
  have h2 := zMQ (gY k) (6 ^ k) (aJ l) (fun z hz => by
   obtain ⟨a, b, _⟩ := tX h hz
   exact ih z a (by omega))
  rw [gY, Nat.pow_succ, Nat.mul_comm]
  exact Nat.le_trans h2 (Nat.mul_le_mul_right _ h1)
section
variable {n : Nat} {d : zN}
theorem zSM (hn : 100 ≤ n) (now : List Int) (hnow : now.length ≤ 50) (f : List Int → List (List Int) → Option (List (List Int))) (G : Nat → List (List Int)) (b M : Nat) (hG : ∀ x, x < M → (G x).length ≤ b)
  (hf : ∀ x, x < M → ∀ all, all.length + b ≤ 100000 → f (now ++ [(x : Int)]) all = some (all ++ G x)) : ∀ (r i j : Nat) (all : List (List Int)), i + r = M → r < j → all.length + r * b ≤ 100000 → M ≤ 100 →
  mE n now f (M : Int) j (i : Int) all = some (all ++ (List.range' i r).flatMap G) := by
 intro r
 induction r with
 | zero =>
  intro i j all hi hj _ _
  obtain ⟨j, rfl⟩ : ∃ j', j = j' + 1 := ⟨j - 1, by omega⟩
  rw [mE, decide_eq_false (by omega), cond_false]
  simp
 | succ r ih =>
  intro i j all hi hj hb hM
  obtain ⟨j, rfl⟩ : ∃ j', j = j' + 1 := ⟨j - 1, by omega⟩
  have h1 := hG i (by omega)
  rw [Nat.succ_mul] at hb
  rw [mE, decide_eq_true (by omega), cond_true]
  unfold zCP
  rw [bA (by simp; omega), Option.bind_some, List.nil_append, bA (by simp; omega), Option.bind_some, hf i (by omega) all (by omega), Option.bind_some, yE (by omega)]
  have := ih (i + 1) j (all ++ G i) (by omega) (by omega) (by rw [List.length_append]; omega) hM
  push_cast at this
  rw [this, List.range'_succ, List.flatMap_cons, List.append_assoc]
theorem zWQ (hn : 100 ≤ n) (w : List zC) (hw : w.length < 6) (hd : d.batches.length = w.length) : ∀ (r f : Nat) (now : List Int) (all : List (List Int)), now.length + r = w.length → r < f → Way now → all.length + 6 ^ r ≤ 100000 →
  mW n ⟨w⟩ d f now all = some (all ++ (gY r now).filter (xZ w)) := by
 intro r
 induction r with
 | zero =>
  intro f now all hl hf hway hb
  obtain ⟨f, rfl⟩ : ∃ f', f = f' + 1 := ⟨f - 1, by omega⟩
  rw [mW, zHC hn w hw now (by omega) hway.nn, Option.bind_some, gY, List.filter_cons, List.filter_nil]
  cases xZ w now with
  | false => simp
  | true =>
   simp only [Nat.pow_zero] at hb
   rw [Bool.not_true, cond_false, decide_eq_true (by omega), cond_true, bA (by simp; omega)]
   rfl
 | succ r ih =>
  intro f now all hl hf hway hb
  obtain ⟨f, rfl⟩ : ∃ f', f = f' + 1 := ⟨f - 1, by omega⟩
  rw [mW, zHC hn w hw now (by omega) hway.nn, Option.bind_some]
  cases hs : xZ w now with
  | false =>
   have : (gY (r + 1) now).filter (xZ w) = [] := by
    rw [List.filter_eq_nil_iff]
    intro z hz h
    have := zMS (r + 1) now z hway hz h
    rw [hs] at this
    cases this
   rw [this]
   simp
  | true =>
   obtain ⟨out, e, hlen, _⟩ := (zNS hn now (by omega) hway.nn).2 hway.rg
   have hrn := hway.rn
   have hp : 6 ^ (r + 1) = 6 ^ r * 6 := Nat.pow_succ ..
   rw [Bool.not_true, cond_false, decide_eq_false (by omega), cond_false, e, Option.bind_some]
   have hM : (out.length : Int) + 1 = ((out.length + 1 : Nat) : Int) := by push_cast; rfl
   show mE n now (mW n ⟨w⟩ d f) (wr ((out.length : Int) + 1)) n ((0 : Nat) : Int) all = _
   rw [yE (by omega), hM]
   rw [zSM hn now (by omega) _ (fun x => (gY r (now ++ [(x : Int)])).filter (xZ w)) (6 ^ r) (out.length + 1) (fun x hx => Nat.le_trans (List.length_filter_le _ _) (zQY r _ (hway.step (by omega)) (by simp; omega)))
    (fun x hx all' ha => ih f _ all' (by simp; omega) (by omega) (hway.step (by omega)) ha) (out.length + 1) 0 n all (by omega) (by omega) (by
     have : (out.length + 1) * 6 ^ r ≤ 6 * 6 ^ r := Nat.mul_le_mul_right _ (by omega)
     omega) (by omega)]
   congr 2
   have hr2 : (rn 0 now).toNat + 1 = out.length + 1 := by omega
   rw [gY, aJ, hr2, ← List.range_eq_range', List.filter_flatMap, List.flatMap_map]
end
end
section
open Go Go.RowKit
def gT (w : List zC) : Bool := w.all fun s => decide s.ne
def InH (w : List zC) : Prop := ∀ s ∈ w, 0 ≤ s.low ∧ s.high ≤ 12
def ltR (a b : List Int) : Bool := decide (rn 0 a < rn 0 b)
def cC (w : List zC) : List Int := match (gY w.length []).filter (xZ w) with
 | [] => []
 | x :: l => least ltR x l
theorem zGA : ∀ i : Nat, i < 6 → ∀ j : Nat, j < 6 → jZ ((2 : Int) ^ i) j = decide (j = i) := by decide
theorem zLS {i : Nat} (hi : i < 6) : ∀ (w : List zC) (k : Nat), k + w.length ≤ 6 → k ≤ i → bX (2 ^ i) k w = (w[i - k]?).toList := by
 intro w
 induction w with
 | nil => intro k _ _; simp [bX]
 | cons s r ih =>
  intro k hk hki
  simp only [List.length_cons] at hk
  rw [bX, zGA i hi k (by omega)]
  by_cases e : k = i
  ·subst e
   have : ∀ (r : List zC) (j : Nat), k < j → j + r.length ≤ 6 → bX (2 ^ k) j r = [] := by
    intro r
    induction r with
    | nil => intro j _ _; rfl
    | cons t r ih2 =>
     intro j hj hl
     simp only [List.length_cons] at hl
     rw [bX, zGA k hi j (by omega), decide_eq_false (by omega), if_neg (by simp), ih2 (j + 1) (by omega) (by omega)]
   rw [decide_eq_true rfl, if_pos rfl, this r (k + 1) (by omega) (by omega)]
   simp
  ·rw [decide_eq_false (by omega), if_neg (by simp), ih (k + 1) (by omega) (by omega), show i - k = (i - (k + 1)) + 1 by omega, List.getElem?_cons_succ]
theorem zRC {w : List zC} (hw : w.length < 6) {i : Nat} {s : zC} (hs : w[i]? = some s) : com w (2 ^ i) = cap ⟨0, 12⟩ s := by
 have hi := (List.getElem?_eq_some_iff.1 hs).1
 unfold com
 rw [zLS (by omega) w 0 (by omega) (by omega), Nat.sub_zero, hs]
 rfl
theorem zJR {s : zC} (h : 0 ≤ s.low ∧ s.high ≤ 12) : (cap ⟨0, 12⟩ s).ne ↔ s.ne := by
 simp only [cap, zC.ne]
 omega
section
variable {n : Nat} {d : zN}
theorem zNT (hn : 100 ≤ n) (w : List zC) (hw : w.length < 6) (hin : InH w) : tE n ⟨w⟩ = some (gT w) := by
 unfold tE
 have key : ∀ (r : List zC) (i k : Nat), w.drop i = r → i ≤ w.length → w.length < k + i → aT n ⟨w⟩ k (i : Int) = some (r.all fun s => decide s.ne) := by
  intro r
  induction r with
  | nil =>
   intro i k hi h2 hk
   have hil : w.length ≤ i := List.drop_eq_nil_iff.1 hi
   obtain ⟨k, rfl⟩ : ∃ k', k = k' + 1 := ⟨k - 1, by omega⟩
   rw [aT, decide_eq_false (by show ¬ (i : Int) < (w.length : Int); omega), cond_false]
   rfl
  | cons s r ih =>
   intro i k hi h2 hk
   have hil : i < w.length := by
    rcases Nat.lt_or_ge i w.length with h | h
    ·exact h
    ·rw [List.drop_eq_nil_of_le h] at hi; cases hi
   obtain ⟨k, rfl⟩ : ∃ k', k = k' + 1 := ⟨k - 1, by omega⟩
   rw [List.drop_eq_getElem_cons hil] at hi
   obtain ⟨hx, hr⟩ := List.cons.inj hi
   have hg : w[i]? = some s := by rw [List.getElem?_eq_getElem hil, hx]
   have hpv := aG (show i ≤ 6 by omega)
   have h63 : (2 : Int) ^ i ≤ 63 := by
    have : (2 : Nat) ^ i ≤ 2 ^ 5 := Nat.pow_le_pow_right (by omega) (by omega)
    have : (2 : Int) ^ i ≤ 2 ^ 5 := by exact_mod_cast this
    omega
   rw [aT, decide_eq_true (by show (i : Int) < (w.length : Int); omega), cond_true, sW (by omega), Option.bind_some, zLU hn w (by omega) (by omega) h63, Option.bind_some, zRC hw hg, yE (by omega), List.all_cons]
   have e : decide (cap ⟨0, 12⟩ s).ne = decide s.ne := decide_eq_decide.2 (zJR (hin s (List.mem_of_getElem? hg)))
   have := ih (i + 1) k hr (by omega) (by omega)
   push_cast at this
   rw [e, this]
   cases decide s.ne <;> rfl
 exact key w 0 n (by simp) (by omega) (by omega)
theorem zWO (hn : 100 ≤ n) (x : Int) (l : List Int) (hl : l.length ≤ 50) : vK n (x :: l) = some (l.foldl max x) := by
 unfold vK
 rw [decide_eq_false (by simp only [List.length_cons]; omega), cond_false, show ix (x :: l) 0 = some x from rfl, Option.bind_some]
 have key : ∀ (r : List Int) (i k : Nat) (c : Int), (x :: l).drop i = r → i ≤ (x :: l).length → (x :: l).length < k + i → aQ (x :: l) k c (i : Int) = some (r.foldl max c) := by
  intro r
  induction r with
  | nil =>
   intro i k c hi h2 hk
   have hil : (x :: l).length ≤ i := List.drop_eq_nil_iff.1 hi
   obtain ⟨k, rfl⟩ : ∃ k', k = k' + 1 := ⟨k - 1, by omega⟩
   rw [aQ, decide_eq_false (by omega), cond_false]
   rfl
  | cons y r ih =>
   intro i k c hi h2 hk
   have hil : i < (x :: l).length := by
    rcases Nat.lt_or_ge i (x :: l).length with h | h
    ·exact h
    ·rw [List.drop_eq_nil_of_le h] at hi; cases hi
   obtain ⟨k, rfl⟩ : ∃ k', k = k' + 1 := ⟨k - 1, by omega⟩
   have h51 : (x :: l).length ≤ 51 := by simp only [List.length_cons]; omega
   rw [List.drop_eq_getElem_cons hil] at hi
   obtain ⟨hx, hr⟩ := List.cons.inj hi
   rw [aQ, decide_eq_true (by omega), cond_true, xS (List.getElem?_eq_getElem hil), Option.bind_some, hx, yE (by omega)]
   have := ih (i + 1) k (max c y) hr (by omega) (by omega)
   push_cast at this
   exact this
 exact key l 1 n x rfl (by simp) (by simp only [List.length_cons]; omega)
theorem zQX : ∀ (l : List Int) (c : Int), l.foldl max c + 1 = rn (c + 1) l := by
 intro l
 induction l with
 | nil => intro c; rfl
 | cons y r ih =>
  intro c
  rw [List.foldl_cons, ih, rn]
  congr 1
  omega
theorem zWP (hn : 100 ≤ n) {l : List Int} (hl : l.length ≤ 50) (hne : l ≠ []) (h : Way l) : eM n l = some (rn 0 l) := by
 cases l with
 | nil => exact absurd rfl hne
 | cons x l =>
  have hx := h.nn x List.mem_cons_self
  have hr := h.rn
  unfold eM
  have e := zQX l x
  have e2 : rn 0 (x :: l) = rn (x + 1) l := by rw [rn]; congr 1; omega
  simp only [List.length_cons] at hl hr
  rw [zWO hn x l (by omega), Option.bind_some, e2, ← e, yE (by omega)]
theorem zPT (hd : d.ok) {b : yI} (hb : b.ok) : 0 ≤ (hC d b).low ∧ (hC d b).high ≤ 12 := by
 have hhr := dL hd
 unfold hC
 by_cases h : jQ (smP d b) (hrs d + 1) 0 < 0
 ·rw [decide_eq_true h, cond_true]
  exact ⟨by show (0 : Int) ≤ 1; omega, by show (0 : Int) ≤ 12; omega⟩
 ·rw [decide_eq_false h, cond_false]
  refine ⟨by show 0 ≤ jQ (smP d b) (hrs d + 1) 0; omega, ?_⟩
  show jH (thP d b) (hrs d + 1) ≤ 12
  by_cases h2 : jH (thP d b) (hrs d + 1) < 0
  ·omega
  ·have := (zHO _ _ (show 0 ≤ jH (thP d b) (hrs d + 1) by omega)).2.1
   omega
theorem zCC (hd : d.ok) : InH (wsP d) := by
 intro s hs
 unfold wsP at hs
 obtain ⟨b, hb, rfl⟩ := List.mem_map.1 hs
 exact zPT hd (hd.bt b hb)
def rO (m : Nat) : List Int := (List.range m).map fun (i : Nat) => (i : Int)
theorem zMT : ((List.range 6).all fun m => (gY m []).contains (rO m)) = true := by kernel_rfl
theorem zQZ : ((List.range 6).all fun m => decide ((gY m []).length ≤ 60)) = true := by kernel_rfl
theorem zRB : ((List.range 6).all fun m => decide (rn 0 (rO m) = (m : Int)) && rgB 0 (rO m)) = true := by kernel_rfl
theorem zFI {v : Nat} : ∀ (w : List zC) (i : Nat), i ≤ v → jO (v : Int) ((List.range' i w.length).map fun (j : Nat) => (j : Int)) w = (w[v - i]?).toList := by
 intro w
 induction w with
 | nil => intro i _; simp [jO]
 | cons s r ih =>
  intro i hi
  rw [List.length_cons, List.range'_succ, List.map_cons, jO]
  by_cases e : i = v
  ·subst e
   rw [decide_eq_true rfl, cond_true]
   have : ∀ (r : List zC) (j : Nat), i < j → jO (i : Int) ((List.range' j r.length).map fun (j : Nat) => (j : Int)) r = [] := by
    intro r
    induction r with
    | nil => intro j _; simp [jO]
    | cons t r ih2 =>
     intro j hj
     rw [List.length_cons, List.range'_succ, List.map_cons, jO, decide_eq_false (by omega), cond_false]
     exact ih2 (j + 1) (by omega)
   rw [this r (i + 1) (by omega)]
   simp
  ·rw [decide_eq_false (by omega), cond_false, ih (i + 1) (by omega), show v - i = (v - (i + 1)) + 1 by omega, List.getElem?_cons_succ]
theorem zHU {w : List zC} (hw : w.length < 6) (hin : InH w) (he : gT w = true) : xZ w (rO w.length) = true := by
 have h1 := List.all_eq_true.1 zRB w.length (List.mem_range.2 hw)
 rw [Bool.and_eq_true, decide_eq_true_eq] at h1
 unfold xZ
 rw [h1.2, Bool.true_and, List.all_eq_true]
 intro v hv
 have hv := List.mem_range.1 hv
 rw [h1.1] at hv
 have hvw : v < w.length := by omega
 have e : jO (v : Int) (rO w.length) w = [w[v]] := by
  unfold rO
  rw [List.range_eq_range', zFI w 0 (by omega), Nat.sub_zero, List.getElem?_eq_getElem hvw]
  rfl
 rw [e]
 have hm := List.getElem_mem hvw
 refine decide_eq_true ?_
 show (cap ⟨0, 12⟩ w[v]).ne
 rw [zJR (hin _ hm)]
 exact of_decide_eq_true (List.all_eq_true.1 he _ hm)
theorem zBG {w : List zC} (hw : w.length < 6) (hin : InH w) (he : gT w = true) : ∃ x l, (gY w.length []).filter (xZ w) = x :: l := by
 cases h : (gY w.length []).filter (xZ w) with
 | nil =>
  have h1 := List.all_eq_true.1 zMT w.length (List.mem_range.2 hw)
  have hm : rO w.length ∈ (gY w.length []).filter (xZ w) := List.mem_filter.2 ⟨by simpa using h1, zHU hw hin he⟩
  rw [h] at hm
  cases hm
 | cons x l => exact ⟨x, l, rfl⟩
theorem zKQ {w : List zC} (hw : w.length < 6) (hin : InH w) (he : gT w = true) : cC w ∈ gY w.length [] ∧ xZ w (cC w) = true ∧ (∀ z ∈ gY w.length [], xZ w z = true → rn 0 (cC w) ≤ rn 0 z) := by
 obtain ⟨x, l, h⟩ := zBG hw hin he
 have hb : cC w = least ltR x l := by unfold cC; rw [h]
 have hm : cC w ∈ (gY w.length []).filter (xZ w) := by
  rw [hb, h]
  rcases sK ltR l x with e | e
  ·rw [e]; exact List.mem_cons_self
  ·exact List.mem_cons_of_mem _ e
 obtain ⟨m1, m2⟩ := List.mem_filter.1 hm
 refine ⟨m1, m2, fun z hz hs => ?_⟩
 have hz2 : z ∈ (gY w.length []).filter (xZ w) := List.mem_filter.2 ⟨hz, hs⟩
 rw [h] at hz2
 have key : ∀ (l : List (List Int)) (x z : List Int), (z = x ∨ z ∈ l) → rn 0 (least ltR x l) ≤ rn 0 z := by
  intro l
  induction l with
  | nil =>
   intro x z hz
   rcases hz with rfl | hz
   ·exact Int.le_refl _
   ·cases hz
  | cons y r ih =>
   intro x z hz
   rw [least]
   cases hc : ltR y x with
   | true =>
    rw [cond_true]
    have hc := of_decide_eq_true hc
    rcases hz with rfl | hz
    ·have := ih y y (.inl rfl); omega
    ·rcases List.mem_cons.1 hz with rfl | hz
     ·exact ih z z (.inl rfl)
     ·exact ih y z (.inr hz)
   | false =>
    rw [cond_false]
    have hc := of_decide_eq_false hc
    rcases hz with rfl | hz
    ·exact ih z z (.inl rfl)
    ·rcases List.mem_cons.1 hz with rfl | hz
     ·have := ih x x (.inl rfl); omega
     ·exact ih x z (.inr hz)
 rw [hb]
 exact key l x z (by simpa using hz2)
theorem yAR (hn : 100 ≤ n) (hs : eQ d) : wY n d = some (bif decide (err d true = 0) then (bif gT (wsP d) then (cC (wsP d), rn 0 (cC (wsP d)), 0) else ([], 0, 5)) else ([], 0, err d true)) := by
 unfold wY
 rw [zLX hn hs, Option.bind_some]
 by_cases he : err d true = 0
 ·obtain ⟨h1, _, hne⟩ := lS he
  have hd := iJ.1 h1
  have hbt := hd.btl
  have hl : (wsP d).length < 6 := by rw [nF]; omega
  have hin := zCC hd
  simp only [he, decide_true, Bool.not_true, cond_true, if_neg (show ¬ (false = true) by simp)]
  rw [zLV hd hn hne, Option.bind_some, zNT hn _ hl hin, Option.bind_some]
  cases hea : gT (wsP d) with
  | false => rfl
  | true =>
   obtain ⟨x, l, hf⟩ := zBG hl hin hea
   have hlen : d.batches.length = (wsP d).length := nF.symm
   have h6 : 6 ^ (wsP d).length ≤ 6 ^ 5 := Nat.pow_le_pow_right (by omega) (by omega)
   have hall : ∀ z, (z = x ∨ z ∈ l) → Way z ∧ z.length = (wsP d).length := by
    intro z hz
    have hz : z ∈ (gY (wsP d).length []).filter (xZ (wsP d)) := by rw [hf]; simpa using hz
    obtain ⟨a, b⟩ := tN _ [] z Way.nil (List.mem_filter.1 hz).1
    exact ⟨a, by simpa using b⟩
   have hmany : ∀ z, (z = x ∨ z ∈ l) → eM n z = some (rn 0 z) := by
    intro z hz
    obtain ⟨a, b⟩ := hall z hz
    exact zWP hn (by omega) (by intro e; rw [e] at b; simp at b; omega) a
   have hln : l.length ≤ 60 := by
    have h1 := List.length_filter_le (xZ (wsP d)) (gY (wsP d).length [])
    have h2 := of_decide_eq_true (List.all_eq_true.1 zQZ (wsP d).length (List.mem_range.2 hl))
    rw [hf, List.length_cons] at h1
    omega
   have hbest : cC (wsP d) = least ltR x l := by unfold cC; rw [hf]
   have h125 := zWQ hn (wsP d) hl hlen (wsP d).length n [] [] (by simp) (by omega) Way.nil (by simp; omega)
   rw [List.nil_append, hf] at h125
   have h129 := zNR hn ltR (fun y z => tD n y z (fun v => eM n v)) x l (by omega) (by omega) (fun y z hy hz => by
    unfold tD
    show ((eM n y).bind fun v101 => (eM n z).bind fun v102 => some (decide (v101 < v102))) = _
    rw [hmany y hy, Option.bind_some, hmany z hz, Option.bind_some]
    rfl)
   have hbm : least ltR x l = x ∨ least ltR x l ∈ l := sK ltR l x
   simp only [Bool.not_true, if_neg (show ¬ (false = true) by simp), cond_true]
   rw [h125, Option.bind_some, h129, Option.bind_some]
   show (eM n (least ltR x l)).bind _ = _
   rw [hmany _ hbm, Option.bind_some, hbest]
 ·simp only [decide_eq_false he, Bool.not_false, cond_true, cond_false, if_true]
end
end
section
open Go Go.RowKit
section
variable {n : Nat} {d : zN}
theorem zVW (hn : 100 ≤ n) (w : List zC) (hw : w.length ≤ 50) (l : List Int) (hl : w.length ≤ l.length) (hl2 : l.length ≤ 50) (h0 : l ≠ []) (v : Int) : zCS n w l v = some (eT (jO v l w)) := by
 unfold zCS
 have hpos := List.length_pos_iff.2 h0
 have key : ∀ (r : List zC) (i k : Nat) (c : zC), w.drop i = r → i ≤ w.length → w.length < k + i → bH n w l v k (i : Int) c = some (kL c (jO v (l.drop i) r)) := by
  intro r
  induction r with
  | nil =>
   intro i k c hi h2 hk
   have hil : w.length ≤ i := List.drop_eq_nil_iff.1 hi
   obtain ⟨k, rfl⟩ : ∃ k', k = k' + 1 := ⟨k - 1, by omega⟩
   rw [bH, decide_eq_false (by omega), cond_false]
   cases l.drop i <;> rfl
  | cons s r ih =>
   intro i k c hi h2 hk
   have hil : i < w.length := by
    rcases Nat.lt_or_ge i w.length with h | h
    ·exact h
    ·rw [List.drop_eq_nil_of_le h] at hi; cases hi
   obtain ⟨k, rfl⟩ : ∃ k', k = k' + 1 := ⟨k - 1, by omega⟩
   rw [List.drop_eq_getElem_cons hil] at hi
   obtain ⟨hx, hr⟩ := List.cons.inj hi
   rw [bH, decide_eq_true (by omega), cond_true, decide_eq_false (show ¬ ((l.length : Nat) : Int) = 0 by omega), cond_false, xS (List.getElem?_eq_getElem (show i < l.length by omega)), Option.bind_some, List.drop_eq_getElem_cons (show i < l.length by omega), jO]
   unfold nK pA
   have i1 := fun c => ih (i + 1) k c hr (by omega) (by omega)
   push_cast at i1
   cases decide (l[i] = v) with
   | true =>
    rw [cond_true, cond_true, xS (List.getElem?_eq_getElem hil), Option.bind_some, Option.bind_some, yE (by omega), i1, hx]
    rfl
   | false => rw [cond_false, cond_false, yE (by omega), i1]
 exact key w 0 n _ (by simp) (by omega) (by omega)
theorem zRZ : ∀ (l : List Int) (c : Int), 0 ≤ c → rgB c l = true → ∀ v : Int, c ≤ v → v < rn c l → v ∈ l := by
 intro l
 induction l with
 | nil => intro c _ _ v h1 h2; rw [rn] at h2; omega
 | cons x r ih =>
  intro c hc h v h1 h2
  rw [rgB, Bool.and_eq_true, decide_eq_true_eq] at h
  rw [rn] at h2
  by_cases e : v = x
  ·rw [e]; exact List.mem_cons_self
  ·by_cases e2 : max c (x + 1) ≤ v
   ·exact List.mem_cons_of_mem _ (ih _ (by omega) h.2 v e2 h2)
   ·omega
theorem sE (w : List zC) (l : List Int) (h0 : ∀ x ∈ l, 0 ≤ x) : xZ w l = (rgB 0 l && l.all fun x => decide (eT (jO x l w)).ne) := by
 unfold xZ
 cases hr : rgB 0 l with
 | false => rfl
 | true =>
  rw [Bool.true_and, Bool.true_and, Bool.eq_iff_iff, List.all_eq_true, List.all_eq_true]
  constructor
  ·intro h x hx
   have h1 := h0 x hx
   have h2 := zIR l 0 x hx
   have := h x.toNat (List.mem_range.2 (by omega))
   rw [show ((x.toNat : Nat) : Int) = x by omega] at this
   exact this
  ·intro h v hv
   have hv := List.mem_range.1 hv
   exact h v (zRZ l 0 (by omega) hr v (by omega) (by omega))
theorem zSJ (hn : 100 ≤ n) (w : List zC) (hw : w.length ≤ 50) (l : List Int) (hl : w.length ≤ l.length) (hl2 : l.length ≤ 50) (h0 : ∀ x ∈ l, 0 ≤ x ∧ x ≤ 1000) : wW n w l = some (xZ w l) := by
 rw [sE w l (fun x hx => (h0 x hx).1)]
 unfold wW
 have key : ∀ (r : List Int) (i k : Nat), l.drop i = r → i ≤ l.length → l.length < k + i → eA n w l k (i : Int) = some (rgB (rn 0 (l.take i)) r && r.all fun x => decide (eT (jO x l w)).ne) := by
  intro r
  induction r with
  | nil =>
   intro i k hi h2 hk
   have hil : l.length ≤ i := List.drop_eq_nil_iff.1 hi
   obtain ⟨k, rfl⟩ : ∃ k', k = k' + 1 := ⟨k - 1, by omega⟩
   rw [eA, decide_eq_false (by omega), cond_false]
   rfl
  | cons x r ih =>
   intro i k hi h2 hk
   have hil : i < l.length := by
    rcases Nat.lt_or_ge i l.length with h | h
    ·exact h
    ·rw [List.drop_eq_nil_of_le h] at hi; cases hi
   obtain ⟨k, rfl⟩ : ∃ k', k = k' + 1 := ⟨k - 1, by omega⟩
   rw [List.drop_eq_getElem_cons hil] at hi
   obtain ⟨hx, hr⟩ := List.cons.inj hi
   have hne : l ≠ [] := by intro e; rw [e] at hil; simp at hil
   have hsub : qM l 0 (i : Int) = some (l.take i) := by
    unfold qM
    rw [decide_eq_true (by omega), decide_eq_true (by omega), decide_eq_true (by omega)]
    simp
   have htk : (l.take i).length ≤ 50 := by rw [List.length_take]; omega
   rw [eA, decide_eq_true (by omega), cond_true, xS (List.getElem?_eq_getElem hil), Option.bind_some, hx, hsub, Option.bind_some, zAC hn _ htk (fun y hy => by have := h0 y (List.mem_of_mem_take hy); omega), Option.bind_some, Option.bind_some, zVW hn w hw l hl hl2 hne x, Option.bind_some, rgB, List.all_cons, yE (by omega)]
   have htake : rn 0 (l.take (i + 1)) = max (rn 0 (l.take i)) (x + 1) := by
    rw [List.take_add_one, List.getElem?_eq_getElem hil, hx]
    exact zIS _ _ _
   have := ih (i + 1) k hr (by omega) (by omega)
   push_cast at this
   rw [this, htake]
   by_cases c1 : rn 0 (l.take i) < x
   ·rw [decide_eq_true c1, cond_true, decide_eq_false (show ¬ x ≤ rn 0 (l.take i) by omega)]
    rfl
   ·rw [decide_eq_false c1, cond_false, decide_eq_true (show x ≤ rn 0 (l.take i) by omega), Bool.true_and]
    by_cases c2 : (eT (jO x l w)).high < (eT (jO x l w)).low
    ·rw [decide_eq_true c2, cond_true, decide_eq_false (show ¬ (eT (jO x l w)).ne by unfold zC.ne; omega), Bool.false_and, Bool.and_false]
    ·rw [decide_eq_false c2, cond_false, decide_eq_true (show (eT (jO x l w)).ne by unfold zC.ne; omega), Bool.true_and]
 have := key l 0 n (by simp) (by omega) (by omega)
 rw [List.take_zero] at this
 exact this
theorem pR {l : List Int} (h : Way l) (hl : l.length ≤ 50) : ∀ x ∈ l, 0 ≤ x ∧ x ≤ 1000 := by
 intro x hx
 have h1 := h.nn x hx
 have h2 := zIR l 0 x hx
 have h3 := h.rn
 omega
def rH (w : List zC) (s y : List Int) : List Int := bif xZ w y && (s.isEmpty || decide (rn 0 y < rn 0 s)) then y else s
theorem zJC (w : List zC) : ∀ (L : List (List Int)) (s : List Int), (∀ y ∈ L, y ≠ []) → L.foldl (rH w) s = bif s.isEmpty then (match L.filter (xZ w) with | [] => [] | x :: l => least ltR x l) else (match L.filter (xZ w) with | [] => s | x :: l => least ltR s (x :: l)) := by
 intro L
 induction L with
 | nil =>
  intro s _
  cases s <;> rfl
 | cons y r ih =>
  intro s h
  have hy := h y List.mem_cons_self
  have hye : y.isEmpty = false := by cases y with | nil => exact absurd rfl hy | cons => rfl
  have hr := fun s => ih s (fun z hz => h z (List.mem_cons_of_mem _ hz))
  rw [List.foldl_cons, hr, List.filter_cons]
  unfold rH
  cases hs : xZ w y with
  | false => simp
  | true =>
   rw [Bool.true_and]
   cases hse : s.isEmpty with
   | true =>
    rw [Bool.true_or, cond_true, hye, cond_false, cond_true]
    simp only [if_true]
    cases r.filter (xZ w) with
    | nil => rfl
    | cons z l => rfl
   | false =>
    rw [Bool.false_or, cond_false]
    simp only [if_true]
    by_cases c : rn 0 y < rn 0 s
    ·rw [decide_eq_true c, cond_true, hye, cond_false, least]
     unfold ltR
     rw [decide_eq_true c, cond_true]
     cases r.filter (xZ w) with
     | nil => rfl
     | cons z l => rfl
    ·rw [decide_eq_false c, cond_false, hse, cond_false, least]
     unfold ltR
     rw [decide_eq_false c, cond_false]
     cases r.filter (xZ w) with
     | nil => rfl
     | cons z l => rfl
theorem zQG (hn : 100 ≤ n) (w : List zC) (hw : w.length ≤ 50) (L : List (List Int)) (hL : L.length < n) (hL2 : L.length ≤ 100000) (hy : ∀ y ∈ L, y ≠ [] ∧ Way y ∧ y.length = w.length) : jK n w L n [] 0 = some (L.foldl (rH w) []) := by
 have key : ∀ (r : List (List Int)) (i k : Nat) (s : List Int), L.drop i = r → i ≤ L.length → L.length < k + i → (s = [] ∨ Way s ∧ s.length = w.length) → jK n w L k s (i : Int) = some (r.foldl (rH w) s) := by
  intro r
  induction r with
  | nil =>
   intro i k s hi h2 hk _
   have hil : L.length ≤ i := List.drop_eq_nil_iff.1 hi
   obtain ⟨k, rfl⟩ : ∃ k', k = k' + 1 := ⟨k - 1, by omega⟩
   rw [jK, decide_eq_false (by omega), cond_false]
   rfl
  | cons y r ih =>
   intro i k s hi h2 hk hs
   have hil : i < L.length := by
    rcases Nat.lt_or_ge i L.length with h | h
    ·exact h
    ·rw [List.drop_eq_nil_of_le h] at hi; cases hi
   obtain ⟨k, rfl⟩ : ∃ k', k = k' + 1 := ⟨k - 1, by omega⟩
   rw [List.drop_eq_getElem_cons hil] at hi
   obtain ⟨hx, hr⟩ := List.cons.inj hi
   obtain ⟨y1, y2, y3⟩ := hy y (by rw [← hx]; exact List.getElem_mem hil)
   have hye : y.isEmpty = false := by cases y with | nil => exact absurd rfl y1 | cons => rfl
   have hg : ix L (i : Int) = some y := by rw [xS (List.getElem?_eq_getElem hil), hx]
   have hnum := pR y2 (by omega)
   have i1 := fun s hs => ih (i + 1) k s hr (by omega) (by omega) hs
   push_cast at i1
   have yes : bT (jK n w L k) L s (i : Int) true = some (r.foldl (rH w) y) := by
    unfold bT ne
    rw [cond_true, hg, Option.bind_some, hye, cond_false, Option.bind_some, yE (by omega), i1 y (.inr ⟨y2, y3⟩)]
   have no : bT (jK n w L k) L s (i : Int) false = some (r.foldl (rH w) s) := by
    unfold bT
    rw [cond_false, yE (by omega), i1 s hs]
   rw [jK, decide_eq_true (by omega), cond_true, hg, Option.bind_some, zSJ hn w hw y (by omega) (by omega) hnum, Option.bind_some, List.foldl_cons]
   unfold rH
   cases hso : xZ w y with
   | false => rw [cond_false, Bool.false_and, cond_false]; exact no
   | true =>
    rw [cond_true, Bool.true_and]
    cases hse : s.isEmpty with
    | true => rw [cond_true, Bool.true_or, cond_true]; exact yes
    | false =>
     have hs2 : Way s ∧ s.length = w.length := by
      rcases hs with e | e
      ·rw [e] at hse; cases hse
      ·exact e
     rw [cond_false, Bool.false_or, Option.bind_some, zAC hn y (by omega) (fun x hx => by have := hnum x hx; omega), Option.bind_some, zAC hn s (by omega) (fun x hx => by have := pR hs2.1 (by omega) x hx; omega), Option.bind_some]
     cases decide (rn 0 y < rn 0 s) with
     | true => rw [cond_true]; exact yes
     | false => rw [cond_false]; exact no
 exact key L 0 n [] (by simp) (by omega) (by omega) (.inl rfl)
theorem zQH (hn : 100 ≤ n) (K : Int → List (List Int) → Option (List Int)) (L : List (List Int)) (j : Nat) {l : List Int} (hg : L[j]? = some l) (hway : Way l) (hl : l.length ≤ 6) (acc : List (List Int)) (ha : acc.length + 10 ≤ 100000) (hj : j < 100000) :
  bS n K L (j : Int) n 0 acc = K ((j : Int) + 1) (acc ++ aJ l) := by
 have hrn := hway.rn
 have key : ∀ (r x k : Nat) (acc : List (List Int)), (x : Int) + r = rn 0 l + 1 → r < k → acc.length + r ≤ 100000 → bS n K L (j : Int) k (x : Int) acc = K ((j : Int) + 1) (acc ++ (List.range' x r).map fun (y : Nat) => l ++ [(y : Int)]) := by
  intro r
  induction r with
  | zero =>
   intro x k acc hx hk hb
   obtain ⟨k, rfl⟩ : ∃ k', k = k' + 1 := ⟨k - 1, by omega⟩
   rw [bS, xS hg, Option.bind_some, zAC hn l (by omega) (fun x hx => by have := pR hway (by omega) x hx; omega), Option.bind_some, decide_eq_false (by omega), cond_false, yE (by omega)]
   simp
  | succ r ih =>
   intro x k acc hx hk hb
   obtain ⟨k, rfl⟩ : ∃ k', k = k' + 1 := ⟨k - 1, by omega⟩
   have := ih (x + 1) k (acc ++ [l ++ [(x : Int)]]) (by push_cast; omega) (by omega) (by simp; omega)
   push_cast at this
   rw [bS, xS hg, Option.bind_some, zAC hn l (by omega) (fun x hx => by have := pR hway (by omega) x hx; omega), Option.bind_some, decide_eq_true (by omega), cond_true, Option.bind_some, bA (by simp; omega), Option.bind_some, List.nil_append, bA (by simp; omega), Option.bind_some, bA (by simp; omega), Option.bind_some, yE (by omega), this, List.range'_succ, List.map_cons]
   simp
 have := key ((rn 0 l).toNat + 1) 0 n acc (by push_cast; omega) (by omega) (by omega)
 rw [show ((0 : Nat) : Int) = 0 from rfl, ← List.range_eq_range'] at this
 exact this
theorem zQI (hn : 100 ≤ n) (K1 : List (List Int) → Int → Option (List Int)) (L : List (List Int)) (i : Int) (hi : 0 ≤ i ∧ i ≤ 1000) (hL : L.length < n) (hL2 : L.length ≤ 10000) (hy : ∀ y ∈ L, Way y ∧ y.length ≤ 5) : fH n K1 L i n 0 [] = K1 (L.flatMap aJ) (i + 1) := by
 have key : ∀ (r : List (List Int)) (j k : Nat) (acc : List (List Int)), L.drop j = r → j ≤ L.length → L.length < k + j → acc.length ≤ 6 * j → fH n K1 L i k (j : Int) acc = K1 (acc ++ r.flatMap aJ) (i + 1) := by
  intro r
  induction r with
  | nil =>
   intro j k acc hj h2 hk _
   have hil : L.length ≤ j := List.drop_eq_nil_iff.1 hj
   obtain ⟨k, rfl⟩ : ∃ k', k = k' + 1 := ⟨k - 1, by omega⟩
   rw [fH, decide_eq_false (by omega), cond_false, yE (by omega)]
   simp
  | cons y r ih =>
   intro j k acc hj h2 hk ha
   have hil : j < L.length := by
    rcases Nat.lt_or_ge j L.length with h | h
    ·exact h
    ·rw [List.drop_eq_nil_of_le h] at hj; cases hj
   obtain ⟨k, rfl⟩ : ∃ k', k = k' + 1 := ⟨k - 1, by omega⟩
   rw [List.drop_eq_getElem_cons hil] at hj
   obtain ⟨hx, hr⟩ := List.cons.inj hj
   obtain ⟨y1, y2⟩ := hy y (by rw [← hx]; exact List.getElem_mem hil)
   have hg : L[j]? = some y := by rw [List.getElem?_eq_getElem hil, hx]
   have hsl := zCJ y1 y2
   have := ih (j + 1) k (acc ++ aJ y) hr (by omega) (by omega) (by rw [List.length_append]; omega)
   push_cast at this
   rw [fH, decide_eq_true (by omega), cond_true, zQH hn _ L j hg y1 (by omega) acc (by omega) (by omega), this, List.flatMap_cons, List.append_assoc]
 have := key L 0 n [] (by simp) (by omega) (by omega) (by simp)
 exact this
def lR : Nat → List (List Int) → List (List Int)
 | 0, L => L
 | k + 1, L => lR k (L.flatMap aJ)
theorem zFT : ∀ (k : Nat) (L : List (List Int)), lR k L = L.flatMap (gY k) := by
 intro k
 induction k with
 | zero =>
  intro L
  rw [lR]
  induction L with
  | nil => rfl
  | cons x r ih => rw [List.flatMap_cons, ← ih]; rfl
 | succ k ih =>
  intro L
  rw [lR, ih, List.flatMap_assoc]
  rfl
theorem zEJ : ((List.range 6).all fun m => decide ((lR m [[]]).length ≤ 60)) = true := by kernel_rfl
theorem yAN (hn : 100 ≤ n) (w : List zC) (hw : w.length < 6) (h0 : 0 < w.length) : zCU n w = some (cC w) := by
 unfold zCU
 have key : ∀ (r i k : Nat) (L : List (List Int)), i + r = w.length → r < k → L = lR i [[]] → fT n w k L (i : Int) = jK n w (lR w.length [[]]) n [] 0 := by
  intro r
  induction r with
  | zero =>
   intro i k L hi hk hL
   obtain ⟨k, rfl⟩ : ∃ k', k = k' + 1 := ⟨k - 1, by omega⟩
   rw [fT, decide_eq_false (by omega), cond_false, hL, show i = w.length by omega]
  | succ r ih =>
   intro i k L hi hk hL
   obtain ⟨k, rfl⟩ : ∃ k', k = k' + 1 := ⟨k - 1, by omega⟩
   have hfew := of_decide_eq_true (List.all_eq_true.1 zEJ i (List.mem_range.2 (by omega)))
   have hmem : ∀ y ∈ L, Way y ∧ y.length ≤ 5 := by
    intro y hy
    rw [hL, zFT, List.flatMap_cons, List.flatMap_nil, List.append_nil] at hy
    obtain ⟨a, b⟩ := tN i [] y Way.nil hy
    exact ⟨a, by simp at b; omega⟩
   have hnext : L.flatMap aJ = lR (i + 1) [[]] := by
    have : ∀ (k : Nat) (L : List (List Int)), (lR k L).flatMap aJ = lR (k + 1) L := by
     intro k
     induction k with
     | zero => intro L; rfl
     | succ k ih => intro L; rw [lR, ih]; rfl
    rw [hL]
    exact this i [[]]
   have := ih (i + 1) k (L.flatMap aJ) (by omega) (by omega) hnext
   push_cast at this
   rw [fT, decide_eq_true (by omega), cond_true, zQI hn _ L (i : Int) (by omega) (by rw [hL]; omega) (by rw [hL]; omega) hmem, this]
 have h1 := key w.length 0 n [[]] (by omega) (by omega) rfl
 rw [show ((0 : Nat) : Int) = 0 from rfl] at h1
 rw [h1]
 have hfew := of_decide_eq_true (List.all_eq_true.1 zEJ w.length (List.mem_range.2 hw))
 have hlev : lR w.length [[]] = gY w.length [] := by rw [zFT, List.flatMap_cons, List.flatMap_nil, List.append_nil]
 have hmem : ∀ y ∈ lR w.length [[]], y ≠ [] ∧ Way y ∧ y.length = w.length := by
  intro y hy
  rw [hlev] at hy
  obtain ⟨a, b⟩ := tN w.length [] y Way.nil hy
  have b : y.length = w.length := by simpa using b
  exact ⟨by intro e; rw [e] at b; simp at b; omega, a, b⟩
 rw [zQG hn w (by omega) _ (by omega) (by omega) hmem, zJC w _ [] (fun y hy => (hmem y hy).1), hlev]
 rfl
theorem zWL (hn : 100 ≤ n) (w : List zC) (hw : w.length ≤ 50) : vJ n w = some (gT w) := by
 unfold vJ gT
 have key : ∀ (r : List zC) (i k : Nat), w.drop i = r → i ≤ w.length → w.length < k + i → aP w k (i : Int) = some (r.all fun s => decide s.ne) := by
  intro r
  induction r with
  | nil =>
   intro i k hi h2 hk
   have hil : w.length ≤ i := List.drop_eq_nil_iff.1 hi
   obtain ⟨k, rfl⟩ : ∃ k', k = k' + 1 := ⟨k - 1, by omega⟩
   rw [aP, decide_eq_false (by omega), cond_false]
   rfl
  | cons s r ih =>
   intro i k hi h2 hk
   have hil : i < w.length := by
    rcases Nat.lt_or_ge i w.length with h | h
    ·exact h
    ·rw [List.drop_eq_nil_of_le h] at hi; cases hi
   obtain ⟨k, rfl⟩ : ∃ k', k = k' + 1 := ⟨k - 1, by omega⟩
   rw [List.drop_eq_getElem_cons hil] at hi
   obtain ⟨hx, hr⟩ := List.cons.inj hi
   have := ih (i + 1) k hr (by omega) (by omega)
   push_cast at this
   rw [aP, decide_eq_true (by omega), cond_true, xS (List.getElem?_eq_getElem hil), Option.bind_some, Option.bind_some, hx, yE (by omega), this, List.all_cons]
   by_cases c : s.high < s.low
   ·rw [decide_eq_true c, decide_eq_false (show ¬ s.ne by unfold zC.ne; omega)]; rfl
   ·rw [decide_eq_false c, decide_eq_true (show s.ne by unfold zC.ne; omega)]; rfl
 exact key w 0 n (by simp) (by omega) (by omega)
theorem zJL : gT (wsR d) = gT (wsP d) := by
 unfold gT wsR wsP
 rw [List.all_map, List.all_map]
 congr 1
 funext b
 exact decide_eq_decide.2 zIN
theorem zPS (h : gT (wsP d) = true) : wsR d = wsP d := by
 unfold wsR wsP at *
 refine List.map_congr_left (fun b hb => uQ ?_)
 unfold gT at h
 exact of_decide_eq_true (List.all_eq_true.1 h _ (List.mem_map_of_mem hb))
end
end
section
open Go Go.RowKit
def prB (w : List zC) (a b : Int) : Bool := decide (cap (w.getD a.toNat default) (w.getD b.toNat default)).ne
def apG (w : List zC) : List Int → List Int → Bool
 | _, [] => true
 | pre, a :: r => pre.all (fun b => !prB w a b) && apG w (pre ++ [a]) r
theorem sI {set : Int} : ∀ (w : List zC) (k : Nat) (s : zC), s ∈ bX set k w ↔ ∃ i, w[i]? = some s ∧ jZ set (k + i) = true := by
 intro w
 induction w with
 | nil =>
  intro k s
  constructor
  ·intro h; cases h
  ·rintro ⟨i, h, _⟩; simp at h
 | cons t r ih =>
  intro k s
  have h1 := ih (k + 1) s
  rw [bX]
  constructor
  ·intro h
   by_cases hb : jZ set k = true
   ·rw [if_pos hb] at h
    rcases List.mem_cons.1 h with rfl | h
    ·exact ⟨0, rfl, hb⟩
    ·obtain ⟨i, a, b⟩ := h1.1 h
     exact ⟨i + 1, a, by rw [show k + (i + 1) = k + 1 + i by omega]; exact b⟩
   ·rw [if_neg hb] at h
    obtain ⟨i, a, b⟩ := h1.1 h
    exact ⟨i + 1, a, by rw [show k + (i + 1) = k + 1 + i by omega]; exact b⟩
  ·rintro ⟨i, a, b⟩
   cases i with
   | zero =>
    have a : t = s := by simpa using a
    rw [if_pos (by simpa using b), a]
    exact List.mem_cons_self
   | succ i =>
    have := h1.2 ⟨i, by simpa using a, by rw [show k + 1 + i = k + (i + 1) by omega]; exact b⟩
    by_cases hb : jZ set k = true
    ·rw [if_pos hb]; exact List.mem_cons_of_mem _ this
    ·rw [if_neg hb]; exact this
theorem ixd {w : List zC} {a : Int} (h0 : 0 ≤ a) (h1 : a < w.length) : ix w a = some (w.getD a.toNat default) := by
 obtain ⟨i, rfl⟩ := Int.eq_ofNat_of_zero_le h0
 have hi : i < w.length := by omega
 have e : ((i : Nat) : Int).toNat = i := by omega
 rw [xS (List.getElem?_eq_getElem hi), e, List.getD_eq_getElem?_getD, List.getElem?_eq_getElem hi]
 rfl
theorem zCE : ∀ a : Nat, a < 6 → ∀ b : Nat, b < 6 → 0 ≤ bits .or .i64 ((2 : Int) ^ a) (2 ^ b) ∧ bits .or .i64 ((2 : Int) ^ a) (2 ^ b) ≤ 63 ∧ ∀ i : Nat, i < 6 → jZ (bits .or .i64 ((2 : Int) ^ a) (2 ^ b)) i = (decide (i = a) || decide (i = b)) := by decide
theorem zLT {w : List zC} (hw : w.length < 6) (hin : InH w) {a b : Nat} (ha : a < w.length) (hb : b < w.length) : (com w (bits .or .i64 ((2 : Int) ^ a) (2 ^ b))).ne ↔ (cap w[a] w[b]).ne := by
 obtain ⟨_, _, h3⟩ := zCE a (by omega) b (by omega)
 have i1 := hin _ (List.getElem_mem ha)
 have i2 := hin _ (List.getElem_mem hb)
 constructor
 ·intro h
  obtain ⟨⟨_, _⟩, h2⟩ := oO.1 (zDQ h).1
  have e1 := h2 w[a] ((sI w 0 _).2 ⟨a, List.getElem?_eq_getElem ha, by rw [Nat.zero_add, h3 a (by omega)]; simp⟩)
  have e2 := h2 w[b] ((sI w 0 _).2 ⟨b, List.getElem?_eq_getElem hb, by rw [Nat.zero_add, h3 b (by omega)]; simp⟩)
  simp only [zC.mem, zC.ne, cap] at *
  omega
 ·intro h
  have hm : (com w (bits .or .i64 ((2 : Int) ^ a) (2 ^ b))).mem (cap w[a] w[b]).low := by
   refine oO.2 ⟨?_, fun s hs => ?_⟩
   ·simp only [zC.mem, zC.ne, cap] at *
    omega
   ·obtain ⟨i, hi, hh⟩ := (sI w 0 s).1 hs
    have hil := (List.getElem?_eq_some_iff.1 hi).1
    rw [Nat.zero_add, h3 i (by omega)] at hh
    rw [Bool.or_eq_true, decide_eq_true_eq, decide_eq_true_eq] at hh
    rcases hh with rfl | rfl
    ·rw [List.getElem?_eq_getElem ha] at hi
     cases hi
     simp only [zC.mem, zC.ne, cap] at *
     omega
    ·rw [List.getElem?_eq_getElem hb] at hi
     cases hi
     simp only [zC.mem, zC.ne, cap] at *
     omega
  exact zIX hm
def ltA (a b : List Int) : Bool := decide (b.length < a.length) || (decide (a.length = b.length) && decide (aA a b = -1))
theorem zQS (a : List Int) : ltA a a = false := by
 unfold ltA
 rw [zJB]
 simp
theorem zQR (a b : List Int) (h : a ≠ b) : ltA a b = true ∨ ltA b a = true := by
 unfold ltA
 simp only [Bool.or_eq_true, Bool.and_eq_true, decide_eq_true_eq]
 rcases Nat.lt_trichotomy a.length b.length with h1 | h1 | h1
 ·exact .inr (.inl h1)
 ·rcases vX a b with h2 | h2 | h2
  ·exact .inl (.inr ⟨h1, h2.1⟩)
  ·exact .inr (.inr ⟨h1.symm, h2.2⟩)
  ·exact absurd h2.1 h
 ·exact .inl (.inl h1)
theorem zIY (a b c : List Int) (h : ltA a b = true) (h' : ltA b c = true) : ltA a c = true := by
 unfold ltA at *
 simp only [Bool.or_eq_true, Bool.and_eq_true, decide_eq_true_eq] at *
 rcases h with h | ⟨h, h2⟩
 ·rcases h' with h' | ⟨h', _⟩
  ·exact .inl (by omega)
  ·exact .inl (by omega)
 ·rcases h' with h' | ⟨h', h3⟩
  ·exact .inl (by omega)
  ·exact .inr ⟨by omega, zHM a b c h2 h3⟩
def fE (m : Nat) : List (List Int) := (List.range (m + 1)).flatMap fun k => fU m (m - k)
theorem zFK : ((List.range 6).all fun m => iZ ltA (fE m)) = true := by kernel_rfl
theorem zJN : ((List.range 6).all fun m => (fE m).all (fun l => (fD m).contains l) && (fD m).all (fun l => (fE m).contains l)) = true := by kernel_rfl
theorem uJ {m : Nat} (hm : m < 6) (z : List Int) : z ∈ fD m ↔ z ∈ fE m := by
 have h := List.all_eq_true.1 zJN m (List.mem_range.2 hm)
 rw [Bool.and_eq_true, List.all_eq_true, List.all_eq_true] at h
 constructor
 ·intro hz
  have := h.2 z hz
  simpa using this
 ·intro hz
  have := h.1 z hz
  simpa using this
theorem zEU {m : Nat} (hm : m < 6) (p : List Int → Bool) {x y : List Int} {l r : List (List Int)} (h1 : (fD m).filter p = x :: l) (h2 : (fE m).filter p = y :: r) : least ltA x l = y := by
 refine zHN ltA zIY zQS zQR (fun z => ?_) ?_ (r := r)
 ·have e1 : (z = x ∨ z ∈ l) ↔ z ∈ (fD m).filter p := by rw [h1]; simp
  have e2 : (z = y ∨ z ∈ r) ↔ z ∈ (fE m).filter p := by rw [h2]; simp
  rw [e1, e2, List.mem_filter, List.mem_filter, uJ hm]
 ·have h := zBI ltA p _ (List.all_eq_true.1 zFK m (List.mem_range.2 hm))
  rw [h2, iZ, Bool.and_eq_true, List.all_eq_true] at h
  exact h.1
def cF (w : List zC) : List Int := ((fE w.length).filter (apG w [])).headD []
theorem zHL : ((List.range 6).all fun m => (bB m).all fun l => l.all fun x => decide (0 ≤ x) && decide (x < (m : Int))) = true := by kernel_rfl
theorem zAU : ((List.range 6).all fun m => (fE m).contains []) = true := by kernel_rfl
theorem zHJ : ((List.range 6).all fun m => decide (fU m 0 = [[]])) = true := by kernel_rfl
theorem zSP {m : Nat} (hm : m < 6) {l : List Int} (h : l ∈ bB m) : ∀ x ∈ l, 0 ≤ x ∧ x < m := by
 intro x hx
 have := List.all_eq_true.1 (List.all_eq_true.1 (List.all_eq_true.1 zHL m (List.mem_range.2 hm)) l h) x hx
 rw [Bool.and_eq_true, decide_eq_true_eq, decide_eq_true_eq] at this
 exact this
section
variable {n : Nat} {d : zN}
theorem zWJ (hn : 100 ≤ n) (w : List zC) (hw : w.length < 6) (l : List Int) (hl : l.length ≤ 50) (h0 : ∀ x ∈ l, 0 ≤ x ∧ x < w.length) : vI n w l = some (apG w [] l) := by
 unfold vI
 have inner : ∀ (K : Int → Option Bool) (i : Nat) (hi : i < l.length) (r : List Int) (j k : Nat), (l.take i).drop j = r → j ≤ i → i < k + j → aO n K w l (i : Int) k (j : Int) = bif r.all (fun b => !prB w l[i] b) then K ((i : Int) + 1) else some false := by
  intro K i hi r
  induction r with
  | nil =>
   intro j k hj h2 hk
   have hil : (l.take i).length ≤ j := List.drop_eq_nil_iff.1 hj
   rw [List.length_take] at hil
   obtain ⟨k, rfl⟩ : ∃ k', k = k' + 1 := ⟨k - 1, by omega⟩
   rw [aO, decide_eq_false (by omega), cond_false, yE (by omega)]
   rfl
  | cons b r ih =>
   intro j k hj h2 hk
   have hjl : j < (l.take i).length := by
    rcases Nat.lt_or_ge j (l.take i).length with h | h
    ·exact h
    ·rw [List.drop_eq_nil_of_le h] at hj; cases hj
   have hji : j < i := by rw [List.length_take] at hjl; omega
   obtain ⟨k, rfl⟩ : ∃ k', k = k' + 1 := ⟨k - 1, by omega⟩
   rw [List.drop_eq_getElem_cons hjl] at hj
   obtain ⟨hx, hr⟩ := List.cons.inj hj
   rw [List.getElem_take] at hx
   obtain ⟨a1, a2⟩ := h0 _ (List.getElem_mem hi)
   obtain ⟨b1, b2⟩ := h0 l[j] (List.getElem_mem (show j < l.length by omega))
   have ga : ix w l[i] = some (w.getD l[i].toNat default) := by
    exact ixd (by omega) (by omega)
   have gb : ix w l[j] = some (w.getD l[j].toNat default) := by
    exact ixd (by omega) (by omega)
   have := ih (j + 1) k hr (by omega) (by omega)
   push_cast at this
   rw [aO, decide_eq_true (by omega), cond_true, xS (List.getElem?_eq_getElem hi), Option.bind_some, ga, Option.bind_some, xS (List.getElem?_eq_getElem (show j < l.length by omega)), Option.bind_some, gb, Option.bind_some, yE (by omega), this, List.all_cons, ← hx]
   show (bif decide (cap (w.getD l[i].toNat default) (w.getD l[j].toNat default)).ne then some false else _) = _
   unfold prB
   cases decide (cap (w.getD l[i].toNat default) (w.getD l[j].toNat default)).ne <;> rfl
 have key : ∀ (r : List Int) (i k : Nat), l.drop i = r → i ≤ l.length → l.length < k + i → fJ n w l k (i : Int) = some (apG w (l.take i) r) := by
  intro r
  induction r with
  | nil =>
   intro i k hi h2 hk
   have hil : l.length ≤ i := List.drop_eq_nil_iff.1 hi
   obtain ⟨k, rfl⟩ : ∃ k', k = k' + 1 := ⟨k - 1, by omega⟩
   rw [fJ, decide_eq_false (by omega), cond_false]
   rfl
  | cons x r ih =>
   intro i k hi h2 hk
   have hil : i < l.length := by
    rcases Nat.lt_or_ge i l.length with h | h
    ·exact h
    ·rw [List.drop_eq_nil_of_le h] at hi; cases hi
   obtain ⟨k, rfl⟩ : ∃ k', k = k' + 1 := ⟨k - 1, by omega⟩
   rw [List.drop_eq_getElem_cons hil] at hi
   obtain ⟨hx, hr⟩ := List.cons.inj hi
   have h1 := inner (fJ n w l k) i hil (l.take i) 0 n rfl (by omega) (by omega)
   have h2 := ih (i + 1) k hr (by omega) (by omega)
   push_cast at h2
   rw [show ((0 : Nat) : Int) = 0 from rfl] at h1
   have htake : l.take (i + 1) = l.take i ++ [x] := by
    rw [List.take_add_one, List.getElem?_eq_getElem hil, hx]; rfl
   rw [fJ, decide_eq_true (by omega), cond_true, h1, h2, htake, hx, apG]
   cases (l.take i).all (fun b => !prB w x b) <;> rfl
 have := key l 0 n (by simp) (by omega) (by omega)
 rw [List.take_zero] at this
 exact this
theorem yAM (w : List zC) (hw : w.length < 6) : zCT 1000 w = some (cF w) := by
 unfold zCT
 generalize hnn : 1000 = n
 have hn : 100 ≤ n := by omega
 have hp135 : ∀ k, k ≤ w.length → eJ n 0 (w.length : Int) (k : Int) = some (fU w.length k) := fun k hk => by rw [← hnn]; exact zWK hw hk
 have inner : ∀ (K : Int → Option (List Int)) (c : Int) (hc : 0 < c ∧ c ≤ 50) (ls : List (List Int)), ls.length ≤ 50 → (∀ y ∈ ls, y ∈ bB w.length) → cK n K w c ls n 0 = match ls.filter (apG w []) with | y :: _ => some y | [] => K (c - 1) := by
  intro K c hc ls h1 h2
  have key : ∀ (r : List (List Int)) (i k : Nat), ls.drop i = r → i ≤ ls.length → ls.length < k + i → cK n K w c ls k (i : Int) = match r.filter (apG w []) with | y :: _ => some y | [] => K (c - 1) := by
   intro r
   induction r with
   | nil =>
    intro i k hi h2 hk
    have hil : ls.length ≤ i := List.drop_eq_nil_iff.1 hi
    obtain ⟨k, rfl⟩ : ∃ k', k = k' + 1 := ⟨k - 1, by omega⟩
    rw [cK, decide_eq_false (by omega), cond_false, yE (by omega)]
    rfl
   | cons x r ih =>
    intro i k hi hi2 hk
    have hil : i < ls.length := by
     rcases Nat.lt_or_ge i ls.length with h | h
     ·exact h
     ·rw [List.drop_eq_nil_of_le h] at hi; cases hi
    obtain ⟨k, rfl⟩ : ∃ k', k = k' + 1 := ⟨k - 1, by omega⟩
    rw [List.drop_eq_getElem_cons hil] at hi
    obtain ⟨hx, hr⟩ := List.cons.inj hi
    have hm := h2 x (by rw [← hx]; exact List.getElem_mem hil)
    have hlen : x.length ≤ 50 := by
     unfold bB at hm
     obtain ⟨k2, hk2, hm⟩ := List.mem_flatMap.1 hm
     exact (vW hw (by have := List.mem_range.1 hk2; omega)).2 x hm
    have := ih (i + 1) k hr (by omega) (by omega)
    push_cast at this
    rw [cK, decide_eq_true (by omega), cond_true, xS (List.getElem?_eq_getElem hil), Option.bind_some, hx, zWJ hn w hw x hlen (zSP hw hm), Option.bind_some, Option.bind_some, yE (by omega), this, List.filter_cons]
    cases apG w [] x <;> rfl
  have := key ls 0 n (by simp) (by omega) (by omega)
  exact this
 have key : ∀ (r k f : Nat), k + r = w.length → r < f → bZ n w f (r : Int) = some ((((List.range' k (r + 1)).flatMap fun k => fU w.length (w.length - k)).filter (apG w [])).headD []) := by
  intro r
  induction r with
  | zero =>
   intro k f hk hf
   obtain ⟨f, rfl⟩ : ∃ f', f = f' + 1 := ⟨f - 1, by omega⟩
   have e0 : fU w.length 0 = [[]] := of_decide_eq_true (List.all_eq_true.1 zHJ w.length (List.mem_range.2 hw))
   rw [bZ, decide_eq_false (by omega), cond_false, List.range'_succ, List.range'_zero, List.flatMap_cons, List.flatMap_nil, List.append_nil, show w.length - k = 0 by omega, e0]
   rfl
  | succ r ih =>
   intro k f hk hf
   obtain ⟨f, rfl⟩ : ∃ f', f = f' + 1 := ⟨f - 1, by omega⟩
   obtain ⟨b1, b2⟩ := vW hw (show r + 1 ≤ w.length by omega)
   have := ih (k + 1) f (by omega) (by omega)
   rw [bZ, decide_eq_true (by omega), cond_true, hp135 (r + 1) (by omega), Option.bind_some, inner _ _ (by omega) _ b1 (fun y hy => List.mem_flatMap.2 ⟨r + 1, List.mem_range.2 (by omega), hy⟩), List.range'_succ, List.flatMap_cons, List.filter_append, show w.length - k = r + 1 by omega, show (((r + 1 : Nat) : Int) - 1) = (r : Int) by omega, this]
   cases (fU w.length (r + 1)).filter (apG w []) with
   | nil => rfl
   | cons y s => rfl
 have := key w.length 0 n (by omega) (by omega)
 rw [← List.range_eq_range'] at this
 exact this
theorem zWN (hn : 100 ≤ n) (a b : List Int) (hl : a.length ≤ 50) : qV n a b = some (ltA a b) := by
 unfold qV ltA
 rw [zWM hn a b hl, Option.bind_some]
 have e : decide (aA a b < 0) = decide (aA a b = -1) := by
  rw [decide_eq_decide]
  rcases vX a b with h | h | h <;> omega
 rw [e]
 by_cases h1 : b.length < a.length
 ·rw [decide_eq_true h1, decide_eq_true (show ((b.length : Nat) : Int) < ((a.length : Nat) : Int) by omega)]; rfl
 ·rw [decide_eq_false h1, decide_eq_false (show ¬ ((b.length : Nat) : Int) < ((a.length : Nat) : Int) by omega)]
  by_cases h2 : a.length = b.length
  ·rw [decide_eq_true h2, decide_eq_true (show ((a.length : Nat) : Int) = ((b.length : Nat) : Int) by omega)]; rfl
  ·rw [decide_eq_false h2, decide_eq_false (show ¬ ((a.length : Nat) : Int) = ((b.length : Nat) : Int) by omega)]; rfl
theorem zQK (hn : 100 ≤ n) (w : List zC) (hw : w.length < 6) (hin : InH w) (K1 : Int → List (List Int) → Option (List Int × Int)) (K14 : Int → Option (List Int × Int)) (c : Int) (acc : List (List Int)) (i a : Int) (ha : 0 ≤ a ∧ a < w.length)
  (hc : 0 ≤ c ∧ c ≤ 1000) (hi : 0 ≤ i ∧ i ≤ 1000) (pre : List Int) (hp : pre.length ≤ 50) (h0 : ∀ x ∈ pre, 0 ≤ x ∧ x < w.length) : bU n K1 K14 ⟨w⟩ c acc i a pre n 0 = bif pre.all (fun b => !prB w a b) then K14 (i + 1) else K1 (c + 1) acc := by
 have key : ∀ (r : List Int) (j k : Nat), pre.drop j = r → j ≤ pre.length → pre.length < k + j → bU n K1 K14 ⟨w⟩ c acc i a pre k (j : Int) = bif r.all (fun b => !prB w a b) then K14 (i + 1) else K1 (c + 1) acc := by
  intro r
  induction r with
  | nil =>
   intro j k hj h2 hk
   have hil : pre.length ≤ j := List.drop_eq_nil_iff.1 hj
   obtain ⟨k, rfl⟩ : ∃ k', k = k' + 1 := ⟨k - 1, by omega⟩
   rw [bU, decide_eq_false (by omega), cond_false, yE (by omega)]
   rfl
  | cons b r ih =>
   intro j k hj h2 hk
   have hjl : j < pre.length := by
    rcases Nat.lt_or_ge j pre.length with h | h
    ·exact h
    ·rw [List.drop_eq_nil_of_le h] at hj; cases hj
   obtain ⟨k, rfl⟩ : ∃ k', k = k' + 1 := ⟨k - 1, by omega⟩
   rw [List.drop_eq_getElem_cons hjl] at hj
   obtain ⟨hx, hr⟩ := List.cons.inj hj
   have hb := h0 b (by rw [← hx]; exact List.getElem_mem hjl)
   obtain ⟨x, rfl⟩ := Int.eq_ofNat_of_zero_le ha.1
   obtain ⟨y, rfl⟩ := Int.eq_ofNat_of_zero_le hb.1
   have hxw : x < w.length := by omega
   have hyw : y < w.length := by omega
   obtain ⟨t1, t2, _⟩ := zCE x (by omega) y (by omega)
   have := ih (j + 1) k hr (by omega) (by omega)
   push_cast at this
   have ep : decide (com w (bits .or .i64 ((2 : Int) ^ x) (2 ^ y))).ne = prB w (x : Int) (y : Int) := by
    unfold prB
    have e1 : ((x : Nat) : Int).toNat = x := by omega
    have e2 : ((y : Nat) : Int).toNat = y := by omega
    rw [decide_eq_decide, zLT hw hin hxw hyw, e1, e2, List.getD_eq_getElem?_getD, List.getD_eq_getElem?_getD, List.getElem?_eq_getElem hxw, List.getElem?_eq_getElem hyw]
    exact Iff.rfl
   rw [bU, decide_eq_true (by omega), cond_true, xS (List.getElem?_eq_getElem hjl), Option.bind_some, hx, sW (by omega), Option.bind_some, sW (by omega), Option.bind_some, zLU hn w (by omega) t1 t2, Option.bind_some, ep, yE (by omega), yE (by omega), this, List.all_cons]
   cases prB w (x : Int) (y : Int) <;> rfl
 exact key pre 0 n (by simp) (by omega) (by omega)
theorem zQL (hn : 100 ≤ n) (w : List zC) (hw : w.length < 6) (hin : InH w) (K1 : Int → List (List Int) → Option (List Int × Int)) (c : Int) (hc : 0 ≤ c ∧ c ≤ 1000) (acc : List (List Int)) (hacc : acc.length ≤ 1000) (l : List Int) (hl : l.length ≤ 50) (h0 : ∀ x ∈ l, 0 ≤ x ∧ x < w.length) :
  fI n K1 ⟨w⟩ c acc l n 0 = bif apG w [] l then K1 (c + 1) (acc ++ [l]) else K1 (c + 1) acc := by
 have key : ∀ (r : List Int) (i k : Nat), l.drop i = r → i ≤ l.length → l.length < k + i → fI n K1 ⟨w⟩ c acc l k (i : Int) = bif apG w (l.take i) r then K1 (c + 1) (acc ++ [l]) else K1 (c + 1) acc := by
  intro r
  induction r with
  | nil =>
   intro i k hi h2 hk
   have hil : l.length ≤ i := List.drop_eq_nil_iff.1 hi
   obtain ⟨k, rfl⟩ : ∃ k', k = k' + 1 := ⟨k - 1, by omega⟩
   rw [fI, decide_eq_false (by omega), cond_false, bA (by simp; omega), Option.bind_some, yE (by omega)]
   rfl
  | cons x r ih =>
   intro i k hi h2 hk
   have hil : i < l.length := by
    rcases Nat.lt_or_ge i l.length with h | h
    ·exact h
    ·rw [List.drop_eq_nil_of_le h] at hi; cases hi
   obtain ⟨k, rfl⟩ : ∃ k', k = k' + 1 := ⟨k - 1, by omega⟩
   rw [List.drop_eq_getElem_cons hil] at hi
   obtain ⟨hx, hr⟩ := List.cons.inj hi
   have hsub : qM l 0 (i : Int) = some (l.take i) := by
    unfold qM
    rw [decide_eq_true (by omega), decide_eq_true (by omega), decide_eq_true (by omega)]
    simp
   have h2 := ih (i + 1) k hr (by omega) (by omega)
   push_cast at h2
   have htake : l.take (i + 1) = l.take i ++ [x] := by
    rw [List.take_add_one, List.getElem?_eq_getElem hil, hx]; rfl
   rw [fI, decide_eq_true (by omega), cond_true, xS (List.getElem?_eq_getElem hil), Option.bind_some, hx, hsub, Option.bind_some, zQK hn w hw hin _ _ c acc (i : Int) x (h0 x (by rw [← hx]; exact List.getElem_mem hil)) hc (by omega) (l.take i) (by rw [List.length_take]; omega) (fun y hy => h0 y (List.mem_of_mem_take hy)), h2, htake, apG]
   cases (l.take i).all (fun b => !prB w x b) <;> rfl
 have := key l 0 n (by simp) (by omega) (by omega)
 rw [List.take_zero] at this
 exact this
theorem zQJ (w : List zC) (hw : w.length < 6) (hin : InH w) : gJ 1000 ⟨w⟩ (2 ^ w.length - 1) 1000 0 [] = some (cF w, 0) := by
 have hn : 100 ≤ 1000 := by omega
 have hpw : (2 : Int) ^ w.length = ((2 ^ w.length : Nat) : Int) := by push_cast; rfl
 have hp64 : 2 ^ w.length ≤ 64 := by
  have := Nat.pow_le_pow_right (show 0 < 2 by omega) (show w.length ≤ 6 by omega)
  simpa using this
 have hfin : (mV 1000 ((fD w.length).filter (apG w [])) (fun z0 z1 => qV 1000 z0 z1)).bind (fun v => some (v.1, (0 : Int))) = some (cF w, 0) := by
  have hnil : [] ∈ (fE w.length).filter (apG w []) := List.mem_filter.2 ⟨by simpa using List.all_eq_true.1 zAU w.length (List.mem_range.2 hw), rfl⟩
  cases h2 : (fE w.length).filter (apG w []) with
  | nil => rw [h2] at hnil; cases hnil
  | cons y r =>
   cases h1 : (fD w.length).filter (apG w []) with
   | nil =>
    rw [List.mem_filter, ← uJ hw, ← List.mem_filter, h1] at hnil
    cases hnil
   | cons x l =>
    have hlen : l.length ≤ 100 := by
     have e1 := List.length_filter_le (apG w []) (fD w.length)
     rw [h1] at e1
     simp only [List.length_cons, fD, List.length_map, List.length_range] at e1
     omega
    have hall : ∀ z, (z = x ∨ z ∈ l) → z.length ≤ 50 := by
     intro z hz
     have hz : z ∈ (fD w.length).filter (apG w []) := by rw [h1]; simpa using hz
     have hz := (List.mem_filter.1 hz).1
     unfold fD at hz
     obtain ⟨s, hs, rfl⟩ := List.mem_map.1 hz
     exact (zCL hw (List.mem_range.1 hs)).2.1
    rw [zNR hn ltA _ x l (by omega) (by omega) (fun y z hy hz => zWN hn y z (hall y hy)), Option.bind_some, zEU hw (apG w []) h1 h2]
    unfold cF
    rw [h2]
    rfl
 have key : ∀ (r k f : Nat) (acc : List (List Int)), k + r = 2 ^ w.length → r < f → acc.length ≤ k → gJ 1000 ⟨w⟩ (2 ^ w.length - 1) f (k : Int) acc = (mV 1000 (acc ++ ((List.range' k r).map oN).filter (apG w [])) (fun z0 z1 => qV 1000 z0 z1)).bind (fun v => some (v.1, (0 : Int))) := by
  intro r
  induction r with
  | zero =>
   intro k f acc hk hf ha
   obtain ⟨f, rfl⟩ : ∃ f', f = f' + 1 := ⟨f - 1, by omega⟩
   rw [gJ, yE (by omega), decide_eq_false (by rw [hpw]; omega), cond_false]
   simp
  | succ r ih =>
   intro k f acc hk hf ha
   obtain ⟨f, rfl⟩ : ∃ f', f = f' + 1 := ⟨f - 1, by omega⟩
   have hks : k < 2 ^ w.length := by omega
   obtain ⟨b1, b2, _, _⟩ := zCL hw hks
   have hm : oN k ∈ bB w.length := (zAV hw _).1 (List.mem_map.2 ⟨k, List.mem_range.2 hks, rfl⟩)
   have i1 := ih (k + 1) f acc (by omega) (by omega) (by omega)
   have i2 := ih (k + 1) f (acc ++ [oN k]) (by omega) (by omega) (by simp; omega)
   push_cast at i1 i2
   rw [gJ, yE (by omega), decide_eq_true (by rw [hpw]; omega), cond_true, b1, Option.bind_some, zQL hn w hw hin _ (k : Int) (by omega) acc (by omega) (oN k) b2 (zSP hw hm), i1, i2, List.range'_succ, List.map_cons, List.filter_cons]
   cases apG w [] (oN k) with
   | false => rfl
   | true => simp
 have := key (2 ^ w.length) 0 1000 [] (by omega) (by omega) (by simp)
 rw [← List.range_eq_range', List.nil_append] at this
 exact this.trans hfin
theorem yAQ (hs : eQ d) : wX 1000 d = some (bif decide (err d true = 0) then (bif gT (wsP d) then (cF (wsP d), 0) else ([], 5)) else ([], err d true)) := by
 have hn : 100 ≤ 1000 := by omega
 unfold wX
 rw [zLX hn hs, Option.bind_some]
 by_cases he : err d true = 0
 ·obtain ⟨h1, _, hne⟩ := lS he
  have hd := iJ.1 h1
  have hbt := hd.btl
  have hl : (wsP d).length < 6 := by rw [nF]; omega
  have hin := zCC hd
  simp only [he, decide_true, Bool.not_true, cond_true, cond_false]
  rw [zLV hd hn hne, Option.bind_some, zNT hn _ hl hin, Option.bind_some, zWU 1000 _ (by omega), Option.bind_some, zQJ _ hl hin]
  cases gT (wsP d) <;> rfl
 ·simp only [decide_eq_false he, Bool.not_false, cond_true, cond_false]
end
end
section
open Go Go.RowKit
def zBS {α : Type} (v : Int) : List Int → List α → List α
 | x :: l, s :: w => bif decide (x = v) then s :: zBS v l w else zBS v l w
 | _, _ => []
theorem zDG {α : Type} (f : α → zC) (v : Int) : ∀ (l : List Int) (w : List α), jO v l (w.map f) = (zBS v l w).map f := by
 intro l
 induction l with
 | nil => intro w; cases w <;> rfl
 | cons x r ih =>
  intro w
  cases w with
  | nil => rfl
  | cons s w =>
   rw [List.map_cons, jO, zBS, ih w]
   cases decide (x = v) <;> rfl
def lP (d : zN) (l : List Int) : Bool := l.all (fun x => inb x 0 ((d.batches.length : Int) - 1)) && decide (l.length = d.batches.length)
section
variable {n : Nat} {d : zN}
theorem zGM (l : List Int) (h0 : ∀ x ∈ l, 0 ≤ x) : xZ (wsR d) l = xZ (wsP d) l := by
 rw [sE _ l h0, sE _ l h0]
 congr 2
 funext x
 rw [decide_eq_decide]
 unfold wsR wsP eT
 rw [zDG, zDG]
 exact zHG
theorem yAP (hn : 1 ≤ n) (d : zN) (l : List Int) (hl : l.length ≤ 9223372036854775807) (hd : d.batches.length ≤ 50) : zCW n d l = some (lP d l) := by
 unfold zCW lP
 have key : ∀ (r : List Int) (i k : Nat), l.drop i = r → i ≤ l.length → l.length < k + i → eB n d l k (i : Int) = some (r.all (fun x => inb x 0 ((d.batches.length : Int) - 1)) && decide (l.length = d.batches.length)) := by
  intro r
  induction r with
  | nil =>
   intro i k hi h2 hk
   have hil : l.length ≤ i := List.drop_eq_nil_iff.1 hi
   obtain ⟨k, rfl⟩ : ∃ k', k = k' + 1 := ⟨k - 1, by omega⟩
   have e : decide (((l.length : Nat) : Int) = ((d.batches.length : Nat) : Int)) = decide (l.length = d.batches.length) := by rw [decide_eq_decide]; omega
   rw [eB, decide_eq_false (by omega), cond_false, e]
   rfl
  | cons x r ih =>
   intro i k hi h2 hk
   have hil : i < l.length := by
    rcases Nat.lt_or_ge i l.length with h | h
    ·exact h
    ·rw [List.drop_eq_nil_of_le h] at hi; cases hi
   obtain ⟨k, rfl⟩ : ∃ k', k = k' + 1 := ⟨k - 1, by omega⟩
   rw [List.drop_eq_getElem_cons hil] at hi
   obtain ⟨hx, hr⟩ := List.cons.inj hi
   have := ih (i + 1) k hr (by omega) (by omega)
   push_cast at this
   rw [eB, decide_eq_true (by omega), cond_true, xS (List.getElem?_eq_getElem hil), Option.bind_some, hx, vS, yE (show -9223372036854775808 ≤ ((d.batches.length : Nat) : Int) - 1 ∧ ((d.batches.length : Nat) : Int) - 1 ≤ 9223372036854775807 by omega), Option.bind_some, yE (by omega), this, List.all_cons]
   cases inb x 0 ((d.batches.length : Int) - 1) <;> rfl
 have := key l 0 (n + l.length) (by simp) (by omega) (by omega)
 exact this
theorem zDP {l : List Int} (h : lP d l = true) : (∀ x ∈ l, 0 ≤ x ∧ x < d.batches.length) ∧ l.length = d.batches.length := by
 unfold lP at h
 rw [Bool.and_eq_true, List.all_eq_true, decide_eq_true_eq] at h
 refine ⟨fun x hx => ?_, h.2⟩
 have := h.1 x hx
 unfold inb at this
 simp only [Bool.and_eq_true, decide_eq_true_eq] at this
 omega
theorem yAS (hn : 100 ≤ n) (hs : eQ d) (l : List Int) (hl : l.length ≤ 50) : zCX n d l = some (bif decide (err d (lP d l) = 0) then (xZ (wsP d) l, 0) else (false, err d (lP d l))) := by
 have hbs := hs.e
 have hj : ∀ fine : Bool, fine = lP d l → (cT n d fine).bind (fun v => lC n d l v.1 v.2) = some (bif decide (err d (lP d l) = 0) then (xZ (wsP d) l, 0) else (false, err d (lP d l))) := by
  intro fine hf
  subst hf
  rw [zLX hn hs, Option.bind_some]
  unfold lC
  by_cases he : err d (lP d l) = 0
  ·obtain ⟨h1, h2, hne⟩ := lS he
   have hd := iJ.1 h1
   have hbt := hd.btl
   obtain ⟨n1, n2⟩ := zDP h2
   have hw : (wsP d).length < 6 := by rw [nF]; omega
   simp only [he, decide_true, Bool.not_true, cond_true, cond_false]
   rw [zLV hd hn hne, Option.bind_some, zHC hn _ hw l (by omega) (fun x hx => (n1 x hx).1), Option.bind_some]
  ·simp only [decide_eq_false he, Bool.not_false, cond_true, cond_false]
 unfold zCX
 by_cases hlen : l.length = d.batches.length
 ·rw [decide_eq_true (show ((l.length : Nat) : Int) = ((d.batches.length : Nat) : Int) by omega), cond_true, zHD hn l hl _ (fun x => !inb x 0 ((d.batches.length : Int) - 1)) (fun x _ => by unfold zBR; rw [zDH, Option.bind_some, yE (by omega)]), Option.bind_some]
  refine hj _ ?_
  rw [zGD l (fun x => inb x 0 ((d.batches.length : Int) - 1))]
  unfold lP
  rw [decide_eq_true hlen, Bool.and_true]
 ·rw [decide_eq_false (show ¬ ((l.length : Nat) : Int) = ((d.batches.length : Nat) : Int) by omega), cond_false]
  refine hj false ?_
  unfold lP
  rw [decide_eq_false hlen, Bool.and_false]
theorem yAO (hn : 100 ≤ n) (hs : eQ d) : zCV n d = some (bif decide (err d true = 0) then (bif gT (wsP d) then 0 else 5) else err d true) := by
 unfold zCV
 rw [zSK hn hs, Option.bind_some]
 by_cases he : err d true = 0
 ·obtain ⟨h1, _, hne⟩ := lS he
  have hd := iJ.1 h1
  have hbt := hd.btl
  rw [decide_eq_true he, cond_true, cond_true, zLY hd hn hne, Option.bind_some, zWL hn _ (by rw [wO]; omega), Option.bind_some, zJL, he]
  cases gT (wsP d) <;> rfl
 ·rw [decide_eq_false he, cond_false, cond_false]
  rfl
theorem zHS {w : List zC} (hw : w.length < 6) : cF w ∈ fE w.length ∧ apG w [] (cF w) = true := by
 have hnil : [] ∈ (fE w.length).filter (apG w []) := List.mem_filter.2 ⟨by simpa using List.all_eq_true.1 zAU w.length (List.mem_range.2 hw), rfl⟩
 unfold cF
 cases h : (fE w.length).filter (apG w []) with
 | nil => rw [h] at hnil; cases hnil
 | cons y r =>
  have hy : y ∈ (fE w.length).filter (apG w []) := by rw [h]; exact List.mem_cons_self
  exact List.mem_filter.1 hy
theorem wA {w : List zC} (hw : w.length < 6) : rD w.length (-1) (cF w) = true := (zQA hw).2 ((zAV hw _).1 ((uJ hw _).2 (zHS hw).1))
theorem zHT {w : List zC} (hw : w.length < 6) : (cF w).length ≤ w.length := by
 by_cases h0 : w.length = 0
 ·have h := wA hw
  cases hf : cF w with
  | nil => simp
  | cons x r =>
   rw [hf, h0] at h
   obtain ⟨h1, h2, _⟩ := pF.1 h
   omega
 ·have := zDE _ (-1) (wA hw) (by omega) (by omega)
  omega
theorem zKR {w : List zC} (hw : w.length < 6) (hin : InH w) (he : gT w = true) : Way (cC w) ∧ (cC w).length = w.length := by
 obtain ⟨a, b⟩ := tN w.length [] _ Way.nil (zKQ hw hin he).1
 exact ⟨a, by simpa using b⟩
theorem zST (d : zN) (l : List Int) : zGW 1000 d l = some true := by
 have hn : 100 ≤ 1000 := by omega
 unfold zGW
 rw [yAW, Option.bind_some]
 have out : iH 1000 d l true = some true := by unfold iH; rw [cond_true, zDI, Option.bind_some]
 cases hsh : sF d with
 | false => simp only [Bool.not_false, cond_true]; exact out
 | true =>
  have hs := zGO.1 hsh
  have hbs := hs.e
  simp only [Bool.not_true, cond_false]
  by_cases h7 : (7 : Int) < ((l.length : Nat) : Int)
  ·rw [decide_eq_true h7]; exact out
  ·rw [decide_eq_false h7]
   unfold iH
   rw [cond_false, yAS hn hs l (by omega), Option.bind_some, yAR hn hs, Option.bind_some, yAQ hs, Option.bind_some, yAP (by omega) d l (by omega) (by omega), Option.bind_some, zSK hn hs, Option.bind_some]
   have last : lH 1000 d (bif decide (err d true = 0) then (bif gT (wsP d) then (cC (wsP d), rn 0 (cC (wsP d)), 0) else ([], 0, 5)) else ([], 0, err d true)) (bif decide (err d true = 0) then (bif gT (wsP d) then (cF (wsP d), 0) else ([], 5)) else ([], err d true)) = some true := by
    unfold lH
    rw [yAO hn hs, Option.bind_some]
    by_cases he : err d true = 0
    ·obtain ⟨h1, _, hne⟩ := lS he
     have hd := iJ.1 h1
     have hbt := hd.btl
     have hw : (wsP d).length < 6 := by rw [nF]; omega
     have hin := zCC hd
     rw [decide_eq_true he, cond_true, cond_true, cond_true]
     cases hea : gT (wsP d) with
     | false =>
      simp only [cond_false, show decide ((5 : Int) = 0) = false from rfl, Bool.not_false, cond_true, decide_true, List.length_nil, show decide (((0 : Nat) : Int) = 0) = true from rfl, zDI, Option.bind_some]
     | true =>
      obtain ⟨b1, b2⟩ := zKR hw hin hea
      have hfl := zHT hw
      simp only [cond_true, decide_true, Bool.not_true, cond_false]
      rw [zLY hd hn hne, Option.bind_some, zPS hea, yAN hn _ hw (by rw [nF]; omega), Option.bind_some, zSI 1000 hn _ _ (by omega), Option.bind_some, decide_eq_true rfl, cond_true, zAC hn _ (by omega) (fun x hx => by have := pR b1 (by omega) x hx; omega), Option.bind_some, decide_eq_true rfl, cond_true, yAM _ hw, Option.bind_some, zSI 1000 hn _ _ (by omega), Option.bind_some, decide_eq_true rfl, cond_true, zDI, Option.bind_some]
    ·simp only [decide_eq_false he, cond_false, Bool.not_false, cond_true, decide_true, List.length_nil, show decide (((0 : Nat) : Int) = 0) = true from rfl, zDI, Option.bind_some]
   by_cases he : err d (lP d l) = 0
   ·obtain ⟨h1, h2, hne⟩ := lS he
    have hd := iJ.1 h1
    have hbt := hd.btl
    obtain ⟨n1, n2⟩ := zDP h2
    simp only [he, decide_true, Bool.not_true, cond_true, cond_false]
    rw [zLY hd hn hne, Option.bind_some, zSJ hn _ (by rw [wO]; omega) l (by rw [wO]; omega) (by omega) (fun x hx => by have := n1 x hx; omega), Option.bind_some, zGM l (fun x hx => (n1 x hx).1)]
    unfold nW
    cases hso : xZ (wsP d) l
    ·exact last
    ·exact last
   ·simp only [decide_eq_false he, Bool.not_false, cond_true, cond_false, decide_true, Bool.not_true]
    unfold nX
    rw [cond_false]
    exact last
end
end
section
open Go Go.RowKit Go.ChangeShapes Go.WideShapes
set_option maxRecDepth 100000
theorem drumSorts_lifted (os : Os) (started : os.Started) (H : Type) (enc : TypeId × Value → H) :
  ReturnsInHanded {} Tryz.checked os 11 .any (fun w args => (Rows.drumSortsSpec.pre enc Tryz.prog Tryz.f11 [] false w args ∧ laidMetH Tryz.prog Rows.drumSortsRow.laid w) ∧ sizedMet enc Tryz.prog Tryz.f11 (OpenSpec.ofChange Rows.drumSortsSpec) false w args)
   (Rows.drumSortsSpec.post enc Tryz.prog Tryz.f11 false true false false) :=
 zQU (s := Rows.drumSortsSpec) (enc := enc) started #[.agg #[.slice none 0 0, .int .i64 0, .int .i64 0, .slice none 0 0, .slice none 0 0, .slice none 0 0], .slice none 0 0] (by kernel_rfl) Tryz.func11 (by kernel_rfl) (by kernel_rfl) (by kernel_rfl) rfl
   (by
    rw [Tryz.params11]
    have h : ∀ t ∈ ([27, 23] : List Nat), t ∈ [3, 9, 23, 27, 54, 92] := by decide
    exact fun t ht => yAF t (h t ht)) rfl
   (by
    rw [Tryz.params11]
    intro ds h
    match ds, h with
    | [d0, d1], _ => rfl)
   (by
    rw [Tryz.params11]
    intro W base args ds p hval hA
    obtain ⟨args⟩ := args
    obtain ⟨v0, vs0, d0, ds0, p0, q0, e0, rfl, rfl, h0, r0⟩ := trodAll_cons hA
    have e0 : args = _ := e0; subst e0
    obtain ⟨v1, vs1, d1, ds1, p1, q1, e1, rfl, rfl, h1, r1⟩ := trodAll_cons r0
    subst e1
    obtain ⟨rfl, rfl, rfl⟩ := trodAll_nil r1
    obtain ⟨x0, z0⟩ := zQD (hval 0 27 v0 rfl rfl) h0
    obtain ⟨x1, z1⟩ := zQC (hval 1 23 v1 rfl rfl) h1
    refine ⟨rfl, [.agg (yA x0), .sl (x1.map eI)], ⟨rfl, ?_⟩, yCA 1000 x0 x1 (zST x0 x1)⟩
    intro j c u hc hu
    match j, hc, hu with
    | 0, hc, hu => cases hc; cases hu; exact z0
    | 1, hc, hu => cases hc; cases hu; exact z1)
theorem drumSorts_facts : zEI Tryz.prog Tryz.f11 Rows.drumSortsSpec Rows.drumSortsRow = true := by kernel_rfl
theorem drumSorts_road0 : (Rows.drumSortsRow.inPlace == Tryz.prog.inPlace 11) = true := by kernel_rfl
theorem drumSorts_road1 : (Rows.drumSortsRow.unfollowed == Tryz.prog.unfollowed 11) = true := by kernel_rfl
theorem drumSorts_road2 : (Rows.drumSortsRow.recurses == Tryz.prog.recurses 11) = true := by kernel_rfl
theorem drumSorts_road3 : (Rows.drumSortsRow.named == Tryz.prog.varsNamed 11) = true := by kernel_rfl
theorem drumSorts_row : Rows.DrumSortsSaid :=
 OpenClaim.holds_of_wide 11 Tryz.f11 rfl rfl rfl rfl rfl rfl rfl ⟨rfl, rfl, rfl, rfl, rfl⟩ rfl rfl rfl rfl rfl (by as_aux_lemma => kernel_rfl) Tryz.func11 (zJD drumSorts_facts drumSorts_road0 drumSorts_road1 drumSorts_road2 drumSorts_road3)
  (of_decide_eq_true (by as_aux_lemma => kernel_rfl)) (by unfold Func.isWrapper; rw [if_neg (of_decide_eq_false (by as_aux_lemma => kernel_rfl))]; exact ⟨rfl, rfl⟩)
  (fun os started H enc _ => drumSorts_lifted os started H enc)
theorem drumSorts_card : Rows.DrumSortsCardSaid :=
 Claim7.holds_tied_plain_at .later [] [.data, .data, .data, .data, .pinned] true (true, "263524fd91af563947b647e8709e73ef988cdef21cccd4074f632dc410392126") true drumSorts_row (fun _ h => by cases h) (by as_aux_lemma => kernel_rfl) (fun _ h => by cases h) drumSorts_row_tie rfl ⟨rfl, rfl⟩ zWX rfl
  (fun f fn hf hfn => by
   obtain rfl : f = 11 := Option.some.inj ((show Tryz.prog.funcNamed "nacre/nacrelaw03.DrumSorts" = some 11 by as_aux_lemma => kernel_rfl).symm.trans hf) |>.symm
   obtain rfl : fn = Tryz.f11 := (Option.some.inj (Tryz.func11.symm.trans hfn)).symm
   exact ⟨zSR, fun j t ht => by
    rw [Tryz.params11] at ht
    have hm : t ∈ [27, 23] := by simpa using Array.mem_of_getElem? ht
    have h : ∀ t ∈ ([27, 23] : List Nat), t ∈ [3, 9, 23, 27, 54, 92] := by decide
    exact zRU t (h t hm)⟩)
  (by as_aux_lemma => kernel_rfl)
#print axioms drumSorts_card
end
end Go.Proofs.YtohmhlkdgfcaeaaGreatDoor
