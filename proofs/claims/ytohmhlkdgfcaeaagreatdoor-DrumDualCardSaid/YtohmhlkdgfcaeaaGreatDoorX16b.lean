/- DrumDual: the best sorting is one, with the runs that are told, and no proposed one is better; the list of batches that are apart is as long, and no proposed one is better. For every input that can be read as data, the tables of Go's library being as their text lays them: the call returns true, and each argument reads behind it as before. -/
import Derived.KernelRfl
import Derived.Test.YtohmhlkdgfcaeaaGreatDoorTie
import Derived.Test.YtohmhlkdgfcaeaaGreatDoorCards
import Derived.Test.YtohmhlkdgfcaeaaGreatDoorX16a
set_option linter.unusedVariables false
set_option linter.unusedSimpArgs false
namespace Go.Proofs.YtohmhlkdgfcaeaaGreatDoor
open Go Go.RowKit
def rn : Int → List Int → Int
 | c, [] => c
 | c, x :: r => rn (max c (x + 1)) r
def rgB : Int → List Int → Bool
 | _, [] => true
 | c, x :: r => decide (x ≤ c) && rgB (max c (x + 1)) r
def pickV (v : Int) : List Int → List Span → List Span
 | x :: l, s :: w => bif decide (x = v) then s :: pickV v l w else pickV v l w
 | _, _ => []
theorem rn_ge : ∀ (l : List Int) (c : Int), c ≤ rn c l := by
 intro l
 induction l with
 | nil => intro c; exact Int.le_refl _
 | cons x r ih => intro c; have := ih (max c (x + 1)); rw [rn]; omega
theorem rn_app : ∀ (l : List Int) (c x : Int), rn c (l ++ [x]) = max (rn c l) (x + 1) := by
 intro l
 induction l with
 | nil => intro c x; rfl
 | cons y r ih => intro c x; exact ih _ x
theorem rgB_app : ∀ (l : List Int) (c x : Int), rgB c (l ++ [x]) = (rgB c l && decide (x ≤ rn c l)) := by
 intro l
 induction l with
 | nil =>
  intro c x
  show (decide (x ≤ c) && true) = (true && decide (x ≤ c))
  rw [Bool.and_true, Bool.true_and]
 | cons y r ih => intro c x; rw [List.cons_append, rgB, ih, rgB, rn, Bool.and_assoc]
theorem rn_le : ∀ (l : List Int) (c : Int), rgB c l = true → rn c l ≤ c + l.length := by
 intro l
 induction l with
 | nil => intro c _; simp [rn]
 | cons x r ih =>
  intro c h
  rw [rgB, Bool.and_eq_true, decide_eq_true_eq] at h
  have := ih _ h.2
  rw [rn]
  simp only [List.length_cons]
  push_cast
  omega
theorem rn_max : ∀ (l : List Int) (c : Int), ∀ x ∈ l, x < rn c l := by
 intro l
 induction l with
 | nil => intro c x h; cases h
 | cons y r ih =>
  intro c x h
  rw [rn]
  rcases List.mem_cons.1 h with rfl | h
  ·have := rn_ge r (max c (x + 1)); omega
  ·exact ih _ x h
theorem p_59 {n : Nat} (hn : 100 ≤ n) (l : List Int) (hl : l.length ≤ 50) (hb : ∀ x ∈ l, -1000 ≤ x ∧ x ≤ 1000) : s_59 n l = some (rn 0 l) := by
 unfold s_59
 have key : ∀ (r : List Int) (i k : Nat) (c : Int), l.drop i = r → i ≤ l.length → l.length < k + i → (∀ x ∈ r, -1000 ≤ x ∧ x ≤ 1000) → s_59_l1 l k c (i : Int) = some (rn c r) := by
  intro r
  induction r with
  | nil =>
   intro i k c hi h2 hk _
   have hil : l.length ≤ i := List.drop_eq_nil_iff.1 hi
   obtain ⟨k, rfl⟩ : ∃ k', k = k' + 1 := ⟨k - 1, by omega⟩
   rw [s_59_l1, decide_eq_false (by omega), cond_false]
   rfl
  | cons y r ih =>
   intro i k c hi h2 hk hb
   have hil : i < l.length := by
    rcases Nat.lt_or_ge i l.length with h | h
    ·exact h
    ·rw [List.drop_eq_nil_of_le h] at hi; cases hi
   obtain ⟨k, rfl⟩ : ∃ k', k = k' + 1 := ⟨k - 1, by omega⟩
   rw [List.drop_eq_getElem_cons hil] at hi
   obtain ⟨hx, hr⟩ := List.cons.inj hi
   have hy := hb y List.mem_cons_self
   rw [s_59_l1, decide_eq_true (by omega), cond_true, ix_at (List.getElem?_eq_getElem hil), Option.bind_some, hx, wr_of (by omega), wr_of (by omega), rn]
   have := ih (i + 1) k (max c (y + 1)) hr (by omega) (by omega) (fun x hx => hb x (List.mem_cons_of_mem _ hx))
   push_cast at this
   exact this
 have := key l 0 n 0 (by simp) (by omega) (by omega) hb
 exact this
theorem or_bit : ∀ i : Nat, i < 6 → ∀ a : Nat, a < 2 ^ i → bits .or .i64 (a : Int) ((2 : Int) ^ i) = (a : Int) + 2 ^ i := by decide
theorem bit_has : ∀ i : Nat, i < 6 → ∀ a : Nat, a < 2 ^ i → ∀ j : Nat, j < 6 → hasB ((a : Int) + 2 ^ i) j = (hasB (a : Int) j || decide (j = i)) := by decide
theorem shl_one {i : Nat} (h : i ≤ 6) : shl .i64 1 (i : Int) = some (2 ^ i) := by
 have hpv := pow_bound h
 unfold shl
 rw [show decide ((0 : Int) ≤ (i : Int)) = true from decide_eq_true (by omega), cond_true]
 have hm : min ((i : Nat) : Int).toNat IntKind.i64.bits = i := by
  show min i 64 = i
  omega
 rw [hm, Int.one_mul]
 exact congrArg some (wr_of (by omega))
def clsOk (l : List Int) (i : Nat) (out : List Int) : Prop := ∀ v : Nat, v < out.length → ∃ a : Nat, out[v]? = some (a : Int) ∧ a < 2 ^ i ∧ ∀ j, j < 6 → hasB (a : Int) j = (decide (j < i) && decide (l[j]? = some (v : Int)))
theorem run_step {l : List Int} {i : Nat} {out : List Int} (hi : i < 6) {v : Nat} (hv : v < out.length) (hx : l[i]? = some (v : Int)) (h : clsOk l i out) {y : Int} (hy : out[v]? = some y) : clsOk l (i + 1) (sts out (v : Int) (bits .or .i64 y (2 ^ i))) := by
 intro u hu
 have hlen : (sts out (v : Int) (bits .or .i64 y (2 ^ i))).length = out.length := by simp [sts]
 rw [hlen] at hu
 obtain ⟨a, ha, hlt, hb⟩ := h u hu
 have hp : 2 ^ i < 2 ^ (i + 1) := Nat.pow_lt_pow_right (by omega) (by omega)
 by_cases e : u = v
 ·subst e
  rw [hy] at ha
  cases ha
  have hg : (sts out (u : Int) (bits .or .i64 (a : Int) (2 ^ i)))[u]? = some ((a : Int) + 2 ^ i) := by
   simp [sts, List.getElem?_set, hv, or_bit i hi a hlt]
  refine ⟨a + 2 ^ i, ?_, by rw [Nat.pow_succ]; omega, ?_⟩
  ·rw [hg]; push_cast; rfl
  ·intro j hj
   have := bit_has i hi a hlt j hj
   push_cast
   rw [this, hb j hj]
   by_cases e2 : j = i
   ·subst e2
    rw [decide_eq_true rfl, decide_eq_true (show j < j + 1 by omega), decide_eq_true hx, Bool.or_true]; rfl
   ·rw [decide_eq_false e2, Bool.or_false]
    congr 1
    rw [decide_eq_decide]; omega
 ·refine ⟨a, ?_, by omega, ?_⟩
  ·have : (v : Int).toNat ≠ u := by simp; omega
   simp [sts, List.getElem?_set, this, ha, Ne.symm e]
  ·intro j hj
   rw [hb j hj]
   by_cases e2 : j = i
   ·subst e2
    have : ¬ l[j]? = some (u : Int) := by rw [hx]; intro h; cases h; exact e rfl
    rw [decide_eq_false this, Bool.and_false, Bool.and_false]
   ·congr 1
    rw [decide_eq_decide]; omega
theorem p_126 {n : Nat} (hn : 100 ≤ n) (l : List Int) (hl : l.length ≤ 6) (h0 : ∀ x ∈ l, 0 ≤ x) :
  (rgB 0 l = false → s_126 n l = some ([], false)) ∧ (rgB 0 l = true → ∃ out, s_126 n l = some (out, true) ∧ (out.length : Int) = rn 0 l ∧ clsOk l l.length out) := by
 unfold s_126
 have key : ∀ (r : List Int) (i k : Nat) (out : List Int), l.drop i = r → i ≤ l.length → l.length < k + i → out.length ≤ i → clsOk l i out → (∀ (j : Nat) (y : Int), j < i → l[j]? = some y → y < out.length) →
   (rgB out.length r = false → s_126_l1 l k (i : Int) out = some ([], false)) ∧ (rgB out.length r = true → ∃ out', s_126_l1 l k (i : Int) out = some (out', true) ∧ (out'.length : Int) = rn out.length r ∧ clsOk l l.length out') := by
  intro r
  induction r with
  | nil =>
   intro i k out hi h2 hk ho hc hv
   have hil : l.length ≤ i := List.drop_eq_nil_iff.1 hi
   obtain ⟨k, rfl⟩ : ∃ k', k = k' + 1 := ⟨k - 1, by omega⟩
   rw [s_126_l1, decide_eq_false (by omega), cond_false]
   obtain rfl : i = l.length := by omega
   exact ⟨fun h => (by cases h), fun _ => ⟨out, rfl, rfl, hc⟩⟩
  | cons x r ih =>
   intro i k out hi h2 hk ho hc hv
   have hil : i < l.length := by
    rcases Nat.lt_or_ge i l.length with h | h
    ·exact h
    ·rw [List.drop_eq_nil_of_le h] at hi; cases hi
   obtain ⟨k, rfl⟩ : ∃ k', k = k' + 1 := ⟨k - 1, by omega⟩
   rw [List.drop_eq_getElem_cons hil] at hi
   obtain ⟨hx, hr⟩ := List.cons.inj hi
   have hg : l[i]? = some x := by rw [List.getElem?_eq_getElem hil, hx]
   have hx0 : 0 ≤ x := h0 x (List.mem_of_getElem? hg)
   obtain ⟨v, rfl⟩ := Int.eq_ofNat_of_zero_le hx0
   rw [s_126_l1, decide_eq_true (by omega), cond_true, ix_at hg, Option.bind_some, rgB]
   have step : ∀ o2 : List Int, o2.length ≤ i + 1 → v < o2.length → clsOk l i o2 → (∀ (j : Nat) (y : Int), j < i → l[j]? = some y → y < o2.length) →
     (rgB o2.length r = false → s_126_j5 (s_126_l1 l k) (i : Int) (v : Int) o2 = some ([], false)) ∧ (rgB o2.length r = true → ∃ out', s_126_j5 (s_126_l1 l k) (i : Int) (v : Int) o2 = some (out', true) ∧ (out'.length : Int) = rn o2.length r ∧ clsOk l l.length out') := by
    intro o2 hlo hvo hco hvo2
    have hy : o2[v]? = some o2[v] := List.getElem?_eq_getElem hvo
    have h5 : s_126_j5 (s_126_l1 l k) (i : Int) (v : Int) o2 = s_126_l1 l k ((i : Int) + 1) (sts o2 (v : Int) (bits .or .i64 o2[v] (2 ^ i))) := by
     unfold s_126_j5
     rw [ix_at hy, Option.bind_some, shl_one (by omega), Option.bind_some, Option.bind_some, wr_of (by omega)]
    have hlen : (sts o2 (v : Int) (bits .or .i64 o2[v] (2 ^ i))).length = o2.length := by simp [sts]
    have := ih (i + 1) k (sts o2 (v : Int) (bits .or .i64 o2[v] (2 ^ i))) hr (by omega) (by omega) (by omega) (run_step (by omega) hvo hg hco hy) (fun j y hj hjy => by
     rw [hlen]
     by_cases e : j = i
     ·subst e; rw [hg] at hjy; cases hjy; omega
     ·exact hvo2 j y (by omega) hjy)
    rw [hlen] at this
    push_cast at this
    rw [h5]
    exact this
   by_cases c1 : (out.length : Int) < (v : Int)
   ·rw [decide_eq_true c1, cond_true, decide_eq_false (by omega), Bool.false_and]
    exact ⟨fun _ => rfl, fun h => by cases h⟩
   ·rw [decide_eq_false c1, cond_false, decide_eq_true (show (v : Int) ≤ (out.length : Int) by omega), Bool.true_and]
    rw [rn]
    by_cases c2 : v = out.length
    ·rw [decide_eq_true (show (v : Int) = (out.length : Int) by omega), cond_true, app_of (by simp; omega), Option.bind_some]
     have hl2 : (out ++ [0]).length = out.length + 1 := by simp
     have := step (out ++ [0]) (by omega) (by omega) (fun u hu => by
      rw [hl2] at hu
      by_cases e : u = out.length
      ·subst e
       refine ⟨0, by simp, Nat.pow_pos (by omega), fun j hj => ?_⟩
       have : (decide (j < i) && decide (l[j]? = some (out.length : Int))) = false := by
        rw [Bool.and_eq_false_iff]
        by_cases hji : j < i
        ·right
         refine decide_eq_false (fun h => ?_)
         have := hv j _ hji h
         omega
        ·left; exact decide_eq_false hji
       rw [this]
       simp [hasB]
      ·obtain ⟨a, b1, b2⟩ := hc u (by omega)
       exact ⟨a, by rw [List.getElem?_append_left (by omega)]; exact b1, b2⟩) (fun j y hj hjy => by have := hv j y hj hjy; rw [hl2]; omega)
     rw [hl2] at this
     rw [show max (out.length : Int) ((v : Int) + 1) = ((out.length + 1 : Nat) : Int) by omega]
     exact this
    ·rw [decide_eq_false (show ¬ (v : Int) = (out.length : Int) by omega), cond_false]
     have := step out (by omega) (by omega) hc hv
     rw [show max (out.length : Int) ((v : Int) + 1) = (out.length : Int) by omega]
     exact this
 have := key l 0 n [] (by simp) (by omega) (by omega) (by simp) (fun v hv => by simp at hv) (fun j y hj => by omega)
 exact this
def sortsB (w : List Span) (l : List Int) : Bool := rgB 0 l && (List.range (rn 0 l).toNat).all (fun v => decide (comm (pickV v l w)).ne)
theorem pick_V {l : List Int} {a : Int} {v : Int} : ∀ (w : List Span) (i : Nat), (∀ j, j < i + w.length → hasB a j = (decide (j < l.length) && decide (l[j]? = some v))) → pickF a i w = pickV v (l.drop i) w := by
 intro w
 induction w with
 | nil => intro i _; cases l.drop i <;> rfl
 | cons s r ih =>
  intro i h
  have h1 := h i (by simp)
  have h2 := ih (i + 1) (fun j hj => h j (by simp only [List.length_cons]; omega))
  rw [pickF, h1, h2]
  by_cases hi : i < l.length
  ·rw [List.drop_eq_getElem_cons hi, pickV, List.getElem?_eq_getElem hi, decide_eq_true hi, Bool.true_and]
   by_cases e : l[i] = v
   ·rw [decide_eq_true e, decide_eq_true (by rw [e])]; rfl
   ·rw [decide_eq_false e, decide_eq_false (fun h => e (Option.some.inj h))]; rfl
  ·rw [decide_eq_false hi, List.drop_eq_nil_of_le (by omega), List.drop_eq_nil_of_le (by omega)]
   rfl
theorem all_any {α : Type} (l : List α) (p : α → Bool) : (!l.any (fun x => !p x)) = l.all p := by
 induction l with
 | nil => rfl
 | cons x r ih => rw [List.any_cons, List.all_cons, ← ih]; cases p x <;> simp
theorem p_123 {n : Nat} (hn : 100 ≤ n) (w : List Span) (hw : w.length < 6) (l : List Int) (hl : l.length ≤ 6) (h0 : ∀ x ∈ l, 0 ≤ x) : s_123 n ⟨w⟩ l = some (sortsB w l) := by
 obtain ⟨a1, a2⟩ := p_126 hn l hl h0
 unfold s_123 sortsB
 cases hr : rgB 0 l with
 | false => rw [a1 hr]; rfl
 | true =>
  obtain ⟨out, e, hlen, hc⟩ := a2 hr
  have h6 : 2 ^ l.length ≤ 64 := by
   have := Nat.pow_le_pow_right (show 0 < 2 by omega) (show l.length ≤ 6 by omega)
   simpa using this
  have hol : out.length ≤ 6 := by have := rn_le l 0 hr; omega
  have hopen : ∀ x ∈ out, s_168 n x ⟨w⟩ = some (!decide (com w x).ne) := by
   intro x hx
   obtain ⟨v, hv, rfl⟩ := List.getElem_of_mem hx
   obtain ⟨a, b1, b2, b3⟩ := hc v hv
   rw [List.getElem?_eq_getElem hv] at b1
   have b1 := Option.some.inj b1
   unfold s_168
   rw [p_99 hn w (by omega) (by omega) (by omega)]
   rfl
  rw [e, Option.bind_some, cond_true, p_121 hn out (by omega) _ (fun x => !decide (com w x).ne) hopen, Option.bind_some, all_any out (fun x => decide (com w x).ne), Bool.true_and]
  congr 1
  have hrn : (rn 0 l).toNat = out.length := by omega
  rw [hrn, Bool.eq_iff_iff, List.all_eq_true, List.all_eq_true]
  have conn : ∀ (v : Nat) (hv : v < out.length), com w out[v] = comm (pickV v l w) := by
   intro v hv
   obtain ⟨a, b1, b2, b3⟩ := hc v hv
   rw [List.getElem?_eq_getElem hv] at b1
   rw [Option.some.inj b1]
   unfold com comm
   rw [pick_V (l := l) (v := (v : Int)) w 0 (fun j hj => b3 j (by omega)), List.drop_zero]
  constructor
  ·intro h v hv
   have hv := List.mem_range.1 hv
   rw [← conn v hv]
   exact h _ (List.getElem_mem hv)
  ·intro h x hx
   obtain ⟨v, hv, rfl⟩ := List.getElem_of_mem hx
   rw [conn v hv]
   exact h v (List.mem_range.2 hv)
end Go.Proofs.YtohmhlkdgfcaeaaGreatDoor
namespace Go.Proofs.YtohmhlkdgfcaeaaGreatDoor
open Go Go.RowKit
def stepL (l : List Int) : List (List Int) := (List.range ((rn 0 l).toNat + 1)).map fun (x : Nat) => l ++ [(x : Int)]
def extL : Nat → List Int → List (List Int)
 | 0, l => [l]
 | k + 1, l => (stepL l).flatMap (extL k)
theorem pickV_app {v : Int} : ∀ (l m : List Int) (w : List Span), ∀ s ∈ pickV v l w, s ∈ pickV v (l ++ m) w := by
 intro l
 induction l with
 | nil => intro m w s h; cases w <;> cases h
 | cons x r ih =>
  intro m w s h
  cases w with
  | nil => cases h
  | cons t w =>
   rw [List.cons_append]
   rw [pickV] at h ⊢
   cases hc : decide (x = v) with
   | true =>
    rw [hc, cond_true] at h
    rw [cond_true]
    rcases List.mem_cons.1 h with rfl | h
    ·exact List.mem_cons_self
    ·exact List.mem_cons_of_mem _ (ih m w s h)
   | false =>
    rw [hc, cond_false] at h
    rw [cond_false]
    exact ih m w s h
theorem comm_sub {w w' : List Span} (h : (comm w).ne) (hs : ∀ s ∈ w', s ∈ w) : (comm w').ne := meet_iff.1 ((meet_iff.2 h).sub hs)
theorem sorts_pref {w : List Span} {l : List Int} {x : Int} (h : sortsB w (l ++ [x]) = true) : sortsB w l = true := by
 unfold sortsB at *
 rw [rgB_app, rn_app, Bool.and_eq_true, Bool.and_eq_true, List.all_eq_true] at h
 obtain ⟨⟨h1, _⟩, h2⟩ := h
 rw [h1, Bool.true_and, List.all_eq_true]
 intro v hv
 have hv := List.mem_range.1 hv
 have := of_decide_eq_true (h2 v (List.mem_range.2 (by omega)))
 exact decide_eq_true (comm_sub this (pickV_app l [x] w))
structure Way (l : List Int) : Prop where
 rg : rgB 0 l = true
 nn : ∀ x ∈ l, 0 ≤ x
theorem Way.nil : Way [] := ⟨rfl, by simp⟩
theorem Way.step {l : List Int} (h : Way l) {x : Nat} (hx : (x : Int) ≤ rn 0 l) : Way (l ++ [(x : Int)]) :=
 ⟨by rw [rgB_app, h.rg, decide_eq_true hx]; rfl, fun y hy => by
  rcases List.mem_append.1 hy with hy | hy
  ·exact h.nn y hy
  ·obtain rfl := List.mem_singleton.1 hy; omega⟩
theorem Way.rn {l : List Int} (h : Way l) : 0 ≤ rn 0 l ∧ YtohmhlkdgfcaeaaGreatDoor.rn 0 l ≤ l.length := by
 have h1 := rn_le l 0 h.rg
 have h2 := rn_ge l 0
 omega
theorem step_mem {l z : List Int} (h : Way l) (hz : z ∈ stepL l) : Way z ∧ z.length = l.length + 1 ∧ ∃ x, z = l ++ [x] := by
 unfold stepL at hz
 obtain ⟨x, hx, rfl⟩ := List.mem_map.1 hz
 have := h.rn
 have hx := List.mem_range.1 hx
 exact ⟨h.step (by omega), by simp, _, rfl⟩
theorem ext_mem : ∀ (k : Nat) (l z : List Int), Way l → z ∈ extL k l → Way z ∧ z.length = l.length + k := by
 intro k
 induction k with
 | zero => intro l z h hz; obtain rfl := List.mem_singleton.1 hz; exact ⟨h, rfl⟩
 | succ k ih =>
  intro l z h hz
  obtain ⟨y, hy, hz⟩ := List.mem_flatMap.1 hz
  obtain ⟨h1, h2, _⟩ := step_mem h hy
  obtain ⟨h3, h4⟩ := ih y z h1 hz
  exact ⟨h3, by omega⟩
theorem ext_pref {w : List Span} : ∀ (k : Nat) (l z : List Int), Way l → z ∈ extL k l → sortsB w z = true → sortsB w l = true := by
 intro k
 induction k with
 | zero => intro l z h hz hs; obtain rfl := List.mem_singleton.1 hz; exact hs
 | succ k ih =>
  intro l z h hz hs
  obtain ⟨y, hy, hz⟩ := List.mem_flatMap.1 hz
  obtain ⟨h1, _, x, rfl⟩ := step_mem h hy
  exact sorts_pref (ih _ z h1 hz hs)
theorem flat_len {α β : Type} (f : α → List β) (b : Nat) : ∀ l : List α, (∀ x ∈ l, (f x).length ≤ b) → (l.flatMap f).length ≤ l.length * b := by
 intro l
 induction l with
 | nil => intro _; simp
 | cons x r ih =>
  intro h
  have h1 := h x List.mem_cons_self
  have h2 := ih (fun y hy => h y (List.mem_cons_of_mem _ hy))
  rw [List.flatMap_cons, List.length_append, List.length_cons, Nat.succ_mul]
  omega
theorem step_len {l : List Int} (h : Way l) (hl : l.length ≤ 5) : (stepL l).length ≤ 6 := by
 have := h.rn
 simp only [stepL, List.length_map, List.length_range]
 omega
theorem ext_len : ∀ (k : Nat) (l : List Int), Way l → l.length + k ≤ 5 → (extL k l).length ≤ 6 ^ k := by
 intro k
 induction k with
 | zero => intro l _ _; simp [extL]
 | succ k ih =>
  intro l h hl
  have h1 := step_len h (by omega)
  have h2 := flat_len (extL k) (6 ^ k) (stepL l) (fun z hz => by
   obtain ⟨a, b, _⟩ := step_mem h hz
   exact ih z a (by omega))
  rw [extL, Nat.pow_succ, Nat.mul_comm]
  exact Nat.le_trans h2 (Nat.mul_le_mul_right _ h1)
section
variable {n : Nat} {d : Drum}
theorem p_125l (hn : 100 ≤ n) (now : List Int) (hnow : now.length ≤ 50) (f : List Int → List (List Int) → Option (List (List Int))) (G : Nat → List (List Int)) (b M : Nat) (hG : ∀ x, x < M → (G x).length ≤ b)
  (hf : ∀ x, x < M → ∀ all, all.length + b ≤ 100000 → f (now ++ [(x : Int)]) all = some (all ++ G x)) : ∀ (r i j : Nat) (all : List (List Int)), i + r = M → r < j → all.length + r * b ≤ 100000 → M ≤ 100 →
  s_125l n now f (M : Int) j (i : Int) all = some (all ++ (List.range' i r).flatMap G) := by
 intro r
 induction r with
 | zero =>
  intro i j all hi hj _ _
  obtain ⟨j, rfl⟩ : ∃ j', j = j' + 1 := ⟨j - 1, by omega⟩
  rw [s_125l, decide_eq_false (by omega), cond_false]
  simp
 | succ r ih =>
  intro i j all hi hj hb hM
  obtain ⟨j, rfl⟩ : ∃ j', j = j' + 1 := ⟨j - 1, by omega⟩
  have h1 := hG i (by omega)
  rw [Nat.succ_mul] at hb
  rw [s_125l, decide_eq_true (by omega), cond_true]
  unfold s_97
  rw [app_of (by simp; omega), Option.bind_some, List.nil_append, app_of (by simp; omega), Option.bind_some, hf i (by omega) all (by omega), Option.bind_some, wr_of (by omega)]
  have := ih (i + 1) j (all ++ G i) (by omega) (by omega) (by rw [List.length_append]; omega) hM
  push_cast at this
  rw [this, List.range'_succ, List.flatMap_cons, List.append_assoc]
theorem p_125 (hn : 100 ≤ n) (w : List Span) (hw : w.length < 6) (hd : d.batches.length = w.length) : ∀ (r f : Nat) (now : List Int) (all : List (List Int)), now.length + r = w.length → r < f → Way now → all.length + 6 ^ r ≤ 100000 →
  s_125 n ⟨w⟩ d f now all = some (all ++ (extL r now).filter (sortsB w)) := by
 intro r
 induction r with
 | zero =>
  intro f now all hl hf hway hb
  obtain ⟨f, rfl⟩ : ∃ f', f = f' + 1 := ⟨f - 1, by omega⟩
  rw [s_125, p_123 hn w hw now (by omega) hway.nn, Option.bind_some, extL, List.filter_cons, List.filter_nil]
  cases sortsB w now with
  | false => simp
  | true =>
   simp only [Nat.pow_zero] at hb
   rw [Bool.not_true, cond_false, decide_eq_true (by omega), cond_true, app_of (by simp; omega)]
   rfl
 | succ r ih =>
  intro f now all hl hf hway hb
  obtain ⟨f, rfl⟩ : ∃ f', f = f' + 1 := ⟨f - 1, by omega⟩
  rw [s_125, p_123 hn w hw now (by omega) hway.nn, Option.bind_some]
  cases hs : sortsB w now with
  | false =>
   have : (extL (r + 1) now).filter (sortsB w) = [] := by
    rw [List.filter_eq_nil_iff]
    intro z hz h
    have := ext_pref (r + 1) now z hway hz h
    rw [hs] at this
    cases this
   rw [this]
   simp
  | true =>
   obtain ⟨out, e, hlen, _⟩ := (p_126 hn now (by omega) hway.nn).2 hway.rg
   have hrn := hway.rn
   have hp : 6 ^ (r + 1) = 6 ^ r * 6 := Nat.pow_succ ..
   rw [Bool.not_true, cond_false, decide_eq_false (by omega), cond_false, e, Option.bind_some]
   have hM : (out.length : Int) + 1 = ((out.length + 1 : Nat) : Int) := by push_cast; rfl
   show s_125l n now (s_125 n ⟨w⟩ d f) (wr ((out.length : Int) + 1)) n ((0 : Nat) : Int) all = _
   rw [wr_of (by omega), hM]
   rw [p_125l hn now (by omega) _ (fun x => (extL r (now ++ [(x : Int)])).filter (sortsB w)) (6 ^ r) (out.length + 1) (fun x hx => Nat.le_trans (List.length_filter_le _ _) (ext_len r _ (hway.step (by omega)) (by simp; omega)))
    (fun x hx all' ha => ih f _ all' (by simp; omega) (by omega) (hway.step (by omega)) ha) (out.length + 1) 0 n all (by omega) (by omega) (by
     have : (out.length + 1) * 6 ^ r ≤ 6 * 6 ^ r := Nat.mul_le_mul_right _ (by omega)
     omega) (by omega)]
   congr 2
   have hr2 : (rn 0 now).toNat + 1 = out.length + 1 := by omega
   rw [extL, stepL, hr2, ← List.range_eq_range', List.filter_flatMap, List.flatMap_map]
end
end Go.Proofs.YtohmhlkdgfcaeaaGreatDoor
namespace Go.Proofs.YtohmhlkdgfcaeaaGreatDoor
open Go Go.RowKit
def eachB (w : List Span) : Bool := w.all fun s => decide s.ne
def InH (w : List Span) : Prop := ∀ s ∈ w, 0 ≤ s.low ∧ s.high ≤ 12
def ltR (a b : List Int) : Bool := decide (rn 0 a < rn 0 b)
def bestS (w : List Span) : List Int := match (extL w.length []).filter (sortsB w) with
 | [] => []
 | x :: l => least ltR x l
theorem bit_one : ∀ i : Nat, i < 6 → ∀ j : Nat, j < 6 → hasB ((2 : Int) ^ i) j = decide (j = i) := by decide
theorem pick_one {i : Nat} (hi : i < 6) : ∀ (w : List Span) (k : Nat), k + w.length ≤ 6 → k ≤ i → pickF (2 ^ i) k w = (w[i - k]?).toList := by
 intro w
 induction w with
 | nil => intro k _ _; simp [pickF]
 | cons s r ih =>
  intro k hk hki
  simp only [List.length_cons] at hk
  rw [pickF, bit_one i hi k (by omega)]
  by_cases e : k = i
  ·subst e
   have : ∀ (r : List Span) (j : Nat), k < j → j + r.length ≤ 6 → pickF (2 ^ k) j r = [] := by
    intro r
    induction r with
    | nil => intro j _ _; rfl
    | cons t r ih2 =>
     intro j hj hl
     simp only [List.length_cons] at hl
     rw [pickF, bit_one k hi j (by omega), decide_eq_false (by omega), if_neg (by simp), ih2 (j + 1) (by omega) (by omega)]
   rw [decide_eq_true rfl, if_pos rfl, this r (k + 1) (by omega) (by omega)]
   simp
  ·rw [decide_eq_false (by omega), if_neg (by simp), ih (k + 1) (by omega) (by omega), show i - k = (i - (k + 1)) + 1 by omega, List.getElem?_cons_succ]
theorem com_one {w : List Span} (hw : w.length < 6) {i : Nat} {s : Span} (hs : w[i]? = some s) : com w (2 ^ i) = cap ⟨0, 12⟩ s := by
 have hi := (List.getElem?_eq_some_iff.1 hs).1
 unfold com
 rw [pick_one (by omega) w 0 (by omega) (by omega), Nat.sub_zero, hs]
 rfl
theorem cap_ne {s : Span} (h : 0 ≤ s.low ∧ s.high ≤ 12) : (cap ⟨0, 12⟩ s).ne ↔ s.ne := by
 simp only [cap, Span.ne]
 omega
section
variable {n : Nat} {d : Drum}
theorem p_124 (hn : 100 ≤ n) (w : List Span) (hw : w.length < 6) (hin : InH w) : s_124 n ⟨w⟩ = some (eachB w) := by
 unfold s_124
 have key : ∀ (r : List Span) (i k : Nat), w.drop i = r → i ≤ w.length → w.length < k + i → s_124_l1 n ⟨w⟩ k (i : Int) = some (r.all fun s => decide s.ne) := by
  intro r
  induction r with
  | nil =>
   intro i k hi h2 hk
   have hil : w.length ≤ i := List.drop_eq_nil_iff.1 hi
   obtain ⟨k, rfl⟩ : ∃ k', k = k' + 1 := ⟨k - 1, by omega⟩
   rw [s_124_l1, decide_eq_false (by show ¬ (i : Int) < (w.length : Int); omega), cond_false]
   rfl
  | cons s r ih =>
   intro i k hi h2 hk
   have hil : i < w.length := by
    rcases Nat.lt_or_ge i w.length with h | h
    ·exact h
    ·rw [List.drop_eq_nil_of_le h] at hi; cases hi
   obtain ⟨k, rfl⟩ : ∃ k', k = k' + 1 := ⟨k - 1, by omega⟩
   rw [List.drop_eq_getElem_cons hil] at hi
   obtain ⟨hx, hr⟩ := List.cons.inj hi
   have hg : w[i]? = some s := by rw [List.getElem?_eq_getElem hil, hx]
   have hpv := pow_bound (show i ≤ 6 by omega)
   have h63 : (2 : Int) ^ i ≤ 63 := by
    have : (2 : Nat) ^ i ≤ 2 ^ 5 := Nat.pow_le_pow_right (by omega) (by omega)
    have : (2 : Int) ^ i ≤ 2 ^ 5 := by exact_mod_cast this
    omega
   rw [s_124_l1, decide_eq_true (by show (i : Int) < (w.length : Int); omega), cond_true, shl_one (by omega), Option.bind_some, p_99 hn w (by omega) (by omega) h63, Option.bind_some, com_one hw hg, wr_of (by omega), List.all_cons]
   have e : decide (cap ⟨0, 12⟩ s).ne = decide s.ne := decide_eq_decide.2 (cap_ne (hin s (List.mem_of_getElem? hg)))
   have := ih (i + 1) k hr (by omega) (by omega)
   push_cast at this
   rw [e, this]
   cases decide s.ne <;> rfl
 exact key w 0 n (by simp) (by omega) (by omega)
theorem p_128 (hn : 100 ≤ n) (x : Int) (l : List Int) (hl : l.length ≤ 50) : s_128 n (x :: l) = some (l.foldl max x) := by
 unfold s_128
 rw [decide_eq_false (by simp only [List.length_cons]; omega), cond_false, show ix (x :: l) 0 = some x from rfl, Option.bind_some]
 have key : ∀ (r : List Int) (i k : Nat) (c : Int), (x :: l).drop i = r → i ≤ (x :: l).length → (x :: l).length < k + i → s_128_l1 (x :: l) k c (i : Int) = some (r.foldl max c) := by
  intro r
  induction r with
  | nil =>
   intro i k c hi h2 hk
   have hil : (x :: l).length ≤ i := List.drop_eq_nil_iff.1 hi
   obtain ⟨k, rfl⟩ : ∃ k', k = k' + 1 := ⟨k - 1, by omega⟩
   rw [s_128_l1, decide_eq_false (by omega), cond_false]
   rfl
  | cons y r ih =>
   intro i k c hi h2 hk
   have hil : i < (x :: l).length := by
    rcases Nat.lt_or_ge i (x :: l).length with h | h
    ·exact h
    ·rw [List.drop_eq_nil_of_le h] at hi; cases hi
   obtain ⟨k, rfl⟩ : ∃ k', k = k' + 1 := ⟨k - 1, by omega⟩
   have h51 : (x :: l).length ≤ 51 := by simp only [List.length_cons]; omega
   rw [List.drop_eq_getElem_cons hil] at hi
   obtain ⟨hx, hr⟩ := List.cons.inj hi
   rw [s_128_l1, decide_eq_true (by omega), cond_true, ix_at (List.getElem?_eq_getElem hil), Option.bind_some, hx, wr_of (by omega)]
   have := ih (i + 1) k (max c y) hr (by omega) (by omega)
   push_cast at this
   exact this
 exact key l 1 n x rfl (by simp) (by simp only [List.length_cons]; omega)
theorem fold_rn : ∀ (l : List Int) (c : Int), l.foldl max c + 1 = rn (c + 1) l := by
 intro l
 induction l with
 | nil => intro c; rfl
 | cons y r ih =>
  intro c
  rw [List.foldl_cons, ih, rn]
  congr 1
  omega
theorem p_127 (hn : 100 ≤ n) {l : List Int} (hl : l.length ≤ 50) (hne : l ≠ []) (h : Way l) : s_127 n l = some (rn 0 l) := by
 cases l with
 | nil => exact absurd rfl hne
 | cons x l =>
  have hx := h.nn x List.mem_cons_self
  have hr := h.rn
  unfold s_127
  have e := fold_rn l x
  have e2 : rn 0 (x :: l) = rn (x + 1) l := by rw [rn]; congr 1; omega
  simp only [List.length_cons] at hl hr
  rw [p_128 hn x l (by omega), Option.bind_some, e2, ← e, wr_of (by omega)]
theorem winP_in (hd : d.ok) {b : Batch} (hb : b.ok) : 0 ≤ (winP d b).low ∧ (winP d b).high ≤ 12 := by
 have hhr := hrs_le hd
 unfold winP
 by_cases h : firstH (smP d b) (hrs d + 1) 0 < 0
 ·rw [decide_eq_true h, cond_true]
  exact ⟨by show (0 : Int) ≤ 1; omega, by show (0 : Int) ≤ 12; omega⟩
 ·rw [decide_eq_false h, cond_false]
  refine ⟨by show 0 ≤ firstH (smP d b) (hrs d + 1) 0; omega, ?_⟩
  show lastH (thP d b) (hrs d + 1) ≤ 12
  by_cases h2 : lastH (thP d b) (hrs d + 1) < 0
  ·omega
  ·have := (lastH_spec _ _ (show 0 ≤ lastH (thP d b) (hrs d + 1) by omega)).2.1
   omega
theorem wsP_in (hd : d.ok) : InH (wsP d) := by
 intro s hs
 unfold wsP at hs
 obtain ⟨b, hb, rfl⟩ := List.mem_map.1 hs
 exact winP_in hd (hd.bt b hb)
theorem whole_of {w : List Span} (hin : InH w) (he : eachB w = true) : Whole w := fun s hs => by
 have h1 := hin s hs
 have h2 := of_decide_eq_true (List.all_eq_true.1 he s hs)
 exact ⟨h1.1, h2, h1.2⟩
def eachL (m : Nat) : List Int := (List.range m).map fun (i : Nat) => (i : Int)
theorem each_ext : ((List.range 6).all fun m => (extL m []).contains (eachL m)) = true := by kernel_rfl
theorem ext_few : ((List.range 6).all fun m => decide ((extL m []).length ≤ 60)) = true := by kernel_rfl
theorem each_rn : ((List.range 6).all fun m => decide (rn 0 (eachL m) = (m : Int)) && rgB 0 (eachL m)) = true := by kernel_rfl
theorem pick_single {v : Nat} : ∀ (w : List Span) (i : Nat), i ≤ v → pickV (v : Int) ((List.range' i w.length).map fun (j : Nat) => (j : Int)) w = (w[v - i]?).toList := by
 intro w
 induction w with
 | nil => intro i _; simp [pickV]
 | cons s r ih =>
  intro i hi
  rw [List.length_cons, List.range'_succ, List.map_cons, pickV]
  by_cases e : i = v
  ·subst e
   rw [decide_eq_true rfl, cond_true]
   have : ∀ (r : List Span) (j : Nat), i < j → pickV (i : Int) ((List.range' j r.length).map fun (j : Nat) => (j : Int)) r = [] := by
    intro r
    induction r with
    | nil => intro j _; simp [pickV]
    | cons t r ih2 =>
     intro j hj
     rw [List.length_cons, List.range'_succ, List.map_cons, pickV, decide_eq_false (by omega), cond_false]
     exact ih2 (j + 1) (by omega)
   rw [this r (i + 1) (by omega)]
   simp
  ·rw [decide_eq_false (by omega), cond_false, ih (i + 1) (by omega), show v - i = (v - (i + 1)) + 1 by omega, List.getElem?_cons_succ]
theorem each_sorts {w : List Span} (hw : w.length < 6) (hin : InH w) (he : eachB w = true) : sortsB w (eachL w.length) = true := by
 have h1 := List.all_eq_true.1 each_rn w.length (List.mem_range.2 hw)
 rw [Bool.and_eq_true, decide_eq_true_eq] at h1
 unfold sortsB
 rw [h1.2, Bool.true_and, List.all_eq_true]
 intro v hv
 have hv := List.mem_range.1 hv
 rw [h1.1] at hv
 have hvw : v < w.length := by omega
 have e : pickV (v : Int) (eachL w.length) w = [w[v]] := by
  unfold eachL
  rw [List.range_eq_range', pick_single w 0 (by omega), Nat.sub_zero, List.getElem?_eq_getElem hvw]
  rfl
 rw [e]
 have hm := List.getElem_mem hvw
 refine decide_eq_true ?_
 show (cap ⟨0, 12⟩ w[v]).ne
 rw [cap_ne (hin _ hm)]
 exact of_decide_eq_true (List.all_eq_true.1 he _ hm)
theorem best_some {w : List Span} (hw : w.length < 6) (hin : InH w) (he : eachB w = true) : ∃ x l, (extL w.length []).filter (sortsB w) = x :: l := by
 cases h : (extL w.length []).filter (sortsB w) with
 | nil =>
  have h1 := List.all_eq_true.1 each_ext w.length (List.mem_range.2 hw)
  have hm : eachL w.length ∈ (extL w.length []).filter (sortsB w) := List.mem_filter.2 ⟨by simpa using h1, each_sorts hw hin he⟩
  rw [h] at hm
  cases hm
 | cons x l => exact ⟨x, l, rfl⟩
theorem best_spec {w : List Span} (hw : w.length < 6) (hin : InH w) (he : eachB w = true) : bestS w ∈ extL w.length [] ∧ sortsB w (bestS w) = true ∧ (∀ z ∈ extL w.length [], sortsB w z = true → rn 0 (bestS w) ≤ rn 0 z) := by
 obtain ⟨x, l, h⟩ := best_some hw hin he
 have hb : bestS w = least ltR x l := by unfold bestS; rw [h]
 have hm : bestS w ∈ (extL w.length []).filter (sortsB w) := by
  rw [hb, h]
  rcases least_mem ltR l x with e | e
  ·rw [e]; exact List.mem_cons_self
  ·exact List.mem_cons_of_mem _ e
 obtain ⟨m1, m2⟩ := List.mem_filter.1 hm
 refine ⟨m1, m2, fun z hz hs => ?_⟩
 have hz2 : z ∈ (extL w.length []).filter (sortsB w) := List.mem_filter.2 ⟨hz, hs⟩
 rw [h] at hz2
 have key : ∀ (l : List (List Int)) (x z : List Int), (z = x ∨ z ∈ l) → rn 0 (least ltR x l) ≤ rn 0 z := by
  intro l
  induction l with
  | nil =>
   intro x z hz
   rcases hz with rfl | hz
   ·exact Int.le_refl _
   ·cases hz
  | cons y r ih =>
   intro x z hz
   rw [least]
   cases hc : ltR y x with
   | true =>
    rw [cond_true]
    have hc := of_decide_eq_true hc
    rcases hz with rfl | hz
    ·have := ih y y (.inl rfl); omega
    ·rcases List.mem_cons.1 hz with rfl | hz
     ·exact ih z z (.inl rfl)
     ·exact ih y z (.inr hz)
   | false =>
    rw [cond_false]
    have hc := of_decide_eq_false hc
    rcases hz with rfl | hz
    ·exact ih z z (.inl rfl)
    ·rcases List.mem_cons.1 hz with rfl | hz
     ·have := ih x x (.inl rfl); omega
     ·exact ih x z (.inr hz)
 rw [hb]
 exact key l x z (by simpa using hz2)
theorem p_51 (hn : 100 ≤ n) (hs : Short d) : s_51 n d = some (bif decide (err d true = 0) then (bif eachB (wsP d) then (bestS (wsP d), rn 0 (bestS (wsP d)), 0) else ([], 0, 5)) else ([], 0, err d true)) := by
 unfold s_51
 rw [p_84 hn hs, Option.bind_some]
 by_cases he : err d true = 0
 ·obtain ⟨h1, _, hne⟩ := err_zero he
  have hd := okD_iff.1 h1
  have hbt := hd.btl
  have hl : (wsP d).length < 6 := by rw [wsP_len]; omega
  have hin := wsP_in hd
  simp only [he, decide_true, Bool.not_true, cond_true, if_neg (show ¬ (false = true) by simp)]
  rw [p_98 hd hn hne, Option.bind_some, p_124 hn _ hl hin, Option.bind_some]
  cases hea : eachB (wsP d) with
  | false => rfl
  | true =>
   obtain ⟨x, l, hf⟩ := best_some hl hin hea
   have hlen : d.batches.length = (wsP d).length := wsP_len.symm
   have h6 : 6 ^ (wsP d).length ≤ 6 ^ 5 := Nat.pow_le_pow_right (by omega) (by omega)
   have hall : ∀ z, (z = x ∨ z ∈ l) → Way z ∧ z.length = (wsP d).length := by
    intro z hz
    have hz : z ∈ (extL (wsP d).length []).filter (sortsB (wsP d)) := by rw [hf]; simpa using hz
    obtain ⟨a, b⟩ := ext_mem _ [] z Way.nil (List.mem_filter.1 hz).1
    exact ⟨a, by simpa using b⟩
   have hmany : ∀ z, (z = x ∨ z ∈ l) → s_127 n z = some (rn 0 z) := by
    intro z hz
    obtain ⟨a, b⟩ := hall z hz
    exact p_127 hn (by omega) (by intro e; rw [e] at b; simp at b; omega) a
   have hln : l.length ≤ 60 := by
    have h1 := List.length_filter_le (sortsB (wsP d)) (extL (wsP d).length [])
    have h2 := of_decide_eq_true (List.all_eq_true.1 ext_few (wsP d).length (List.mem_range.2 hl))
    rw [hf, List.length_cons] at h1
    omega
   have hbest : bestS (wsP d) = least ltR x l := by unfold bestS; rw [hf]
   have h125 := p_125 hn (wsP d) hl hlen (wsP d).length n [] [] (by simp) (by omega) Way.nil (by simp; omega)
   rw [List.nil_append, hf] at h125
   have h129 := p_129 hn ltR (fun y z => s_130 n y z (fun v => s_127 n v)) x l (by omega) (by omega) (fun y z hy hz => by
    unfold s_130
    show ((s_127 n y).bind fun v101 => (s_127 n z).bind fun v102 => some (decide (v101 < v102))) = _
    rw [hmany y hy, Option.bind_some, hmany z hz, Option.bind_some]
    rfl)
   have hbm : least ltR x l = x ∨ least ltR x l ∈ l := least_mem ltR l x
   simp only [Bool.not_true, if_neg (show ¬ (false = true) by simp), cond_true]
   rw [h125, Option.bind_some, h129, Option.bind_some]
   show (s_127 n (least ltR x l)).bind _ = _
   rw [hmany _ hbm, Option.bind_some, hbest]
 ·simp only [decide_eq_false he, Bool.not_false, cond_true, cond_false, if_true]
end
end Go.Proofs.YtohmhlkdgfcaeaaGreatDoor
namespace Go.Proofs.YtohmhlkdgfcaeaaGreatDoor
open Go Go.RowKit
section
variable {n : Nat} {d : Drum}
theorem way_num {l : List Int} (h : Way l) (hl : l.length ≤ 50) : ∀ x ∈ l, 0 ≤ x ∧ x ≤ 1000 := by
 intro x hx
 have h1 := h.nn x hx
 have h2 := rn_max l 0 x hx
 have h3 := h.rn
 omega
end
end Go.Proofs.YtohmhlkdgfcaeaaGreatDoor
namespace Go.Proofs.YtohmhlkdgfcaeaaGreatDoor
open Go Go.RowKit
def prB (w : List Span) (a b : Int) : Bool := decide (cap (w.getD a.toNat default) (w.getD b.toNat default)).ne
def apG (w : List Span) : List Int → List Int → Bool
 | _, [] => true
 | pre, a :: r => pre.all (fun b => !prB w a b) && apG w (pre ++ [a]) r
theorem pickF_mem {set : Int} : ∀ (w : List Span) (k : Nat) (s : Span), s ∈ pickF set k w ↔ ∃ i, w[i]? = some s ∧ hasB set (k + i) = true := by
 intro w
 induction w with
 | nil =>
  intro k s
  constructor
  ·intro h; cases h
  ·rintro ⟨i, h, _⟩; simp at h
 | cons t r ih =>
  intro k s
  have h1 := ih (k + 1) s
  rw [pickF]
  constructor
  ·intro h
   by_cases hb : hasB set k = true
   ·rw [if_pos hb] at h
    rcases List.mem_cons.1 h with rfl | h
    ·exact ⟨0, rfl, hb⟩
    ·obtain ⟨i, a, b⟩ := h1.1 h
     exact ⟨i + 1, a, by rw [show k + (i + 1) = k + 1 + i by omega]; exact b⟩
   ·rw [if_neg hb] at h
    obtain ⟨i, a, b⟩ := h1.1 h
    exact ⟨i + 1, a, by rw [show k + (i + 1) = k + 1 + i by omega]; exact b⟩
  ·rintro ⟨i, a, b⟩
   cases i with
   | zero =>
    have a : t = s := by simpa using a
    rw [if_pos (by simpa using b), a]
    exact List.mem_cons_self
   | succ i =>
    have := h1.2 ⟨i, by simpa using a, by rw [show k + 1 + i = k + (i + 1) by omega]; exact b⟩
    by_cases hb : hasB set k = true
    ·rw [if_pos hb]; exact List.mem_cons_of_mem _ this
    ·rw [if_neg hb]; exact this
theorem two_bits : ∀ a : Nat, a < 6 → ∀ b : Nat, b < 6 → 0 ≤ bits .or .i64 ((2 : Int) ^ a) (2 ^ b) ∧ bits .or .i64 ((2 : Int) ^ a) (2 ^ b) ≤ 63 ∧ ∀ i : Nat, i < 6 → hasB (bits .or .i64 ((2 : Int) ^ a) (2 ^ b)) i = (decide (i = a) || decide (i = b)) := by decide
theorem pair_com {w : List Span} (hw : w.length < 6) (hin : InH w) {a b : Nat} (ha : a < w.length) (hb : b < w.length) : (com w (bits .or .i64 ((2 : Int) ^ a) (2 ^ b))).ne ↔ (cap w[a] w[b]).ne := by
 obtain ⟨_, _, h3⟩ := two_bits a (by omega) b (by omega)
 have i1 := hin _ (List.getElem_mem ha)
 have i2 := hin _ (List.getElem_mem hb)
 constructor
 ·intro h
  obtain ⟨⟨_, _⟩, h2⟩ := mem_capL.1 (ne_mem h).1
  have e1 := h2 w[a] ((pickF_mem w 0 _).2 ⟨a, List.getElem?_eq_getElem ha, by rw [Nat.zero_add, h3 a (by omega)]; simp⟩)
  have e2 := h2 w[b] ((pickF_mem w 0 _).2 ⟨b, List.getElem?_eq_getElem hb, by rw [Nat.zero_add, h3 b (by omega)]; simp⟩)
  simp only [Span.mem, Span.ne, cap] at *
  omega
 ·intro h
  have hm : (com w (bits .or .i64 ((2 : Int) ^ a) (2 ^ b))).mem (cap w[a] w[b]).low := by
   refine mem_capL.2 ⟨?_, fun s hs => ?_⟩
   ·simp only [Span.mem, Span.ne, cap] at *
    omega
   ·obtain ⟨i, hi, hh⟩ := (pickF_mem w 0 s).1 hs
    have hil := (List.getElem?_eq_some_iff.1 hi).1
    rw [Nat.zero_add, h3 i (by omega)] at hh
    rw [Bool.or_eq_true, decide_eq_true_eq, decide_eq_true_eq] at hh
    rcases hh with rfl | rfl
    ·rw [List.getElem?_eq_getElem ha] at hi
     cases hi
     simp only [Span.mem, Span.ne, cap] at *
     omega
    ·rw [List.getElem?_eq_getElem hb] at hi
     cases hi
     simp only [Span.mem, Span.ne, cap] at *
     omega
  exact mem_ne hm
def ltA (a b : List Int) : Bool := decide (b.length < a.length) || (decide (a.length = b.length) && decide (lexC a b = -1))
theorem ltA_irr (a : List Int) : ltA a a = false := by
 unfold ltA
 rw [lexC_refl]
 simp
theorem ltA_tot (a b : List Int) (h : a ≠ b) : ltA a b = true ∨ ltA b a = true := by
 unfold ltA
 simp only [Bool.or_eq_true, Bool.and_eq_true, decide_eq_true_eq]
 rcases Nat.lt_trichotomy a.length b.length with h1 | h1 | h1
 ·exact .inr (.inl h1)
 ·rcases lexC_three a b with h2 | h2 | h2
  ·exact .inl (.inr ⟨h1, h2.1⟩)
  ·exact .inr (.inr ⟨h1.symm, h2.2⟩)
  ·exact absurd h2.1 h
 ·exact .inl (.inl h1)
theorem ltA_trans (a b c : List Int) (h : ltA a b = true) (h' : ltA b c = true) : ltA a c = true := by
 unfold ltA at *
 simp only [Bool.or_eq_true, Bool.and_eq_true, decide_eq_true_eq] at *
 rcases h with h | ⟨h, h2⟩
 ·rcases h' with h' | ⟨h', _⟩
  ·exact .inl (by omega)
  ·exact .inl (by omega)
 ·rcases h' with h' | ⟨h', h3⟩
  ·exact .inl (by omega)
  ·exact .inr ⟨by omega, lexC_trans a b c h2 h3⟩
def allDesc (m : Nat) : List (List Int) := (List.range (m + 1)).flatMap fun k => listsOf m (m - k)
theorem desc_sorted : ((List.range 6).all fun m => sortedB ltA (allDesc m)) = true := by kernel_rfl
theorem desc_same : ((List.range 6).all fun m => (allDesc m).all (fun l => (allSets m).contains l) && (allSets m).all (fun l => (allDesc m).contains l)) = true := by kernel_rfl
theorem desc_mem {m : Nat} (hm : m < 6) (z : List Int) : z ∈ allSets m ↔ z ∈ allDesc m := by
 have h := List.all_eq_true.1 desc_same m (List.mem_range.2 hm)
 rw [Bool.and_eq_true, List.all_eq_true, List.all_eq_true] at h
 constructor
 ·intro hz
  have := h.2 z hz
  simpa using this
 ·intro hz
  have := h.1 z hz
  simpa using this
theorem best_filterA {m : Nat} (hm : m < 6) (p : List Int → Bool) {x y : List Int} {l r : List (List Int)} (h1 : (allSets m).filter p = x :: l) (h2 : (allDesc m).filter p = y :: r) : least ltA x l = y := by
 refine least_head ltA ltA_trans ltA_irr ltA_tot (fun z => ?_) ?_ (r := r)
 ·have e1 : (z = x ∨ z ∈ l) ↔ z ∈ (allSets m).filter p := by rw [h1]; simp
  have e2 : (z = y ∨ z ∈ r) ↔ z ∈ (allDesc m).filter p := by rw [h2]; simp
  rw [e1, e2, List.mem_filter, List.mem_filter, desc_mem hm]
 ·have h := sorted_filter ltA p _ (List.all_eq_true.1 desc_sorted m (List.mem_range.2 hm))
  rw [h2, sortedB, Bool.and_eq_true, List.all_eq_true] at h
  exact h.1
def firstA (w : List Span) : List Int := ((allDesc w.length).filter (apG w [])).headD []
theorem lists_nums : ((List.range 6).all fun m => (allLists m).all fun l => l.all fun x => decide (0 ≤ x) && decide (x < (m : Int))) = true := by kernel_rfl
theorem lists_nil : ((List.range 6).all fun m => (allDesc m).contains []) = true := by kernel_rfl
theorem nums {m : Nat} (hm : m < 6) {l : List Int} (h : l ∈ allLists m) : ∀ x ∈ l, 0 ≤ x ∧ x < m := by
 intro x hx
 have := List.all_eq_true.1 (List.all_eq_true.1 (List.all_eq_true.1 lists_nums m (List.mem_range.2 hm)) l h) x hx
 rw [Bool.and_eq_true, decide_eq_true_eq, decide_eq_true_eq] at this
 exact this
section
variable {n : Nat} {d : Drum}
theorem p_132 (hn : 100 ≤ n) (a b : List Int) (hl : a.length ≤ 50) : s_132 n a b = some (ltA a b) := by
 unfold s_132 ltA
 rw [p_133 hn a b hl, Option.bind_some]
 have e : decide (lexC a b < 0) = decide (lexC a b = -1) := by
  rw [decide_eq_decide]
  rcases lexC_three a b with h | h | h <;> omega
 rw [e]
 by_cases h1 : b.length < a.length
 ·rw [decide_eq_true h1, decide_eq_true (show ((b.length : Nat) : Int) < ((a.length : Nat) : Int) by omega)]; rfl
 ·rw [decide_eq_false h1, decide_eq_false (show ¬ ((b.length : Nat) : Int) < ((a.length : Nat) : Int) by omega)]
  by_cases h2 : a.length = b.length
  ·rw [decide_eq_true h2, decide_eq_true (show ((a.length : Nat) : Int) = ((b.length : Nat) : Int) by omega)]; rfl
  ·rw [decide_eq_false h2, decide_eq_false (show ¬ ((a.length : Nat) : Int) = ((b.length : Nat) : Int) by omega)]; rfl
theorem p_52_17 (hn : 100 ≤ n) (w : List Span) (hw : w.length < 6) (hin : InH w) (K1 : Int → List (List Int) → Option (List Int × Int)) (K14 : Int → Option (List Int × Int)) (c : Int) (acc : List (List Int)) (i a : Int) (ha : 0 ≤ a ∧ a < w.length)
  (hc : 0 ≤ c ∧ c ≤ 1000) (hi : 0 ≤ i ∧ i ≤ 1000) (pre : List Int) (hp : pre.length ≤ 50) (h0 : ∀ x ∈ pre, 0 ≤ x ∧ x < w.length) : s_52_l17 n K1 K14 ⟨w⟩ c acc i a pre n 0 = bif pre.all (fun b => !prB w a b) then K14 (i + 1) else K1 (c + 1) acc := by
 have key : ∀ (r : List Int) (j k : Nat), pre.drop j = r → j ≤ pre.length → pre.length < k + j → s_52_l17 n K1 K14 ⟨w⟩ c acc i a pre k (j : Int) = bif r.all (fun b => !prB w a b) then K14 (i + 1) else K1 (c + 1) acc := by
  intro r
  induction r with
  | nil =>
   intro j k hj h2 hk
   have hil : pre.length ≤ j := List.drop_eq_nil_iff.1 hj
   obtain ⟨k, rfl⟩ : ∃ k', k = k' + 1 := ⟨k - 1, by omega⟩
   rw [s_52_l17, decide_eq_false (by omega), cond_false, wr_of (by omega)]
   rfl
  | cons b r ih =>
   intro j k hj h2 hk
   have hjl : j < pre.length := by
    rcases Nat.lt_or_ge j pre.length with h | h
    ·exact h
    ·rw [List.drop_eq_nil_of_le h] at hj; cases hj
   obtain ⟨k, rfl⟩ : ∃ k', k = k' + 1 := ⟨k - 1, by omega⟩
   rw [List.drop_eq_getElem_cons hjl] at hj
   obtain ⟨hx, hr⟩ := List.cons.inj hj
   have hb := h0 b (by rw [← hx]; exact List.getElem_mem hjl)
   obtain ⟨x, rfl⟩ := Int.eq_ofNat_of_zero_le ha.1
   obtain ⟨y, rfl⟩ := Int.eq_ofNat_of_zero_le hb.1
   have hxw : x < w.length := by omega
   have hyw : y < w.length := by omega
   obtain ⟨t1, t2, _⟩ := two_bits x (by omega) y (by omega)
   have := ih (j + 1) k hr (by omega) (by omega)
   push_cast at this
   have ep : decide (com w (bits .or .i64 ((2 : Int) ^ x) (2 ^ y))).ne = prB w (x : Int) (y : Int) := by
    unfold prB
    have e1 : ((x : Nat) : Int).toNat = x := by omega
    have e2 : ((y : Nat) : Int).toNat = y := by omega
    rw [decide_eq_decide, pair_com hw hin hxw hyw, e1, e2, List.getD_eq_getElem?_getD, List.getD_eq_getElem?_getD, List.getElem?_eq_getElem hxw, List.getElem?_eq_getElem hyw]
    exact Iff.rfl
   rw [s_52_l17, decide_eq_true (by omega), cond_true, ix_at (List.getElem?_eq_getElem hjl), Option.bind_some, hx, shl_one (by omega), Option.bind_some, shl_one (by omega), Option.bind_some, p_99 hn w (by omega) t1 t2, Option.bind_some, ep, wr_of (by omega), wr_of (by omega), this, List.all_cons]
   cases prB w (x : Int) (y : Int) <;> rfl
 exact key pre 0 n (by simp) (by omega) (by omega)
theorem p_52_14 (hn : 100 ≤ n) (w : List Span) (hw : w.length < 6) (hin : InH w) (K1 : Int → List (List Int) → Option (List Int × Int)) (c : Int) (hc : 0 ≤ c ∧ c ≤ 1000) (acc : List (List Int)) (hacc : acc.length ≤ 1000) (l : List Int) (hl : l.length ≤ 50) (h0 : ∀ x ∈ l, 0 ≤ x ∧ x < w.length) :
  s_52_l14 n K1 ⟨w⟩ c acc l n 0 = bif apG w [] l then K1 (c + 1) (acc ++ [l]) else K1 (c + 1) acc := by
 have key : ∀ (r : List Int) (i k : Nat), l.drop i = r → i ≤ l.length → l.length < k + i → s_52_l14 n K1 ⟨w⟩ c acc l k (i : Int) = bif apG w (l.take i) r then K1 (c + 1) (acc ++ [l]) else K1 (c + 1) acc := by
  intro r
  induction r with
  | nil =>
   intro i k hi h2 hk
   have hil : l.length ≤ i := List.drop_eq_nil_iff.1 hi
   obtain ⟨k, rfl⟩ : ∃ k', k = k' + 1 := ⟨k - 1, by omega⟩
   rw [s_52_l14, decide_eq_false (by omega), cond_false, app_of (by simp; omega), Option.bind_some, wr_of (by omega)]
   rfl
  | cons x r ih =>
   intro i k hi h2 hk
   have hil : i < l.length := by
    rcases Nat.lt_or_ge i l.length with h | h
    ·exact h
    ·rw [List.drop_eq_nil_of_le h] at hi; cases hi
   obtain ⟨k, rfl⟩ : ∃ k', k = k' + 1 := ⟨k - 1, by omega⟩
   rw [List.drop_eq_getElem_cons hil] at hi
   obtain ⟨hx, hr⟩ := List.cons.inj hi
   have hsub : subl l 0 (i : Int) = some (l.take i) := by
    unfold subl
    rw [decide_eq_true (by omega), decide_eq_true (by omega), decide_eq_true (by omega)]
    simp
   have h2 := ih (i + 1) k hr (by omega) (by omega)
   push_cast at h2
   have htake : l.take (i + 1) = l.take i ++ [x] := by
    rw [List.take_add_one, List.getElem?_eq_getElem hil, hx]; rfl
   rw [s_52_l14, decide_eq_true (by omega), cond_true, ix_at (List.getElem?_eq_getElem hil), Option.bind_some, hx, hsub, Option.bind_some, p_52_17 hn w hw hin _ _ c acc (i : Int) x (h0 x (by rw [← hx]; exact List.getElem_mem hil)) hc (by omega) (l.take i) (by rw [List.length_take]; omega) (fun y hy => h0 y (List.mem_of_mem_take hy)), h2, htake, apG]
   cases (l.take i).all (fun b => !prB w x b) <;> rfl
 have := key l 0 n (by simp) (by omega) (by omega)
 rw [List.take_zero] at this
 exact this
theorem p_52_l1 (w : List Span) (hw : w.length < 6) (hin : InH w) : s_52_l1 1000 ⟨w⟩ (2 ^ w.length - 1) 1000 0 [] = some (firstA w, 0) := by
 have hn : 100 ≤ 1000 := by omega
 have hpw : (2 : Int) ^ w.length = ((2 ^ w.length : Nat) : Int) := by push_cast; rfl
 have hp64 : 2 ^ w.length ≤ 64 := by
  have := Nat.pow_le_pow_right (show 0 < 2 by omega) (show w.length ≤ 6 by omega)
  simpa using this
 have hfin : (s_129 1000 ((allSets w.length).filter (apG w [])) (fun z0 z1 => s_132 1000 z0 z1)).bind (fun v => some (v.1, (0 : Int))) = some (firstA w, 0) := by
  have hnil : [] ∈ (allDesc w.length).filter (apG w []) := List.mem_filter.2 ⟨by simpa using List.all_eq_true.1 lists_nil w.length (List.mem_range.2 hw), rfl⟩
  cases h2 : (allDesc w.length).filter (apG w []) with
  | nil => rw [h2] at hnil; cases hnil
  | cons y r =>
   cases h1 : (allSets w.length).filter (apG w []) with
   | nil =>
    rw [List.mem_filter, ← desc_mem hw, ← List.mem_filter, h1] at hnil
    cases hnil
   | cons x l =>
    have hlen : l.length ≤ 100 := by
     have e1 := List.length_filter_le (apG w []) (allSets w.length)
     rw [h1] at e1
     simp only [List.length_cons, allSets, List.length_map, List.length_range] at e1
     omega
    have hall : ∀ z, (z = x ∨ z ∈ l) → z.length ≤ 50 := by
     intro z hz
     have hz : z ∈ (allSets w.length).filter (apG w []) := by rw [h1]; simpa using hz
     have hz := (List.mem_filter.1 hz).1
     unfold allSets at hz
     obtain ⟨s, hs, rfl⟩ := List.mem_map.1 hz
     exact (sets_ok' hw (List.mem_range.1 hs)).2.1
    rw [p_129 hn ltA _ x l (by omega) (by omega) (fun y z hy hz => p_132 hn y z (hall y hy)), Option.bind_some, best_filterA hw (apG w []) h1 h2]
    unfold firstA
    rw [h2]
    rfl
 have key : ∀ (r k f : Nat) (acc : List (List Int)), k + r = 2 ^ w.length → r < f → acc.length ≤ k → s_52_l1 1000 ⟨w⟩ (2 ^ w.length - 1) f (k : Int) acc = (s_129 1000 (acc ++ ((List.range' k r).map memb).filter (apG w [])) (fun z0 z1 => s_132 1000 z0 z1)).bind (fun v => some (v.1, (0 : Int))) := by
  intro r
  induction r with
  | zero =>
   intro k f acc hk hf ha
   obtain ⟨f, rfl⟩ : ∃ f', f = f' + 1 := ⟨f - 1, by omega⟩
   rw [s_52_l1, wr_of (by omega), decide_eq_false (by rw [hpw]; omega), cond_false]
   simp
  | succ r ih =>
   intro k f acc hk hf ha
   obtain ⟨f, rfl⟩ : ∃ f', f = f' + 1 := ⟨f - 1, by omega⟩
   have hks : k < 2 ^ w.length := by omega
   obtain ⟨b1, b2, _, _⟩ := sets_ok' hw hks
   have hm : memb k ∈ allLists w.length := (lists_mem hw _).1 (List.mem_map.2 ⟨k, List.mem_range.2 hks, rfl⟩)
   have i1 := ih (k + 1) f acc (by omega) (by omega) (by omega)
   have i2 := ih (k + 1) f (acc ++ [memb k]) (by omega) (by omega) (by simp; omega)
   push_cast at i1 i2
   rw [s_52_l1, wr_of (by omega), decide_eq_true (by rw [hpw]; omega), cond_true, b1, Option.bind_some, p_52_14 hn w hw hin _ (k : Int) (by omega) acc (by omega) (memb k) b2 (nums hw hm), i1, i2, List.range'_succ, List.map_cons, List.filter_cons]
   cases apG w [] (memb k) with
   | false => rfl
   | true => simp
 have := key (2 ^ w.length) 0 1000 [] (by omega) (by omega) (by simp)
 rw [← List.range_eq_range', List.nil_append] at this
 exact this.trans hfin
theorem p_52 (hs : Short d) : s_52 1000 d = some (bif decide (err d true = 0) then (bif eachB (wsP d) then (firstA (wsP d), 0) else ([], 5)) else ([], err d true)) := by
 have hn : 100 ≤ 1000 := by omega
 unfold s_52
 rw [p_84 hn hs, Option.bind_some]
 by_cases he : err d true = 0
 ·obtain ⟨h1, _, hne⟩ := err_zero he
  have hd := okD_iff.1 h1
  have hbt := hd.btl
  have hl : (wsP d).length < 6 := by rw [wsP_len]; omega
  have hin := wsP_in hd
  simp only [he, decide_true, Bool.not_true, cond_true, cond_false]
  rw [p_98 hd hn hne, Option.bind_some, p_124 hn _ hl hin, Option.bind_some, p_100 1000 _ (by omega), Option.bind_some, p_52_l1 _ hl hin]
  cases eachB (wsP d) <;> rfl
 ·simp only [decide_eq_false he, Bool.not_false, cond_true, cond_false]
end
end Go.Proofs.YtohmhlkdgfcaeaaGreatDoor
namespace Go.Proofs.YtohmhlkdgfcaeaaGreatDoor
open Go Go.RowKit
def numB (d : Drum) (l : List Int) : Bool := l.all (fun x => inb x 0 ((d.batches.length : Int) - 1)) && decide (l.length = d.batches.length)
section
variable {n : Nat} {d : Drum}
theorem p_53 (hn : 1 ≤ n) (d : Drum) (l : List Int) (hl : l.length ≤ 9223372036854775807) (hd : d.batches.length ≤ 50) : s_53 n d l = some (numB d l) := by
 unfold s_53 numB
 have key : ∀ (r : List Int) (i k : Nat), l.drop i = r → i ≤ l.length → l.length < k + i → s_53_l1 n d l k (i : Int) = some (r.all (fun x => inb x 0 ((d.batches.length : Int) - 1)) && decide (l.length = d.batches.length)) := by
  intro r
  induction r with
  | nil =>
   intro i k hi h2 hk
   have hil : l.length ≤ i := List.drop_eq_nil_iff.1 hi
   obtain ⟨k, rfl⟩ : ∃ k', k = k' + 1 := ⟨k - 1, by omega⟩
   have e : decide (((l.length : Nat) : Int) = ((d.batches.length : Nat) : Int)) = decide (l.length = d.batches.length) := by rw [decide_eq_decide]; omega
   rw [s_53_l1, decide_eq_false (by omega), cond_false, e]
   rfl
  | cons x r ih =>
   intro i k hi h2 hk
   have hil : i < l.length := by
    rcases Nat.lt_or_ge i l.length with h | h
    ·exact h
    ·rw [List.drop_eq_nil_of_le h] at hi; cases hi
   obtain ⟨k, rfl⟩ : ∃ k', k = k' + 1 := ⟨k - 1, by omega⟩
   rw [List.drop_eq_getElem_cons hil] at hi
   obtain ⟨hx, hr⟩ := List.cons.inj hi
   have := ih (i + 1) k hr (by omega) (by omega)
   push_cast at this
   rw [s_53_l1, decide_eq_true (by omega), cond_true, ix_at (List.getElem?_eq_getElem hil), Option.bind_some, hx, p_103, wr_of (show -9223372036854775808 ≤ ((d.batches.length : Nat) : Int) - 1 ∧ ((d.batches.length : Nat) : Int) - 1 ≤ 9223372036854775807 by omega), Option.bind_some, wr_of (by omega), this, List.all_cons]
   cases inb x 0 ((d.batches.length : Int) - 1) <;> rfl
 have := key l 0 (n + l.length) (by simp) (by omega) (by omega)
 exact this
theorem num_spec {l : List Int} (h : numB d l = true) : (∀ x ∈ l, 0 ≤ x ∧ x < d.batches.length) ∧ l.length = d.batches.length := by
 unfold numB at h
 rw [Bool.and_eq_true, List.all_eq_true, decide_eq_true_eq] at h
 refine ⟨fun x hx => ?_, h.2⟩
 have := h.1 x hx
 unfold inb at this
 simp only [Bool.and_eq_true, decide_eq_true_eq] at this
 omega
theorem p_50 (hn : 100 ≤ n) (hs : Short d) (l : List Int) (hl : l.length ≤ 50) : s_50 n d l = some (bif decide (err d (numB d l) = 0) then (sortsB (wsP d) l, 0) else (false, err d (numB d l))) := by
 have hbs := hs.e
 have hj : ∀ fine : Bool, fine = numB d l → (s_84 n d fine).bind (fun v => s_50_j3 n d l v.1 v.2) = some (bif decide (err d (numB d l) = 0) then (sortsB (wsP d) l, 0) else (false, err d (numB d l))) := by
  intro fine hf
  subst hf
  rw [p_84 hn hs, Option.bind_some]
  unfold s_50_j3
  by_cases he : err d (numB d l) = 0
  ·obtain ⟨h1, h2, hne⟩ := err_zero he
   have hd := okD_iff.1 h1
   have hbt := hd.btl
   obtain ⟨n1, n2⟩ := num_spec h2
   have hw : (wsP d).length < 6 := by rw [wsP_len]; omega
   simp only [he, decide_true, Bool.not_true, cond_true, cond_false]
   rw [p_98 hd hn hne, Option.bind_some, p_123 hn _ hw l (by omega) (fun x hx => (n1 x hx).1), Option.bind_some]
  ·simp only [decide_eq_false he, Bool.not_false, cond_true, cond_false]
 unfold s_50
 by_cases hlen : l.length = d.batches.length
 ·rw [decide_eq_true (show ((l.length : Nat) : Int) = ((d.batches.length : Nat) : Int) by omega), cond_true, p_121 hn l hl _ (fun x => !inb x 0 ((d.batches.length : Int) - 1)) (fun x _ => by unfold s_122; rw [p_87, Option.bind_some, wr_of (by omega)]), Option.bind_some]
  refine hj _ ?_
  rw [all_any l (fun x => inb x 0 ((d.batches.length : Int) - 1))]
  unfold numB
  rw [decide_eq_true hlen, Bool.and_true]
 ·rw [decide_eq_false (show ¬ ((l.length : Nat) : Int) = ((d.batches.length : Nat) : Int) by omega), cond_false]
  refine hj false ?_
  unfold numB
  rw [decide_eq_false hlen, Bool.and_false]
theorem firstA_mem {w : List Span} (hw : w.length < 6) : firstA w ∈ allDesc w.length ∧ apG w [] (firstA w) = true := by
 have hnil : [] ∈ (allDesc w.length).filter (apG w []) := List.mem_filter.2 ⟨by simpa using List.all_eq_true.1 lists_nil w.length (List.mem_range.2 hw), rfl⟩
 unfold firstA
 cases h : (allDesc w.length).filter (apG w []) with
 | nil => rw [h] at hnil; cases hnil
 | cons y r =>
  have hy : y ∈ (allDesc w.length).filter (apG w []) := by rw [h]; exact List.mem_cons_self
  exact List.mem_filter.1 hy
theorem firstA_ris {w : List Span} (hw : w.length < 6) : risB w.length (-1) (firstA w) = true := (ris_mem hw).2 ((lists_mem hw _).1 ((desc_mem hw _).2 (firstA_mem hw).1))
theorem firstA_len {w : List Span} (hw : w.length < 6) : (firstA w).length ≤ w.length := by
 by_cases h0 : w.length = 0
 ·have h := firstA_ris hw
  cases hf : firstA w with
  | nil => simp
  | cons x r =>
   rw [hf, h0] at h
   obtain ⟨h1, h2, _⟩ := risB_cons.1 h
   omega
 ·have := risB_len _ (-1) (firstA_ris hw) (by omega) (by omega)
  omega
theorem bestS_way {w : List Span} (hw : w.length < 6) (hin : InH w) (he : eachB w = true) : Way (bestS w) ∧ (bestS w).length = w.length := by
 obtain ⟨a, b⟩ := ext_mem w.length [] _ Way.nil (best_spec hw hin he).1
 exact ⟨a, by simpa using b⟩
end
end Go.Proofs.YtohmhlkdgfcaeaaGreatDoor
namespace Go.Proofs.YtohmhlkdgfcaeaaGreatDoor
open Go Go.RowKit
theorem nodup_sub {α : Type} [BEq α] [LawfulBEq α] : ∀ (A B : List α), A.Nodup → (∀ x ∈ A, x ∈ B) → A.length ≤ B.length := by
 intro A
 induction A with
 | nil => intro B _ _; simp
 | cons a A ih =>
  intro B hn hs
  obtain ⟨h1, h2⟩ := List.nodup_cons.1 hn
  have ha := hs a List.mem_cons_self
  have := ih (B.erase a) h2 (fun x hx => by
   have hne : x ≠ a := fun e => h1 (e ▸ hx)
   exact (List.mem_erase_of_ne hne).2 (hs x (List.mem_cons_of_mem _ hx)))
  rw [List.length_erase_of_mem ha] at this
  have := List.length_pos_of_mem ha
  rw [List.length_cons]
  omega
def ptOf (P : List Int) (s : Span) : Int := (P.find? (fun x => decide (s.mem x))).getD 0
theorem pt_spec {P : List Int} {s : Span} (h : ∃ x ∈ P, s.mem x) : ptOf P s ∈ P ∧ s.mem (ptOf P s) := by
 unfold ptOf
 cases hf : P.find? (fun x => decide (s.mem x)) with
 | none =>
  obtain ⟨x, h1, h2⟩ := h
  have := List.find?_eq_none.1 hf x h1
  simp [h2] at this
 | some x =>
  have h2 := List.find?_some (p := fun x => decide (s.mem x)) hf
  exact ⟨List.mem_of_find?_eq_some hf, of_decide_eq_true h2⟩
def idxI : List Int → Int → Nat
 | [], _ => 0
 | y :: r, x => bif decide (y = x) then 0 else idxI r x + 1
theorem idx_spec : ∀ (l : List Int) (x : Int), x ∈ l → l[idxI l x]? = some x := by
 intro l
 induction l with
 | nil => intro x h; cases h
 | cons y r ih =>
  intro x h
  rw [idxI]
  by_cases e : y = x
  ·rw [decide_eq_true e, cond_true, e]; rfl
  ·rw [decide_eq_false e, cond_false, List.getElem?_cons_succ]
   rcases List.mem_cons.1 h with h | h
   ·exact absurd h.symm e
   ·exact ih x h
def canon (P : List Int) : List Int → List Span → List Int
 | _, [] => []
 | seen, s :: r => bif seen.contains (ptOf P s) then (idxI seen (ptOf P s) : Int) :: canon P seen r else (seen.length : Int) :: canon P (seen ++ [ptOf P s]) r
def finP (P : List Int) : List Int → List Span → List Int
 | seen, [] => seen
 | seen, s :: r => bif seen.contains (ptOf P s) then finP P seen r else finP P (seen ++ [ptOf P s]) r
theorem fin_pre (P : List Int) : ∀ (w : List Span) (seen : List Int) (v : Nat), v < seen.length → (finP P seen w)[v]? = seen[v]? := by
 intro w
 induction w with
 | nil => intro seen v _; rfl
 | cons s r ih =>
  intro seen v hv
  rw [finP]
  cases seen.contains (ptOf P s) with
  | true => rw [cond_true]; exact ih seen v hv
  | false =>
   rw [cond_false, ih _ v (by simp; omega), List.getElem?_append_left hv]
theorem canon_spec (P : List Int) : ∀ (w : List Span) (seen : List Int), (∀ s ∈ w, ∃ x ∈ P, s.mem x) → seen.Nodup → (∀ x ∈ seen, x ∈ P) →
  rgB seen.length (canon P seen w) = true ∧ rn seen.length (canon P seen w) = (finP P seen w).length ∧ (canon P seen w).length = w.length ∧ (∀ x ∈ canon P seen w, 0 ≤ x) ∧ (finP P seen w).Nodup ∧ (∀ x ∈ finP P seen w, x ∈ P) ∧
  ∀ (v : Nat) (s : Span), s ∈ pickV (v : Int) (canon P seen w) w → ∃ x, (finP P seen w)[v]? = some x ∧ s.mem x := by
 intro w
 induction w with
 | nil =>
  intro seen _ h1 h2
  exact ⟨rfl, rfl, rfl, by simp [canon], h1, h2, fun v s h => by cases h⟩
 | cons s r ih =>
  intro seen hp h1 h2
  obtain ⟨p1, p2⟩ := pt_spec (hp s List.mem_cons_self)
  have hp2 : ∀ s ∈ r, ∃ x ∈ P, s.mem x := fun t ht => hp t (List.mem_cons_of_mem _ ht)
  rw [canon, finP]
  cases hc : seen.contains (ptOf P s) with
  | true =>
   have hm : ptOf P s ∈ seen := by simpa using hc
   have hi := idx_spec seen _ hm
   have hlt := (List.getElem?_eq_some_iff.1 hi).1
   obtain ⟨a1, a2, a3, a4, a5, a6, a7⟩ := ih seen hp2 h1 h2
   have emax : max (seen.length : Int) ((idxI seen (ptOf P s) : Int) + 1) = (seen.length : Int) := by omega
   rw [cond_true, cond_true]
   refine ⟨?_, ?_, by simp [a3], ?_, a5, a6, ?_⟩
   ·rw [rgB, emax, a1, decide_eq_true (by omega)]; rfl
   ·rw [rn, emax, a2]
   ·intro x hx
    rcases List.mem_cons.1 hx with rfl | hx
    ·omega
    ·exact a4 x hx
   ·intro v t ht
    rw [pickV] at ht
    by_cases e : (idxI seen (ptOf P s) : Int) = (v : Int)
    ·rw [decide_eq_true e, cond_true] at ht
     rcases List.mem_cons.1 ht with rfl | ht
     ·have e2 : idxI seen (ptOf P t) = v := by omega
      subst e2
      exact ⟨_, (fin_pre P r seen _ hlt).trans hi, p2⟩
     ·exact a7 v t ht
    ·rw [decide_eq_false e, cond_false] at ht
     exact a7 v t ht
  | false =>
   have hm : ptOf P s ∉ seen := by
    intro h
    have : seen.contains (ptOf P s) = true := by simpa using h
    rw [this] at hc; cases hc
   have hnd : (seen ++ [ptOf P s]).Nodup := by
    rw [List.nodup_append]
    exact ⟨h1, by simp, fun a ha b hb e => by
     obtain rfl := List.mem_singleton.1 hb
     subst e
     exact hm ha⟩
   have hsub : ∀ x ∈ seen ++ [ptOf P s], x ∈ P := fun x hx => by
    rcases List.mem_append.1 hx with hx | hx
    ·exact h2 x hx
    ·obtain rfl := List.mem_singleton.1 hx; exact p1
   have hl : (seen ++ [ptOf P s]).length = seen.length + 1 := by simp
   obtain ⟨a1, a2, a3, a4, a5, a6, a7⟩ := ih (seen ++ [ptOf P s]) hp2 hnd hsub
   have emax : max (seen.length : Int) ((seen.length : Int) + 1) = ((seen ++ [ptOf P s]).length : Int) := by rw [hl]; push_cast; omega
   rw [cond_false, cond_false]
   refine ⟨?_, ?_, by simp [a3], ?_, a5, a6, ?_⟩
   ·rw [rgB, emax, a1, decide_eq_true (by omega)]; rfl
   ·rw [rn, emax, a2]
   ·intro x hx
    rcases List.mem_cons.1 hx with rfl | hx
    ·omega
    ·exact a4 x hx
   ·intro v t ht
    rw [pickV] at ht
    by_cases e : (seen.length : Int) = (v : Int)
    ·rw [decide_eq_true e, cond_true] at ht
     rcases List.mem_cons.1 ht with rfl | ht
     ·have e2 : seen.length = v := by omega
      subst e2
      exact ⟨_, (fin_pre P r _ _ (by omega)).trans (by simp), p2⟩
     ·exact a7 v t ht
    ·rw [decide_eq_false e, cond_false] at ht
     exact a7 v t ht
theorem way_ext : ∀ (k : Nat) (l z : List Int), Way (l ++ z) → z.length = k → l ++ z ∈ extL k l := by
 intro k
 induction k with
 | zero =>
  intro l z _ hz
  obtain rfl := List.eq_nil_of_length_eq_zero hz
  rw [List.append_nil]
  exact List.mem_cons_self
 | succ k ih =>
  intro l z h hz
  cases z with
  | nil => cases hz
  | cons x z =>
   have e : l ++ x :: z = (l ++ [x]) ++ z := by simp
   rw [e] at h ⊢
   refine List.mem_flatMap.2 ⟨l ++ [x], ?_, ih _ z h (by simpa using hz)⟩
   have hx : 0 ≤ x := h.nn x (by simp)
   have hr : rgB 0 (l ++ [x]) = true := by
    have : ∀ (z l : List Int), rgB 0 (l ++ z) = true → rgB 0 l = true := by
     intro z
     induction z with
     | nil => intro l h; rw [List.append_nil] at h; exact h
     | cons y z ih2 =>
      intro l h
      have e : l ++ y :: z = (l ++ [y]) ++ z := by simp
      rw [e] at h
      have := ih2 _ h
      rw [rgB_app, Bool.and_eq_true] at this
      exact this.1
    exact this z _ h.rg
   rw [rgB_app, Bool.and_eq_true, decide_eq_true_eq] at hr
   unfold stepL
   have hge := rn_ge l 0
   exact List.mem_map.2 ⟨x.toNat, List.mem_range.2 (by omega), by rw [show ((x.toNat : Nat) : Int) = x by omega]⟩
theorem ext_of_way {l : List Int} (h : Way l) : l ∈ extL l.length [] := by
 have := way_ext l.length [] l (by simpa using h) rfl
 simpa using this
theorem sorts_way {w : List Span} {l : List Int} (h : sortsB w l = true) (h0 : ∀ x ∈ l, 0 ≤ x) : Way l := by
 unfold sortsB at h
 rw [Bool.and_eq_true] at h
 exact ⟨h.1, h0⟩
theorem sort_of_pierce {w : List Span} {P : List Int} (hP : Pierce w P) : ∃ l, Way l ∧ l.length = w.length ∧ sortsB w l = true ∧ rn 0 l ≤ P.length := by
 obtain ⟨a1, a2, a3, a4, a5, a6, a7⟩ := canon_spec P w [] hP.2 List.nodup_nil (by simp)
 refine ⟨canon P [] w, ⟨a1, a4⟩, a3, ?_, ?_⟩
 ·unfold sortsB
  rw [show rgB 0 (canon P [] w) = true from a1, Bool.true_and, List.all_eq_true]
  intro v hv
  have hv := List.mem_range.1 hv
  have hv2 : v < (finP P [] w).length := by
   have : rn 0 (canon P [] w) = (finP P [] w).length := a2
   omega
  refine decide_eq_true (meet_iff.1 ⟨(finP P [] w)[v], ?_⟩)
  have hx := hP.1 _ (a6 _ (List.getElem_mem hv2))
  refine ⟨hx.1, hx.2, fun s hs => ?_⟩
  obtain ⟨x, e, hm⟩ := a7 v s hs
  rw [List.getElem?_eq_getElem hv2] at e
  cases e
  exact hm
 ·have : rn 0 (canon P [] w) = (finP P [] w).length := a2
  have := nodup_sub _ P a5 a6
  omega
theorem pick_at : ∀ (l : List Int) (w : List Span) (i : Nat) (s : Span) (v : Int), l[i]? = some v → w[i]? = some s → s ∈ pickV v l w := by
 intro l
 induction l with
 | nil => intro w i s v h _; simp at h
 | cons x r ih =>
  intro w i s v h1 h2
  cases w with
  | nil => simp at h2
  | cons t w =>
   rw [pickV]
   cases i with
   | zero =>
    obtain rfl : x = v := by simpa using h1
    obtain rfl : t = s := by simpa using h2
    rw [decide_eq_true rfl, cond_true]
    exact List.mem_cons_self
   | succ i =>
    have := ih w i s v (by simpa using h1) (by simpa using h2)
    cases decide (x = v) with
    | true => exact List.mem_cons_of_mem _ this
    | false => exact this
theorem pierce_of_sort {w : List Span} {l : List Int} (hl : l.length = w.length) (hs : sortsB w l = true) (h0 : ∀ x ∈ l, 0 ≤ x) : ∃ P, Pierce w P ∧ (P.length : Int) = rn 0 l := by
 unfold sortsB at hs
 rw [Bool.and_eq_true, List.all_eq_true] at hs
 have hge := rn_ge l 0
 refine ⟨(List.range (rn 0 l).toNat).map fun (v : Nat) => (comm (pickV (v : Int) l w)).low, ⟨?_, ?_⟩, by simp; omega⟩
 ·intro x hx
  obtain ⟨v, hv, rfl⟩ := List.mem_map.1 hx
  exact (mem_comm.1 (ne_mem (of_decide_eq_true (hs.2 v hv))).1).1
 ·intro s hs2
  obtain ⟨i, hi, rfl⟩ := List.getElem_of_mem hs2
  have hil : i < l.length := by omega
  have hx0 := h0 _ (List.getElem_mem hil)
  have hx1 := rn_max l 0 _ (List.getElem_mem hil)
  have hv : l[i].toNat ∈ List.range (rn 0 l).toNat := List.mem_range.2 (by omega)
  refine ⟨_, List.mem_map.2 ⟨l[i].toNat, hv, rfl⟩, ?_⟩
  have hm := (mem_comm.1 (ne_mem (of_decide_eq_true (hs.2 _ hv))).1).2
  refine hm _ (pick_at l w i _ _ ?_ (List.getElem?_eq_getElem hi))
  rw [List.getElem?_eq_getElem hil, show ((l[i].toNat : Nat) : Int) = l[i] by omega]
theorem best_pierce {w : List Span} (hw : w.length < 6) (hin : InH w) (he : eachB w = true) {P : List Int} (hP : Pierce w P) : rn 0 (bestS w) ≤ P.length := by
 obtain ⟨l, h1, h2, h3, h4⟩ := sort_of_pierce hP
 have := (best_spec hw hin he).2.2 l (by rw [← h2]; exact ext_of_way h1) h3
 omega
end Go.Proofs.YtohmhlkdgfcaeaaGreatDoor
namespace Go.Proofs.YtohmhlkdgfcaeaaGreatDoor
open Go Go.RowKit
theorem ap_iff (w : List Span) : ∀ (l pre : List Int), apG w pre l = true ↔ (∀ x ∈ l, ∀ b ∈ pre, prB w x b = false) ∧ l.Pairwise (fun a b => prB w b a = false) := by
 intro l
 induction l with
 | nil => intro pre; simp [apG]
 | cons a r ih =>
  intro pre
  rw [apG, Bool.and_eq_true, List.all_eq_true, ih, List.pairwise_cons]
  constructor
  ·rintro ⟨h1, h2, h3⟩
   refine ⟨fun x hx b hb => ?_, fun b hb => h2 b hb a (by simp), h3⟩
   rcases List.mem_cons.1 hx with rfl | hx
   ·have := h1 b hb; simpa using this
   ·exact h2 x hx b (List.mem_append_left _ hb)
  ·rintro ⟨h1, h2, h3⟩
   refine ⟨fun b hb => by rw [h1 a List.mem_cons_self b hb]; rfl, fun x hx b hb => ?_, h3⟩
   rcases List.mem_append.1 hb with hb | hb
   ·exact h1 x (List.mem_cons_of_mem _ hx) b hb
   ·obtain rfl := List.mem_singleton.1 hb; exact h2 x hx
theorem pair_mem {α : Type} {R : α → α → Prop} : ∀ {l : List α}, l.Pairwise R → ∀ {x y : α}, x ∈ l → y ∈ l → x = y ∨ R x y ∨ R y x := by
 intro l
 induction l with
 | nil => intro _ x y h _; cases h
 | cons a r ih =>
  intro h x y hx hy
  obtain ⟨h1, h2⟩ := List.pairwise_cons.1 h
  rcases List.mem_cons.1 hx with e1 | e1
  ·rcases List.mem_cons.1 hy with e2 | e2
   ·exact .inl (e1.trans e2.symm)
   ·rw [e1]; exact .inr (.inl (h1 y e2))
  ·rcases List.mem_cons.1 hy with e2 | e2
   ·rw [e2]; exact .inr (.inr (h1 x e1))
   ·exact ih h2 e1 e2
theorem ris_pair {m : Int} : ∀ (l : List Int) (p : Int), risB m p l = true ↔ (∀ x ∈ l, p < x ∧ x < m) ∧ l.Pairwise (· < ·) := by
 intro l
 induction l with
 | nil => intro p; simp [risB]
 | cons a r ih =>
  intro p
  rw [risB_cons, ih, List.pairwise_cons]
  constructor
  ·rintro ⟨h1, h2, h3, h4⟩
   refine ⟨fun x hx => ?_, fun x hx => (h3 x hx).1, h4⟩
   rcases List.mem_cons.1 hx with rfl | hx
   ·exact ⟨h1, h2⟩
   ·have := h3 x hx; omega
  ·rintro ⟨h1, h2, h3⟩
   have ha := h1 a List.mem_cons_self
   exact ⟨ha.1, ha.2, fun x hx => ⟨h2 x hx, (h1 x (List.mem_cons_of_mem _ hx)).2⟩, h3⟩
theorem getD_some {w : List Span} {i : Nat} {s : Span} (h : w[i]? = some s) : w.getD i default = s := by
 rw [List.getD_eq_getElem?_getD, h]; rfl
theorem pr_disj {w : List Span} {a b : Int} {s t : Span} (ha : w[a.toNat]? = some s) (hb : w[b.toNat]? = some t) (hs : s.ne) (ht : t.ne) : prB w a b = false ↔ Disj s t := by
 unfold prB
 rw [getD_some ha, getD_some hb, decide_eq_false_iff_not]
 simp only [Span.ne, cap, Disj] at *
 omega
theorem apart_le {w : List Span} (he : eachB w = true) {l : List Int} (hr : risB w.length (-1) l = true) (ha : apG w [] l = true) {P : List Int} (hP : Pierce w P) : l.length ≤ P.length := by
 obtain ⟨r1, r2⟩ := (ris_pair l (-1)).1 hr
 obtain ⟨_, a2⟩ := (ap_iff w l []).1 ha
 have get : ∀ x ∈ l, ∃ s, w[x.toNat]? = some s ∧ s.ne := by
  intro x hx
  have := r1 x hx
  have hlt : x.toNat < w.length := by omega
  exact ⟨_, List.getElem?_eq_getElem hlt, of_decide_eq_true (List.all_eq_true.1 he _ (List.getElem_mem hlt))⟩
 have := pierce_apart (w := w) (A := l.map Int.toNat) (P := P) (fun i hi => by
  obtain ⟨x, hx, rfl⟩ := List.mem_map.1 hi
  obtain ⟨s, h1, _⟩ := get x hx
  exact ⟨s, h1, hP.2 s (List.mem_of_getElem? h1)⟩) (by
   have hp : l.Pairwise (fun a b => a.toNat ≠ b.toNat) := by
    refine r2.imp_of_mem (fun {a b} hma hmb h => ?_)
    have := r1 a hma
    have := r1 b hmb
    omega
   exact List.pairwise_map.2 hp) (fun i hi k hk hne a b h1 h2 => by
   obtain ⟨x, hx, rfl⟩ := List.mem_map.1 hi
   obtain ⟨y, hy, rfl⟩ := List.mem_map.1 hk
   obtain ⟨s, s1, s2⟩ := get x hx
   obtain ⟨t, t1, t2⟩ := get y hy
   rw [h1] at s1
   rw [h2] at t1
   cases s1
   cases t1
   rcases pair_mem a2 hx hy with e | e | e
   ·exact absurd (by rw [e]) hne
   ·have := (pr_disj h2 h1 t2 s2).1 e
    unfold Disj at *
    omega
   ·exact (pr_disj h1 h2 s2 t2).1 e)
 rw [List.length_map] at this
 exact this
theorem firstA_best {w : List Span} (hw : w.length < 6) {l : List Int} (hr : risB w.length (-1) l = true) (ha : apG w [] l = true) : l = firstA w ∨ ltA (firstA w) l = true := by
 have hm : l ∈ (allDesc w.length).filter (apG w []) := List.mem_filter.2 ⟨(desc_mem hw _).1 ((lists_mem hw _).2 ((ris_mem hw).1 hr)), ha⟩
 have hs := sorted_filter ltA (apG w []) _ (List.all_eq_true.1 desc_sorted _ (List.mem_range.2 hw))
 unfold firstA
 cases h : (allDesc w.length).filter (apG w []) with
 | nil => rw [h] at hm; cases hm
 | cons y r =>
  rw [h] at hm hs
  rw [sortedB, Bool.and_eq_true, List.all_eq_true] at hs
  rcases List.mem_cons.1 hm with e | e
  ·exact .inl e
  ·exact .inr (hs.1 l e)
theorem firstA_ge {w : List Span} (hw : w.length < 6) {l : List Int} (hr : risB w.length (-1) l = true) (ha : apG w [] l = true) : l.length ≤ (firstA w).length := by
 rcases firstA_best hw hr ha with e | e
 ·rw [e]; exact Nat.le_refl _
 ·unfold ltA at e
  simp only [Bool.or_eq_true, Bool.and_eq_true, decide_eq_true_eq] at e
  omega
theorem apart_of_pierce {w : List Span} (hw : w.length < 6) (hin : InH w) (he : eachB w = true) : ∃ P, Pierce w P ∧ P.length ≤ (firstA w).length := by
 obtain ⟨P, m, p1, p2, p3, p4, p5⟩ := duality w.length w (whole_of hin he) (fun _ => true) (by rw [List.filter_eq_self.2 (fun _ _ => rfl), List.length_range]; exact Nat.le_refl _)
 have hP : Pierce w P := ⟨p1, fun s hs => by
  obtain ⟨i, hi, rfl⟩ := List.getElem_of_mem hs
  exact p2 i _ (List.getElem?_eq_getElem hi) rfl⟩
 refine ⟨P, hP, ?_⟩
 rw [← p5]
 have hl : (((List.range w.length).filter m).map fun (i : Nat) => (i : Int)).length = ((List.range w.length).filter m).length := List.length_map ..
 rw [← hl]
 have hpw : ((List.range w.length).filter m).Pairwise (· < ·) := List.pairwise_lt_range.filter m
 refine firstA_ge hw ((ris_pair _ _).2 ⟨fun x hx => ?_, ?_⟩) ((ap_iff w _ []).2 ⟨fun x _ b hb => by simp at hb, ?_⟩)
 ·obtain ⟨i, hi, rfl⟩ := List.mem_map.1 hx
  have := (p3 i (List.mem_filter.1 hi).2).2
  omega
 ·exact List.pairwise_map.2 (hpw.imp (fun {a b} h => by omega))
 ·refine List.pairwise_map.2 (hpw.imp_of_mem (fun {a b} ha hb h => ?_))
  have h1 := p3 a (List.mem_filter.1 ha).2
  have h2 := p3 b (List.mem_filter.1 hb).2
  have ga : w[((a : Nat) : Int).toNat]? = some w[a] := by
   rw [show ((a : Nat) : Int).toNat = a by omega]; exact List.getElem?_eq_getElem h1.2
  have gb : w[((b : Nat) : Int).toNat]? = some w[b] := by
   rw [show ((b : Nat) : Int).toNat = b by omega]; exact List.getElem?_eq_getElem h2.2
  have na := of_decide_eq_true (List.all_eq_true.1 he _ (List.getElem_mem h1.2))
  have nb := of_decide_eq_true (List.all_eq_true.1 he _ (List.getElem_mem h2.2))
  exact (pr_disj gb ga nb na).2 (p4 b a _ _ (List.getElem?_eq_getElem h2.2) (List.getElem?_eq_getElem h1.2) (List.mem_filter.1 hb).2 (List.mem_filter.1 ha).2 (by omega))
theorem dual {w : List Span} (hw : w.length < 6) (hin : InH w) (he : eachB w = true) : ((firstA w).length : Int) = rn 0 (bestS w) := by
 obtain ⟨b1, b2⟩ := bestS_way hw hin he
 obtain ⟨P, h1, h2⟩ := pierce_of_sort b2 (best_spec hw hin he).2.1 b1.nn
 obtain ⟨Q, h3, h4⟩ := apart_of_pierce hw hin he
 have h5 := apart_le he (firstA_ris hw) (firstA_mem hw).2 h1
 have h6 := best_pierce hw hin he h3
 omega
def lexB (a b : List Int) : Bool := decide (lexC a b = -1)
theorem ext_sorted : ((List.range 6).all fun m => sortedB lexB (extL m [])) = true := by kernel_rfl
theorem least_first : ∀ (L : List (List Int)) (x z : List Int), sortedB lexB (x :: L) = true → (z = x ∨ z ∈ L) → rn 0 z = rn 0 (least ltR x L) → z = least ltR x L ∨ lexB (least ltR x L) z = true := by
 intro L
 induction L with
 | nil =>
  intro x z _ hz _
  rcases hz with rfl | hz
  ·exact .inl rfl
  ·cases hz
 | cons y r ih =>
  intro x z hs hz hr
  have hs0 := hs
  rw [sortedB, Bool.and_eq_true, List.all_eq_true] at hs
  have hs2 := hs.2
  rw [sortedB, Bool.and_eq_true, List.all_eq_true] at hs2
  have hle : ∀ (L : List (List Int)) (x : List Int), rn 0 (least ltR x L) ≤ rn 0 x := by
   intro L
   induction L with
   | nil => intro x; exact Int.le_refl _
   | cons y r ih2 =>
    intro x
    rw [least]
    cases hc : ltR y x with
    | true => rw [cond_true]; have := ih2 y; have := of_decide_eq_true hc; omega
    | false => rw [cond_false]; exact ih2 x
  rw [least] at hr ⊢
  cases hc : ltR y x with
  | true =>
   rw [hc, cond_true] at hr
   rw [cond_true]
   have hlt := of_decide_eq_true hc
   rcases hz with rfl | hz
   ·have := hle r y; omega
   ·exact ih y z hs.2 (List.mem_cons.1 hz) hr
  | false =>
   rw [hc, cond_false] at hr
   rw [cond_false]
   have hge := of_decide_eq_false hc
   have hsx : sortedB lexB (x :: r) = true := by
    rw [sortedB, Bool.and_eq_true, List.all_eq_true]
    exact ⟨fun t ht => hs.1 t (List.mem_cons_of_mem _ ht), hs2.2⟩
   rcases hz with rfl | hz
   ·exact ih z z hsx (.inl rfl) hr
   ·rcases List.mem_cons.1 hz with rfl | hz
    ·have h1 := hle r x
     have hxz : lexB x z = true := hs.1 z List.mem_cons_self
     rcases ih x x hsx (.inl rfl) (by omega) with e | e
     ·rw [← e]; exact .inr hxz
     ·refine .inr (decide_eq_true (lexC_trans _ _ _ (of_decide_eq_true e) (of_decide_eq_true hxz)))
    ·exact ih x z hsx (.inr hz) hr
theorem best_first {w : List Span} (hw : w.length < 6) (hin : InH w) (he : eachB w = true) {z : List Int} (hz : z ∈ extL w.length []) (hs : sortsB w z = true) (hr : rn 0 z = rn 0 (bestS w)) : lexC z (bestS w) ≠ -1 := by
 obtain ⟨x, l, h⟩ := best_some hw hin he
 have hb : bestS w = least ltR x l := by unfold bestS; rw [h]
 have hm : z ∈ (extL w.length []).filter (sortsB w) := List.mem_filter.2 ⟨hz, hs⟩
 have hso := sorted_filter lexB (sortsB w) _ (List.all_eq_true.1 ext_sorted _ (List.mem_range.2 hw))
 rw [h] at hm hso
 rw [hb] at hr ⊢
 intro hc
 rcases least_first l x z hso (List.mem_cons.1 hm) hr with e | e
 ·rw [e, lexC_refl] at hc; cases hc
 ·have := of_decide_eq_true e
  have := lexC_trans _ _ _ hc this
  rw [lexC_refl] at this
  cases this
end Go.Proofs.YtohmhlkdgfcaeaaGreatDoor
namespace Go.Proofs.YtohmhlkdgfcaeaaGreatDoor
open Go Go.RowKit Go.ChangeShapes Go.WideShapes Go.Deep
set_option maxRecDepth 100000
theorem rd_list_len {H : Type} {enc : TypeId × Value → H} {w : World} {base : Nat} {v : Value} {d : DataW H} {p : List MemPlace} (h0 : Value.okWide Tryz.prog w .any base 23 v) (h : DataW.Trod enc Tryz.prog w 0 (fun _ => true) true 23 v d p) :
  ∃ x : List Int, Rd w (F0 w) (.sl (x.map eI)) v ∧ x.length ≤ 9223372036854775807 := by
 obtain ⟨x, hx⟩ := rd_list h0 h
 refine ⟨x, hx, ?_⟩
 obtain ⟨a, n, c, rfl⟩ := okWide_slice Tryz.underlying23 h0
 obtain ⟨fuel, hf⟩ := h
 have hn : n = x.length := by
  cases hx with
  | sl es A n cap sz a us hn hcap hA hsz hc hp hr => simpa using hn
 have hf : DataW.trod enc Tryz.prog w 0 (fun _ => true) true fuel 23 [.slice a n c] = some (d, p) := hf
 rcases open_slice Tryz.underlying23 hf with ⟨hcs, _⟩ | ⟨a', len, cap, m, k, D, Pl, hcs, _, hl, hm, _⟩
 ·simp only [List.cons.injEq, Value.slice.injEq, and_true] at hcs
  omega
 ·simp only [List.cons.injEq, Value.slice.injEq, and_true] at hcs
  have hm : cap ≤ 2 ^ 63 - 1 := hm
  omega
end Go.Proofs.YtohmhlkdgfcaeaaGreatDoor
namespace Go.Proofs.YtohmhlkdgfcaeaaGreatDoor
open Go Go.RowKit
set_option maxRecDepth 4000
attribute [local irreducible] W Ops GS GSG
def s_16_j4 (n : Nat) (v0 : Drum) (v2 : (List Int)) (v107 : ((List Int) × Int × Int)) (v108 : ((List Int) × Int)) (v121 : Bool) : Option (Bool) := bif v121 then ( some (false) ) else ( (s_67 n v0 v2).bind fun v122 => bif (!v122) then ( (s_24 n ).bind fun v123 => some (v123) ) else ( bif (decide ((v2.length : Int) < v107.2.1)) then ( (s_24 n ).bind fun v124 => some (v124) ) else (
 bif (decide ((v2.length : Int) = v107.2.1)) then ( (s_66 n v2 v108.1).bind fun v125 => bif (!v125) then ( (s_24 n ).bind fun v126 => some (v126) ) else ( some (false) ) ) else ( some (false) ) ) ) )
def s_16_j3 (n : Nat) (v0 : Drum) (v1 : (List Int)) (v2 : (List Int)) (v107 : ((List Int) × Int × Int)) (v108 : ((List Int) × Int)) (v115 : Bool) : Option (Bool) := bif v115 then ( some (false) ) else ( (s_50 n v0 v107.1).bind fun v116 => (s_50 n v0 v1).bind fun v117 => bif (!decide (v116.2 = 0)) then ( s_16_j4 n v0 v2 v107 v108 true ) else ( bif (!decide (v117.2 = 0)) then (
 s_16_j4 n v0 v2 v107 v108 true ) else ( bif (!v116.1) then ( s_16_j4 n v0 v2 v107 v108 true ) else ( bif v117.1 then ( (s_59 n v1).bind fun v118 => bif (decide (v118 < v107.2.1)) then ( s_16_j4 n v0 v2 v107 v108 true ) else ( (s_59 n v1).bind fun v119 => bif (decide (v119 = v107.2.1)) then ( (s_66 n v1 v107.1).bind fun v120 => s_16_j4 n v0 v2 v107 v108 v120 ) else (
 s_16_j4 n v0 v2 v107 v108 false ) ) ) else ( s_16_j4 n v0 v2 v107 v108 false ) ) ) ) )
def s_16_j2 (n : Nat) (v0 : Drum) (v1 : (List Int)) (v2 : (List Int)) (v107 : ((List Int) × Int × Int)) (v108 : ((List Int) × Int)) (v109 : Bool) : Option (Bool) := bif v109 then ( some (false) ) else ( bif (!decide (v107.2.2 = 0)) then ( (s_24 n ).bind fun v110 => some (v110) ) else ( (s_53 n v0 v107.1).bind fun v111 => bif (!v111) then ( s_16_j3 n v0 v1 v2 v107 v108 true ) else (
 (s_59 n v107.1).bind fun v112 => bif (!decide (v112 = v107.2.1)) then ( s_16_j3 n v0 v1 v2 v107 v108 true ) else ( bif (!decide ((v108.1.length : Int) = v107.2.1)) then ( s_16_j3 n v0 v1 v2 v107 v108 true ) else ( (s_64 n v0 v108.1).bind fun v113 => bif (!v113) then ( s_16_j3 n v0 v1 v2 v107 v108 true ) else ( (s_67 n v0 v108.1).bind fun v114 => s_16_j3 n v0 v1 v2 v107 v108 (!v114) )
 ) ) ) ) )
def s_16_j1 (n : Nat) (v0 : Drum) (v1 : (List Int)) (v2 : (List Int)) (v105 : Bool) : Option (Bool) := bif v105 then ( (s_24 n ).bind fun v106 => some (v106) ) else ( (s_51 n v0).bind fun v107 => (s_52 n v0).bind fun v108 => bif (!decide (v107.2.2 = v108.2)) then ( s_16_j2 n v0 v1 v2 v107 v108 true ) else ( bif (!decide (v107.2.2 = 0)) then ( bif (!decide (v107.2.2 = 7)) then (
 s_16_j2 n v0 v1 v2 v107 v108 (!decide (v107.2.2 = 5)) ) else ( s_16_j2 n v0 v1 v2 v107 v108 false ) ) else ( s_16_j2 n v0 v1 v2 v107 v108 false ) ) )
def s_16 (n : Nat) (v0 : Drum) (v1 : (List Int)) (v2 : (List Int)) : Option (Bool) := (s_23 n v0).bind fun v101 => bif (!v101) then ( s_16_j1 n v0 v1 v2 true ) else ( bif (decide (6 < (v2.length : Int))) then ( s_16_j1 n v0 v1 v2 true ) else ( (s_39 n v0).bind fun v102 => bif (!v102) then ( s_16_j1 n v0 v1 v2 true ) else ( (s_53 n v0 v1).bind fun v103 => bif (!v103) then (
 s_16_j1 n v0 v1 v2 true ) else ( (s_64 n v0 v2).bind fun v104 => s_16_j1 n v0 v1 v2 (!v104) ) ) ) )
theorem c_16 (n : Nat) (v0 : Drum) (v1 : (List Int)) (v2 : (List Int)) {r : (Bool)} (h : s_16 n v0 v1 v2 = some r) :
  Fun Tryz.prog 16 [.agg (cDrum v0), .sl (v1.map eI), .sl (v2.map eI)] (.ret (.b r)) := by
 unfold s_16 at h
 refine enterW 166 Tryz.func16 q q q ?_
 intro w0 F0
 change W _ _ (Ev [(0, .pv (.agg (cDrum v0))), (1, .pv (.sl (List.map eI v1))), (2, .pv (.sl (List.map eI v2)))]) _
 refine W.seq<|W.region<|ob (g_box q q q q q) q q<|va q q q q q<|on0<|Sq.n<|W.seq<|W.seqJ (σ := Bool) (fun s => (⟨[(1, .pv (.sl (List.map eI v1))), (2, .pv (.sl (List.map eI v2))), (3, .box 3 0), (40, .pv (.b s))], [(3, 27, [.pv (.sl (List.map cAcid v0.acids)), .pv (.i v0.known), .pv (.i v0.hours), .pv (.sl (List.map eI v0.adds)), .pv (.sl (List.map cStrip v0.strips)), .pv (.sl (List.map cBatch v0.batches))])], []⟩ : Env)) (fun s => s_16_j1 n v0 v1 v2 s = some r) ?_ ?_
 ·refine W.region<|ov (g_loadA q q q q q ag_27 sz_27 q q) q ?_
  obtain ⟨v101, e101, h⟩ := bind_some h
  refine ov (g_call q q q ca_23 q (c_23 _ _ e101)) q<|ov (g_not q q q q) q<|vm q q q q q<|Ops.split 19 q (fun hb => ?_) (fun hb => ?_)
  ·have h := bif_t h hb
   refine o2 q q q q q q<|o2 q q q q q q<|o2 q q q q q q<|vt q q q q q q<|vm q q q q q<|o2 q q q q q q<|o2 q q q q q q<|o2 q q q q q q<|vt q q q q q q<|vm q q q q q<|o2 q q q q q q<|o2 q q q q q q<|o2 q q q q q q<|o2 q q q q q q<|vt q q q q q q<|vm q q q q q<|o2 q q q q q q<|o2 q q q q q q<|o2 q q q q q q<|o2 q q q q q q<|vt q q q q q q<|on0<|Sq.n<|⟨true, h, has_mk ⟨q, q, q, q, trivial⟩ ⟨q, trivial⟩ trivial q⟩
  ·have h := bif_f h hb
   refine on q q q<|vm q q q q q<|on q q q<|ov (g_lenM (l := v2) (enc := eI) q ul_23 q q q) q<|on q q q<|ov (g_gtr q q q q q) q<|vf q q q q q q<|vm q q q q q<|Ops.split 24 q (fun hb => ?_) (fun hb => ?_)
   ·have h := bif_t h hb
    refine o2 q q q q q q<|o2 q q q q q q<|o2 q q q q q q<|vt q q q q q q<|vm q q q q q<|o2 q q q q q q<|o2 q q q q q q<|o2 q q q q q q<|o2 q q q q q q<|vt q q q q q q<|vm q q q q q<|o2 q q q q q q<|o2 q q q q q q<|o2 q q q q q q<|o2 q q q q q q<|vt q q q q q q<|on0<|Sq.n<|⟨true, h, has_mk ⟨q, q, q, q, trivial⟩ ⟨q, trivial⟩ trivial q⟩
   ·have h := bif_f h hb
    refine on q q q<|ov (g_loadA q q q q q ag_27 sz_27 q q) q<|on q q q ?_
    obtain ⟨v102, e102, h⟩ := bind_some h
    refine ov (g_call q q q ca_39 q (c_39 _ _ e102)) q<|on q q q<|ov (g_not q q q q) q<|vf q q q q q q<|vm q q q q q<|Ops.split 29 q (fun hb => ?_) (fun hb => ?_)
    ·have h := bif_t h hb
     refine o2 q q q q q q<|o2 q q q q q q<|o2 q q q q q q<|o2 q q q q q q<|vt q q q q q q<|vm q q q q q<|o2 q q q q q q<|o2 q q q q q q<|o2 q q q q q q<|o2 q q q q q q<|vt q q q q q q<|on0<|Sq.n<|⟨true, h, has_mk ⟨q, q, q, q, trivial⟩ ⟨q, trivial⟩ trivial q⟩
    ·have h := bif_f h hb
     refine on q q q<|ov (g_loadA q q q q q ag_27 sz_27 q q) q<|on q q q<|vm q q q q q<|on q q q ?_
     obtain ⟨v103, e103, h⟩ := bind_some h
     refine ov (g_call q q q ca_53 q (c_53 _ _ _ e103)) q<|on q q q<|ov (g_not q q q q) q<|vf q q q q q q<|vm q q q q q<|Ops.split 35 q (fun hb => ?_) (fun hb => ?_)
     ·have h := bif_t h hb
      refine o2 q q q q q q<|o2 q q q q q q<|o2 q q q q q q<|o2 q q q q q q<|vt q q q q q q<|on0<|Sq.n<|⟨true, h, has_mk ⟨q, q, q, q, trivial⟩ ⟨q, trivial⟩ trivial q⟩
     ·have h := bif_f h hb
      refine on q q q<|ov (g_loadA q q q q q ag_27 sz_27 q q) q<|on q q q<|vm q q q q q<|on q q q ?_
      obtain ⟨v104, e104, h⟩ := bind_some h
      refine ov (g_call q q q ca_64 q (c_64 _ _ _ e104)) q<|on q q q<|ov (g_not q q q q) q<|vf q q q q q q<|on0<|Sq.n<|⟨(!v104), h, has_mk ⟨q, q, q, q, trivial⟩ ⟨q, trivial⟩ trivial q⟩
 ·rintro v105 h
  change s_16_j1 n v0 v1 v2 v105 = some r at h
  unfold s_16_j1 at h
  change W _ _ (⟨[(1, .pv (.sl (List.map eI v1))), (2, .pv (.sl (List.map eI v2))), (3, .box 3 0), (40, .pv (.b v105))], [(3, 27, [.pv (.sl (List.map cAcid v0.acids)), .pv (.i v0.known), .pv (.i v0.hours), .pv (.sl (List.map eI v0.adds)), .pv (.sl (List.map cStrip v0.strips)), .pv (.sl (List.map cBatch v0.batches))])], []⟩ : Env) _
  refine W.cond (b := v105) q (fun hc => ?_) (fun hc => ?_)
  ·have h := bif_t h hc
   refine W.seq<|W.region ?_
   obtain ⟨v106, e106, h⟩ := bind_some h
   refine ov (g_call q q q ca_24 q (c_24 _  e106)) q<|va q q q q q<|on0<|Sq.n<|W.ret<|Sq.r ?_
   obtain rfl := Option.some.inj h
   exact Fin.r q (.cons (.tmp _ _ q) .nil) q
  ·have h := bif_f h hc
   refine W.skip<|Sq.n<|W.seq<|W.region<|ov (g_loadA q q q q q ag_27 sz_27 q q) q ?_
   obtain ⟨v107, e107, h⟩ := bind_some h
   refine ov (g_call q q q ca_51 q (c_51 _ _ e107)) q<|vm q q q q q<|ov (g_extract q q q q q) q<|ov (g_extract q q q q q) q<|ov (g_extract q q q q q) q<|va q q q q q<|va q q q q q<|va q q q q q<|on0<|Sq.n<|W.seq<|W.region<|ov (g_loadA q q q q q ag_27 sz_27 q q) q ?_
   obtain ⟨v108, e108, h⟩ := bind_some h
   refine ov (g_call q q q ca_52 q (c_52 _ _ e108)) q<|vm q q q q q<|ov (g_extract q q q q q) q<|ov (g_extract q q q q q) q<|va q q q q q<|va q q q q q<|on0<|Sq.n<|W.seq<|W.seqJ (σ := Bool) (fun s => (⟨[(1, .pv (.sl (List.map eI v1))), (2, .pv (.sl (List.map eI v2))), (3, .box 3 0), (7, .pv (.sl (List.map eI v107.1))), (8, .pv (.i v107.2.1)), (9, .pv (.i v107.2.2)), (10, .pv (.sl (List.map eI v108.1))), (67, .pv (.b s))], [(3, 27, [.pv (.sl (List.map cAcid v0.acids)), .pv (.i v0.known), .pv (.i v0.hours), .pv (.sl (List.map eI v0.adds)), .pv (.sl (List.map cStrip v0.strips)), .pv (.sl (List.map cBatch v0.batches))])], []⟩ : Env)) (fun s => s_16_j2 n v0 v1 v2 v107 v108 s = some r) ?_ ?_
   ·refine W.region<|vm q q q q q<|vm q q q q q<|ov (g_neq q q q q q) q<|vm q q q q q<|Ops.split 56 q (fun hb => ?_) (fun hb => ?_)
    ·have h := bif_t h hb
     refine o2 q q q q q q<|o2 q q q q q q<|o2 q q q q q q<|o2 q q q q q q<|o2 q q q q q q<|o2 q q q q q q<|o2 q q q q q q<|o2 q q q q q q<|o2 q q q q q q<|o2 q q q q q q<|vt q q q q q q<|on0<|Sq.n<|⟨true, h, has_mk ⟨q, q, q, q, q, q, q, q, trivial⟩ ⟨q, trivial⟩ trivial q⟩
    ·have h := bif_f h hb
     refine on q q q<|vm q q q q q<|on q q q<|ov (g_neq q q q q q) q<|on q q q<|vm q q q q q<|Ops.split 59 q (fun hb => ?_) (fun hb => ?_)
     ·have h := bif_t h hb
      refine on q q q<|vm q q q q q<|on q q q<|ov (g_neq q q q q q) q<|on q q q<|vt q q q q q q<|on q q q<|vm q q q q q<|Ops.split 63 q (fun hb => ?_) (fun hb => ?_)
      ·have h := bif_t h hb
       refine on q q q<|vm q q q q q<|on q q q<|ov (g_neq q q q q q) q<|on q q q<|vt q q q q q q<|vf q q q q q q<|on0<|Sq.n<|⟨(!decide (v107.2.2 = 5)), h, has_mk ⟨q, q, q, q, q, q, q, q, trivial⟩ ⟨q, trivial⟩ trivial q⟩
      ·have h := bif_f h hb
       refine o2 q q q q q q<|o2 q q q q q q<|on q q q<|vf q q q q q q<|vf q q q q q q<|on0<|Sq.n<|⟨false, h, has_mk ⟨q, q, q, q, q, q, q, q, trivial⟩ ⟨q, trivial⟩ trivial q⟩
     ·have h := bif_f h hb
      refine o2 q q q q q q<|o2 q q q q q q<|on q q q<|vf q q q q q q<|on q q q<|vm q q q q q<|o2 q q q q q q<|o2 q q q q q q<|on q q q<|vf q q q q q q<|vf q q q q q q<|on0<|Sq.n<|⟨false, h, has_mk ⟨q, q, q, q, q, q, q, q, trivial⟩ ⟨q, trivial⟩ trivial q⟩
   ·rintro v109 h
    change s_16_j2 n v0 v1 v2 v107 v108 v109 = some r at h
    unfold s_16_j2 at h
    change W _ _ (⟨[(1, .pv (.sl (List.map eI v1))), (2, .pv (.sl (List.map eI v2))), (3, .box 3 0), (7, .pv (.sl (List.map eI v107.1))), (8, .pv (.i v107.2.1)), (9, .pv (.i v107.2.2)), (10, .pv (.sl (List.map eI v108.1))), (67, .pv (.b v109))], [(3, 27, [.pv (.sl (List.map cAcid v0.acids)), .pv (.i v0.known), .pv (.i v0.hours), .pv (.sl (List.map eI v0.adds)), .pv (.sl (List.map cStrip v0.strips)), .pv (.sl (List.map cBatch v0.batches))])], []⟩ : Env) _
    refine W.cond (b := v109) q (fun hc => ?_) (fun hc => ?_)
    ·have h := bif_t h hc
     refine W.seq<|W.region<|va q q q q q<|on0<|Sq.n<|W.ret<|Sq.r ?_
     obtain rfl := Option.some.inj h
     exact Fin.r q (.cons (.tmp _ _ q) .nil) q
    ·have h := bif_f h hc
     refine W.skip<|Sq.n<|W.seq<|W.seq<|W.region<|vm q q q q q<|ov (g_neq q q q q q) q<|on0<|Sq.n<|W.cond (b := (!decide (v107.2.2 = 0))) q (fun hc => ?_) (fun hc => ?_)
     ·have h := bif_t h hc
      refine W.seq<|W.region ?_
      obtain ⟨v110, e110, h⟩ := bind_some h
      refine ov (g_call q q q ca_24 q (c_24 _  e110)) q<|va q q q q q<|on0<|Sq.n<|W.ret<|Sq.r ?_
      obtain rfl := Option.some.inj h
      exact Fin.r q (.cons (.tmp _ _ q) .nil) q
     ·have h := bif_f h hc
      refine W.skip<|Sq.n<|W.seq<|W.seqJ (σ := Bool) (fun s => (⟨[(1, .pv (.sl (List.map eI v1))), (2, .pv (.sl (List.map eI v2))), (3, .box 3 0), (7, .pv (.sl (List.map eI v107.1))), (8, .pv (.i v107.2.1)), (10, .pv (.sl (List.map eI v108.1))), (98, .pv (.b s))], [(3, 27, [.pv (.sl (List.map cAcid v0.acids)), .pv (.i v0.known), .pv (.i v0.hours), .pv (.sl (List.map eI v0.adds)), .pv (.sl (List.map cStrip v0.strips)), .pv (.sl (List.map cBatch v0.batches))])], []⟩ : Env)) (fun s => s_16_j3 n v0 v1 v2 v107 v108 s = some r) ?_ ?_
      ·refine W.region<|ov (g_loadA q q q q q ag_27 sz_27 q q) q<|vm q q q q q ?_
       obtain ⟨v111, e111, h⟩ := bind_some h
       refine ov (g_call q q q ca_53 q (c_53 _ _ _ e111)) q<|ov (g_not q q q q) q<|vm q q q q q<|Ops.split 75 q (fun hb => ?_) (fun hb => ?_)
       ·have h := bif_t h hb
        refine o2 q q q q q q<|o2 q q q q q q<|o2 q q q q q q<|o2 q q q q q q<|vt q q q q q q<|vm q q q q q<|o2 q q q q q q<|o2 q q q q q q<|o2 q q q q q q<|o2 q q q q q q<|vt q q q q q q<|vm q q q q q<|o2 q q q q q q<|o2 q q q q q q<|o2 q q q q q q<|o2 q q q q q q<|vt q q q q q q<|vm q q q q q<|o2 q q q q q q<|o2 q q q q q q<|o2 q q q q q q<|o2 q q q q q q<|vt q q q q q q<|on0<|Sq.n<|⟨true, h, has_mk ⟨q, q, q, q, q, q, q, trivial⟩ ⟨q, trivial⟩ trivial q⟩
       ·have h := bif_f h hb
        refine on q q q<|vm q q q q q<|on q q q ?_
        obtain ⟨v112, e112, h⟩ := bind_some h
        refine ov (g_call q q q ca_59 q (c_59 _ _ e112)) q<|on q q q<|vm q q q q q<|on q q q<|ov (g_neq q q q q q) q<|vf q q q q q q<|vm q q q q q<|Ops.split 81 q (fun hb => ?_) (fun hb => ?_)
        ·have h := bif_t h hb
         refine o2 q q q q q q<|o2 q q q q q q<|o2 q q q q q q<|o2 q q q q q q<|vt q q q q q q<|vm q q q q q<|o2 q q q q q q<|o2 q q q q q q<|o2 q q q q q q<|o2 q q q q q q<|vt q q q q q q<|vm q q q q q<|o2 q q q q q q<|o2 q q q q q q<|o2 q q q q q q<|o2 q q q q q q<|vt q q q q q q<|on0<|Sq.n<|⟨true, h, has_mk ⟨q, q, q, q, q, q, q, trivial⟩ ⟨q, trivial⟩ trivial q⟩
        ·have h := bif_f h hb
         refine on q q q<|vm q q q q q<|on q q q<|ov (g_lenM (l := v108.1) (enc := eI) q ul_23 q q q) q<|on q q q<|vm q q q q q<|on q q q<|ov (g_neq q q q q q) q<|vf q q q q q q<|vm q q q q q<|Ops.split 87 q (fun hb => ?_) (fun hb => ?_)
         ·have h := bif_t h hb
          refine o2 q q q q q q<|o2 q q q q q q<|o2 q q q q q q<|o2 q q q q q q<|vt q q q q q q<|vm q q q q q<|o2 q q q q q q<|o2 q q q q q q<|o2 q q q q q q<|o2 q q q q q q<|vt q q q q q q<|on0<|Sq.n<|⟨true, h, has_mk ⟨q, q, q, q, q, q, q, trivial⟩ ⟨q, trivial⟩ trivial q⟩
         ·have h := bif_f h hb
          refine on q q q<|ov (g_loadA q q q q q ag_27 sz_27 q q) q<|on q q q<|vm q q q q q<|on q q q ?_
          obtain ⟨v113, e113, h⟩ := bind_some h
          refine ov (g_call q q q ca_64 q (c_64 _ _ _ e113)) q<|on q q q<|ov (g_not q q q q) q<|vf q q q q q q<|vm q q q q q<|Ops.split 93 q (fun hb => ?_) (fun hb => ?_)
          ·have h := bif_t h hb
           refine o2 q q q q q q<|o2 q q q q q q<|o2 q q q q q q<|o2 q q q q q q<|vt q q q q q q<|on0<|Sq.n<|⟨true, h, has_mk ⟨q, q, q, q, q, q, q, trivial⟩ ⟨q, trivial⟩ trivial q⟩
          ·have h := bif_f h hb
           refine on q q q<|ov (g_loadA q q q q q ag_27 sz_27 q q) q<|on q q q<|vm q q q q q<|on q q q ?_
           obtain ⟨v114, e114, h⟩ := bind_some h
           refine ov (g_call q q q ca_67 q (c_67 _ _ _ e114)) q<|on q q q<|ov (g_not q q q q) q<|vf q q q q q q<|on0<|Sq.n<|⟨(!v114), h, has_mk ⟨q, q, q, q, q, q, q, trivial⟩ ⟨q, trivial⟩ trivial q⟩
      ·rintro v115 h
       change s_16_j3 n v0 v1 v2 v107 v108 v115 = some r at h
       unfold s_16_j3 at h
       change W _ _ (⟨[(1, .pv (.sl (List.map eI v1))), (2, .pv (.sl (List.map eI v2))), (3, .box 3 0), (7, .pv (.sl (List.map eI v107.1))), (8, .pv (.i v107.2.1)), (10, .pv (.sl (List.map eI v108.1))), (98, .pv (.b v115))], [(3, 27, [.pv (.sl (List.map cAcid v0.acids)), .pv (.i v0.known), .pv (.i v0.hours), .pv (.sl (List.map eI v0.adds)), .pv (.sl (List.map cStrip v0.strips)), .pv (.sl (List.map cBatch v0.batches))])], []⟩ : Env) _
       refine W.cond (b := v115) q (fun hc => ?_) (fun hc => ?_)
       ·have h := bif_t h hc
        refine W.seq<|W.region<|va q q q q q<|on0<|Sq.n<|W.ret<|Sq.r ?_
        obtain rfl := Option.some.inj h
        exact Fin.r q (.cons (.tmp _ _ q) .nil) q
       ·have h := bif_f h hc
        refine W.skip<|Sq.n<|W.seq<|W.region<|ov (g_loadA q q q q q ag_27 sz_27 q q) q<|vm q q q q q ?_
        obtain ⟨v116, e116, h⟩ := bind_some h
        refine ov (g_call q q q ca_50 q (c_50 _ _ _ e116)) q<|vm q q q q q<|ov (g_extract q q q q q) q<|ov (g_extract q q q q q) q<|va q q q q q<|va q q q q q<|on0<|Sq.n<|W.seq<|W.region<|ov (g_loadA q q q q q ag_27 sz_27 q q) q<|vm q q q q q ?_
        obtain ⟨v117, e117, h⟩ := bind_some h
        refine ov (g_call q q q ca_50 q (c_50 _ _ _ e117)) q<|vm q q q q q<|ov (g_extract q q q q q) q<|ov (g_extract q q q q q) q<|va q q q q q<|va q q q q q<|on0<|Sq.n<|W.seq<|W.seqJ (σ := Bool) (fun s => (⟨[(2, .pv (.sl (List.map eI v2))), (3, .box 3 0), (8, .pv (.i v107.2.1)), (10, .pv (.sl (List.map eI v108.1))), (140, .pv (.b s))], [(3, 27, [.pv (.sl (List.map cAcid v0.acids)), .pv (.i v0.known), .pv (.i v0.hours), .pv (.sl (List.map eI v0.adds)), .pv (.sl (List.map cStrip v0.strips)), .pv (.sl (List.map cBatch v0.batches))])], []⟩ : Env)) (fun s => s_16_j4 n v0 v2 v107 v108 s = some r) ?_ ?_
        ·refine W.region<|vm q q q q q<|ov (g_neq q q q q q) q<|vm q q q q q<|Ops.split 113 q (fun hb => ?_) (fun hb => ?_)
         ·have h := bif_t h hb
          refine o2 q q q q q q<|o2 q q q q q q<|vt q q q q q q<|vm q q q q q<|o2 q q q q q q<|o2 q q q q q q<|vt q q q q q q<|vm q q q q q<|o2 q q q q q q<|o2 q q q q q q<|o2 q q q q q q<|o2 q q q q q q<|o2 q q q q q q<|o2 q q q q q q<|o2 q q q q q q<|o2 q q q q q q<|o2 q q q q q q<|o2 q q q q q q<|o2 q q q q q q<|o2 q q q q q q<|o2 q q q q q q<|o2 q q q q q q<|o2 q q q q q q<|o2 q q q q q q<|o2 q q q q q q<|o2 q q q q q q<|vt q q q q q q<|on0<|Sq.n<|⟨true, h, has_mk ⟨q, q, q, q, q, trivial⟩ ⟨q, trivial⟩ trivial q⟩
         ·have h := bif_f h hb
          refine on q q q<|vm q q q q q<|on q q q<|ov (g_neq q q q q q) q<|vf q q q q q q<|vm q q q q q<|Ops.split 117 q (fun hb => ?_) (fun hb => ?_)
          ·have h := bif_t h hb
           refine o2 q q q q q q<|o2 q q q q q q<|vt q q q q q q<|vm q q q q q<|o2 q q q q q q<|o2 q q q q q q<|o2 q q q q q q<|o2 q q q q q q<|o2 q q q q q q<|o2 q q q q q q<|o2 q q q q q q<|o2 q q q q q q<|o2 q q q q q q<|o2 q q q q q q<|o2 q q q q q q<|o2 q q q q q q<|o2 q q q q q q<|o2 q q q q q q<|o2 q q q q q q<|o2 q q q q q q<|o2 q q q q q q<|o2 q q q q q q<|vt q q q q q q<|on0<|Sq.n<|⟨true, h, has_mk ⟨q, q, q, q, q, trivial⟩ ⟨q, trivial⟩ trivial q⟩
          ·have h := bif_f h hb
           refine on q q q<|vm q q q q q<|on q q q<|ov (g_not q q q q) q<|vf q q q q q q<|vm q q q q q<|Ops.split 121 q (fun hb => ?_) (fun hb => ?_)
           ·have h := bif_t h hb
            refine o2 q q q q q q<|o2 q q q q q q<|o2 q q q q q q<|o2 q q q q q q<|o2 q q q q q q<|o2 q q q q q q<|o2 q q q q q q<|o2 q q q q q q<|o2 q q q q q q<|o2 q q q q q q<|o2 q q q q q q<|o2 q q q q q q<|o2 q q q q q q<|o2 q q q q q q<|o2 q q q q q q<|o2 q q q q q q<|o2 q q q q q q<|o2 q q q q q q<|vt q q q q q q<|on0<|Sq.n<|⟨true, h, has_mk ⟨q, q, q, q, q, trivial⟩ ⟨q, trivial⟩ trivial q⟩
           ·have h := bif_f h hb
            refine on q q q<|vm q q q q q<|on q q q<|vm q q q q q<|Ops.split 123 q (fun hb => ?_) (fun hb => ?_)
            ·have h := bif_t h hb
             refine on q q q<|vm q q q q q<|on q q q ?_
             obtain ⟨v118, e118, h⟩ := bind_some h
             refine ov (g_call q q q ca_59 q (c_59 _ _ e118)) q<|on q q q<|vm q q q q q<|on q q q<|ov (g_lss q q q q q) q<|on q q q<|vm q q q q q<|Ops.split 128 q (fun hb => ?_) (fun hb => ?_)
             ·have h := bif_t h hb
              refine o2 q q q q q q<|o2 q q q q q q<|o2 q q q q q q<|o2 q q q q q q<|o2 q q q q q q<|o2 q q q q q q<|o2 q q q q q q<|o2 q q q q q q<|o2 q q q q q q<|on q q q<|vt q q q q q q<|on q q q<|vt q q q q q q<|vf q q q q q q<|on0<|Sq.n<|⟨true, h, has_mk ⟨q, q, q, q, q, trivial⟩ ⟨q, trivial⟩ trivial q⟩
             ·have h := bif_f h hb
              refine on q q q<|vm q q q q q<|on q q q ?_
              obtain ⟨v119, e119, h⟩ := bind_some h
              refine ov (g_call q q q ca_59 q (c_59 _ _ e119)) q<|on q q q<|vm q q q q q<|on q q q<|ov (g_eql q q q q q) q<|on q q q<|vm q q q q q<|Ops.split 133 q (fun hb => ?_) (fun hb => ?_)
              ·have h := bif_t h hb
               refine on q q q<|vm q q q q q<|on q q q<|vm q q q q q<|on q q q ?_
               obtain ⟨v120, e120, h⟩ := bind_some h
               refine ov (g_call q q q ca_66 q (c_66 _ _ _ e120)) q<|on q q q<|vt q q q q q q<|on q q q<|vf q q q q q q<|on q q q<|vt q q q q q q<|vf q q q q q q<|on0<|Sq.n<|⟨v120, h, has_mk ⟨q, q, q, q, q, trivial⟩ ⟨q, trivial⟩ trivial q⟩
              ·have h := bif_f h hb
               refine o2 q q q q q q<|o2 q q q q q q<|o2 q q q q q q<|on q q q<|vf q q q q q q<|on q q q<|vf q q q q q q<|on q q q<|vt q q q q q q<|vf q q q q q q<|on0<|Sq.n<|⟨false, h, has_mk ⟨q, q, q, q, q, trivial⟩ ⟨q, trivial⟩ trivial q⟩
            ·have h := bif_f h hb
             refine o2 q q q q q q<|o2 q q q q q q<|o2 q q q q q q<|o2 q q q q q q<|o2 q q q q q q<|o2 q q q q q q<|o2 q q q q q q<|o2 q q q q q q<|o2 q q q q q q<|o2 q q q q q q<|o2 q q q q q q<|o2 q q q q q q<|o2 q q q q q q<|o2 q q q q q q<|o2 q q q q q q<|on q q q<|vf q q q q q q<|vf q q q q q q<|on0<|Sq.n<|⟨false, h, has_mk ⟨q, q, q, q, q, trivial⟩ ⟨q, trivial⟩ trivial q⟩
        ·rintro v121 h
         change s_16_j4 n v0 v2 v107 v108 v121 = some r at h
         unfold s_16_j4 at h
         change W _ _ (⟨[(2, .pv (.sl (List.map eI v2))), (3, .box 3 0), (8, .pv (.i v107.2.1)), (10, .pv (.sl (List.map eI v108.1))), (140, .pv (.b v121))], [(3, 27, [.pv (.sl (List.map cAcid v0.acids)), .pv (.i v0.known), .pv (.i v0.hours), .pv (.sl (List.map eI v0.adds)), .pv (.sl (List.map cStrip v0.strips)), .pv (.sl (List.map cBatch v0.batches))])], []⟩ : Env) _
         refine W.cond (b := v121) q (fun hc => ?_) (fun hc => ?_)
         ·have h := bif_t h hc
          refine W.seq<|W.region<|va q q q q q<|on0<|Sq.n<|W.ret<|Sq.r ?_
          obtain rfl := Option.some.inj h
          exact Fin.r q (.cons (.tmp _ _ q) .nil) q
         ·have h := bif_f h hc
          refine W.skip<|Sq.n<|W.seq<|W.region<|ov (g_loadA q q q q q ag_27 sz_27 q q) q<|vm q q q q q ?_
          obtain ⟨v122, e122, h⟩ := bind_some h
          refine ov (g_call q q q ca_67 q (c_67 _ _ _ e122)) q<|ov (g_not q q q q) q<|vm q q q q q<|Ops.split 145 q (fun hb => ?_) (fun hb => ?_)
          ·have h := bif_t h hb
           refine o2 q q q q q q<|o2 q q q q q q<|o2 q q q q q q<|o2 q q q q q q<|vt q q q q q q<|vm q q q q q<|o2 q q q q q q<|o2 q q q q q q<|o2 q q q q q q<|o2 q q q q q q<|o2 q q q q q q<|o2 q q q q q q<|o2 q q q q q q<|o2 q q q q q q<|o2 q q q q q q<|o2 q q q q q q<|vt q q q q q q<|vm q q q q q<|on q q q ?_
           obtain ⟨v123, e123, h⟩ := bind_some h
           refine ov (g_call q q q ca_24 q (c_24 _  e123)) q<|vt q q q q q q<|va q q q q q<|on0<|Sq.n<|W.ret ?_
           obtain rfl := Option.some.inj h
           exact Fin.r q (.cons (.tmp _ _ q) .nil) q
          ·have h := bif_f h hb
           refine on q q q<|vm q q q q q<|on q q q<|ov (g_lenM (l := v2) (enc := eI) q ul_23 q q q) q<|on q q q<|vm q q q q q<|on q q q<|ov (g_lss q q q q q) q<|vf q q q q q q<|vm q q q q q<|Ops.split 151 q (fun hb => ?_) (fun hb => ?_)
           ·have h := bif_t h hb
            refine o2 q q q q q q<|o2 q q q q q q<|o2 q q q q q q<|o2 q q q q q q<|o2 q q q q q q<|o2 q q q q q q<|o2 q q q q q q<|o2 q q q q q q<|o2 q q q q q q<|o2 q q q q q q<|vt q q q q q q<|vm q q q q q<|on q q q ?_
            obtain ⟨v124, e124, h⟩ := bind_some h
            refine ov (g_call q q q ca_24 q (c_24 _  e124)) q<|vt q q q q q q<|va q q q q q<|on0<|Sq.n<|W.ret ?_
            obtain rfl := Option.some.inj h
            exact Fin.r q (.cons (.tmp _ _ q) .nil) q
           ·have h := bif_f h hb
            refine on q q q<|vm q q q q q<|on q q q<|ov (g_lenM (l := v2) (enc := eI) q ul_23 q q q) q<|on q q q<|vm q q q q q<|on q q q<|ov (g_eql q q q q q) q<|on q q q<|vm q q q q q<|Ops.split 156 q (fun hb => ?_) (fun hb => ?_)
            ·have h := bif_t h hb
             refine on q q q<|vm q q q q q<|on q q q<|vm q q q q q<|on q q q ?_
             obtain ⟨v125, e125, h⟩ := bind_some h
             refine ov (g_call q q q ca_66 q (c_66 _ _ _ e125)) q<|on q q q<|ov (g_not q q q q) q<|on q q q<|vt q q q q q q<|vf q q q q q q<|vm q q q q q<|Ops.split 163 q (fun hb => ?_) (fun hb => ?_)
             ·have h := bif_t h hb
              refine on q q q ?_
              obtain ⟨v126, e126, h⟩ := bind_some h
              refine ov (g_call q q q ca_24 q (c_24 _  e126)) q<|vt q q q q q q<|va q q q q q<|on0<|Sq.n<|W.ret ?_
              obtain rfl := Option.some.inj h
              exact Fin.r q (.cons (.tmp _ _ q) .nil) q
             ·have h := bif_f h hb
              refine o2 q q q q q q<|vf q q q q q q<|va q q q q q<|on0<|Sq.n<|W.ret ?_
              obtain rfl := Option.some.inj h
              exact Fin.r q (.cons (.tmp _ _ q) .nil) q
            ·have h := bif_f h hb
             refine o2 q q q q q q<|o2 q q q q q q<|o2 q q q q q q<|o2 q q q q q q<|on q q q<|vf q q q q q q<|vf q q q q q q<|vm q q q q q<|o2 q q q q q q<|vf q q q q q q<|va q q q q q<|on0<|Sq.n<|W.ret ?_
             obtain rfl := Option.some.inj h
             exact Fin.r q (.cons (.tmp _ _ q) .nil) q
end Go.Proofs.YtohmhlkdgfcaeaaGreatDoor
namespace Go.Proofs.YtohmhlkdgfcaeaaGreatDoor
open Go Go.RowKit
section
variable {n : Nat} {d : Drum}
theorem two_win (hn : 100 ≤ n) (hs : Short d) (hd : d.ok) (he : err d true = 0) {b c : Batch} (hb : b ∈ d.batches) (hc : c ∈ d.batches) :
  s_46 n ⟨d.acids, d.known, d.hours, d.adds, d.strips, [b, c]⟩ = some (bif decide (cap (winP d b) (winP d c)).ne then (comm [winP d b, winP d c], 0) else (⟨0, 0⟩, 5)) := by
 have hbc : ∀ x ∈ [b, c], x.ok := by
  intro x hx
  rcases List.mem_cons.1 hx with e | e
  ·rw [e]; exact hd.bt b hb
  ·obtain rfl := List.mem_singleton.1 e; exact hd.bt _ hc
 have ho : (⟨d.acids, d.known, d.hours, d.adds, d.strips, [b, c]⟩ : Drum).ok := { hd with btl := by show 1 ≤ [b, c].length ∧ [b, c].length ≤ 5; simp, bt := hbc }
 have hs2 : Short ⟨d.acids, d.known, d.hours, d.adds, d.strips, [b, c]⟩ := ⟨hs.a, hs.b, hs.c, by show [b, c].length ≤ 7; simp⟩
 have he2 : err ⟨d.acids, d.known, d.hours, d.adds, d.strips, [b, c]⟩ true = 0 := by
  unfold err
  rw [okD_iff.2 ho]
  have : idx ⟨d.acids, d.known, d.hours, d.adds, d.strips, [b, c]⟩ = idx d := rfl
  rw [this]
  unfold err at he
  rw [okD_iff.2 hd] at he
  exact he
 have hw : wsP ⟨d.acids, d.known, d.hours, d.adds, d.strips, [b, c]⟩ = [winP d b, winP d c] := rfl
 have i1 := winP_in hd (hd.bt b hb)
 have i2 := winP_in hd (hd.bt c hc)
 have e : decide (comm [winP d b, winP d c]).ne = decide (cap (winP d b) (winP d c)).ne := by
  rw [decide_eq_decide]
  show (cap (cap ⟨0, 12⟩ (winP d b)) (winP d c)).ne ↔ _
  simp only [cap, Span.ne]
  omega
 rw [p_46 hn hs2, he2, hw, e]
 rfl
theorem p_67 (hn : 100 ≤ n) (hs : Short d) (hd : d.ok) (he : err d true = 0) (l : List Int) (hl : l.length ≤ 50) (h0 : ∀ x ∈ l, 0 ≤ x ∧ x < d.batches.length) : s_67 n d l = some (apG (wsP d) [] l) := by
 unfold s_67
 have hbat : ∀ x : Int, 0 ≤ x → x < d.batches.length → ∃ b, ix d.batches x = some b ∧ b ∈ d.batches ∧ (wsP d).getD x.toNat default = winP d b := by
  intro x h1 h2
  obtain ⟨i, rfl⟩ := Int.eq_ofNat_of_zero_le h1
  have hi : i < d.batches.length := by omega
  refine ⟨_, ix_at (List.getElem?_eq_getElem hi), List.getElem_mem hi, ?_⟩
  rw [show ((i : Nat) : Int).toNat = i by omega]
  refine getD_some ?_
  unfold wsP
  rw [List.getElem?_map, List.getElem?_eq_getElem hi]; rfl
 have inner : ∀ (K : Int → Option Bool) (i : Nat) (hi : i < l.length) (r : List Int) (j k : Nat), (l.take i).drop j = r → j ≤ i → i < k + j → s_67_l4 n K d l (i : Int) k (j : Int) = bif r.all (fun b => !prB (wsP d) l[i] b) then K ((i : Int) + 1) else some false := by
  intro K i hi r
  induction r with
  | nil =>
   intro j k hj h2 hk
   have hil : (l.take i).length ≤ j := List.drop_eq_nil_iff.1 hj
   rw [List.length_take] at hil
   obtain ⟨k, rfl⟩ : ∃ k', k = k' + 1 := ⟨k - 1, by omega⟩
   rw [s_67_l4, decide_eq_false (by omega), cond_false, wr_of (by omega)]
   rfl
  | cons b r ih =>
   intro j k hj h2 hk
   have hjl : j < (l.take i).length := by
    rcases Nat.lt_or_ge j (l.take i).length with h | h
    ·exact h
    ·rw [List.drop_eq_nil_of_le h] at hj; cases hj
   have hji : j < i := by rw [List.length_take] at hjl; omega
   obtain ⟨k, rfl⟩ : ∃ k', k = k' + 1 := ⟨k - 1, by omega⟩
   rw [List.drop_eq_getElem_cons hjl] at hj
   obtain ⟨hx, hr⟩ := List.cons.inj hj
   rw [List.getElem_take] at hx
   obtain ⟨a1, a2⟩ := h0 _ (List.getElem_mem hi)
   obtain ⟨b1, b2⟩ := h0 l[j] (List.getElem_mem (show j < l.length by omega))
   obtain ⟨x, x1, x2, x3⟩ := hbat _ a1 a2
   obtain ⟨y, y1, y2, y3⟩ := hbat _ b1 b2
   have := ih (j + 1) k hr (by omega) (by omega)
   push_cast at this
   have ep : prB (wsP d) l[i] l[j] = decide (cap (winP d y) (winP d x)).ne := by
    unfold prB
    rw [x3, y3, decide_eq_decide]
    simp only [cap, Span.ne]
    omega
   rw [s_67_l4, decide_eq_true (by omega), cond_true, ix_at (List.getElem?_eq_getElem (show j < l.length by omega)), Option.bind_some, y1, Option.bind_some, ix_at (List.getElem?_eq_getElem hi), Option.bind_some, x1, Option.bind_some, two_win hn hs hd he y2 x2, Option.bind_some, wr_of (by omega), this, List.all_cons, ← hx, ep]
   cases decide (cap (winP d y) (winP d x)).ne <;> rfl
 have key : ∀ (r : List Int) (i k : Nat), l.drop i = r → i ≤ l.length → l.length < k + i → s_67_l1 n d l k (i : Int) = some (apG (wsP d) (l.take i) r) := by
  intro r
  induction r with
  | nil =>
   intro i k hi h2 hk
   have hil : l.length ≤ i := List.drop_eq_nil_iff.1 hi
   obtain ⟨k, rfl⟩ : ∃ k', k = k' + 1 := ⟨k - 1, by omega⟩
   rw [s_67_l1, decide_eq_false (by omega), cond_false]
   rfl
  | cons x r ih =>
   intro i k hi h2 hk
   have hil : i < l.length := by
    rcases Nat.lt_or_ge i l.length with h | h
    ·exact h
    ·rw [List.drop_eq_nil_of_le h] at hi; cases hi
   obtain ⟨k, rfl⟩ : ∃ k', k = k' + 1 := ⟨k - 1, by omega⟩
   rw [List.drop_eq_getElem_cons hil] at hi
   obtain ⟨hx, hr⟩ := List.cons.inj hi
   have h1 := inner (s_67_l1 n d l k) i hil (l.take i) 0 n rfl (by omega) (by omega)
   have h2 := ih (i + 1) k hr (by omega) (by omega)
   push_cast at h2
   rw [show ((0 : Nat) : Int) = 0 from rfl] at h1
   have htake : l.take (i + 1) = l.take i ++ [x] := by
    rw [List.take_add_one, List.getElem?_eq_getElem hil, hx]; rfl
   rw [s_67_l1, decide_eq_true (by omega), cond_true, h1, h2, htake, hx, apG]
   cases (l.take i).all (fun b => !prB (wsP d) x b) <;> rfl
 have := key l 0 n (by simp) (by omega) (by omega)
 rw [List.take_zero] at this
 exact this
theorem dual_core (hs : Short d) (hd : d.ok) (he : err d true = 0) (hea : eachB (wsP d) = true) (l c : List Int) (hc : c.length ≤ 6) (hl : numB d l = true) (hr : risB d.batches.length (-1) c = true) :
  s_16_j2 1000 d l c (bestS (wsP d), rn 0 (bestS (wsP d)), 0) (firstA (wsP d), 0) false = some true := by
 have hn : 100 ≤ 1000 := by omega
 have hbt := hd.btl
 have hw : (wsP d).length < 6 := by rw [wsP_len]; omega
 have hin := wsP_in hd
 obtain ⟨b1, b2⟩ := bestS_way hw hin hea
 obtain ⟨e1, e2, e3⟩ := best_spec hw hin hea
 have hdu := dual hw hin hea
 have hfl := firstA_len hw
 have hfr : risB d.batches.length (-1) (firstA (wsP d)) = true := by have := firstA_ris hw; rw [wsP_len] at this; exact this
 rw [wsP_len] at b2 hfl
 have hrn := b1.rn
 have hbnum : numB d (bestS (wsP d)) = true := by
  unfold numB
  rw [decide_eq_true b2, Bool.and_true, List.all_eq_true]
  intro x hx
  have h1 := b1.nn x hx
  have h2 := rn_max _ 0 x hx
  unfold inb
  rw [decide_eq_true h1, decide_eq_true (show x ≤ (d.batches.length : Int) - 1 by omega)]; rfl
 obtain ⟨n1, n2⟩ := num_spec hl
 have hek : err d true = 0 := he
 have hrr : ∀ y : List Int, risB d.batches.length (-1) y = true → ∀ x ∈ y, 0 ≤ x ∧ x < d.batches.length := by
  intro y hy x hx
  have := ((ris_pair y (-1)).1 hy).1 x hx
  omega
 unfold s_16_j2
 simp only [decide_true, Bool.not_true, cond_false]
 rw [p_53 (by omega) d _ (by omega) (by omega), Option.bind_some, hbnum, Bool.not_true, cond_false, p_59 hn _ (by omega) (fun x hx => by have := way_num b1 (by omega) x hx; omega), Option.bind_some, decide_eq_true rfl, Bool.not_true, cond_false, decide_eq_true hdu, Bool.not_true, cond_false, p_64 hn d _ (by omega), Option.bind_some, hfr, Bool.not_true, cond_false,
  p_67 hn hs hd he _ (by omega) (hrr _ hfr), Option.bind_some, (firstA_mem hw).2, Bool.not_true]
 have last : s_16_j4 1000 d c (bestS (wsP d), rn 0 (bestS (wsP d)), 0) (firstA (wsP d), 0) false = some true := by
  unfold s_16_j4
  rw [cond_false, p_67 hn hs hd he c (by omega) (hrr c hr), Option.bind_some]
  have hr2 : risB (wsP d).length (-1) c = true := by rw [wsP_len]; exact hr
  cases ha : apG (wsP d) [] c with
  | false => simp only [Bool.not_false, cond_true, p_24, Option.bind_some]
  | true =>
   have hge := firstA_ge hw hr2 ha
   simp only [Bool.not_true, cond_false]
   by_cases k1 : ((c.length : Nat) : Int) < rn 0 (bestS (wsP d))
   ·rw [decide_eq_true k1, cond_true, p_24, Option.bind_some]
   ·have k2 : ((c.length : Nat) : Int) = rn 0 (bestS (wsP d)) := by omega
    rw [decide_eq_false k1, cond_false, decide_eq_true k2, cond_true, p_66 hn c _ (by omega), Option.bind_some]
    have hno : lexC c (firstA (wsP d)) ≠ -1 := by
     intro hc
     rcases firstA_best hw hr2 ha with e | e
     ·rw [← e, lexC_refl] at hc; cases hc
     ·unfold ltA at e
      simp only [Bool.or_eq_true, Bool.and_eq_true, decide_eq_true_eq] at e
      rcases e with e | ⟨_, e⟩
      ·omega
      ·have := lexC_trans _ _ _ hc e
       rw [lexC_refl] at this; cases this
    rw [decide_eq_false hno, Bool.not_false, cond_true, p_24, Option.bind_some]
 unfold s_16_j3
 dsimp only
 rw [cond_false, p_50 hn hs (bestS (wsP d)) (by omega), Option.bind_some, hbnum, p_50 hn hs l (by omega), Option.bind_some, hl, he]
 simp only [decide_true, cond_true, Bool.not_true, cond_false, e2]
 cases hso : sortsB (wsP d) l with
 | false => rw [cond_false]; exact last
 | true =>
  have hway := sorts_way hso (fun x hx => (n1 x hx).1)
  have hmem : l ∈ extL (wsP d).length [] := by rw [wsP_len, ← n2]; exact ext_of_way hway
  have hle := e3 l hmem hso
  have p59 := p_59 hn l (by omega) (fun x hx => by have := n1 x hx; omega)
  rw [cond_true, p59, Option.bind_some, decide_eq_false (show ¬ rn 0 l < rn 0 (bestS (wsP d)) by omega), cond_false, Option.bind_some]
  by_cases k : rn 0 l = rn 0 (bestS (wsP d))
  ·have := best_first hw hin hea hmem hso k
   rw [decide_eq_true k, cond_true, p_66 hn l _ (by omega), Option.bind_some, decide_eq_false this]
   exact last
  ·rw [decide_eq_false k, cond_false]
   exact last
theorem law_16 (d : Drum) (l c : List Int) (hlen : l.length ≤ 9223372036854775807) : s_16 1000 d l c = some true := by
 have hn : 100 ≤ 1000 := by omega
 unfold s_16
 rw [p_23, Option.bind_some]
 have out : s_16_j1 1000 d l c true = some true := by unfold s_16_j1; rw [cond_true, p_24, Option.bind_some]
 cases hsh : shortB d with
 | false => simp only [Bool.not_false, cond_true]; exact out
 | true =>
  have hs := shortB_iff.1 hsh
  have hbs := hs.e
  simp only [Bool.not_true, cond_false]
  by_cases h6 : (6 : Int) < ((c.length : Nat) : Int)
  ·rw [decide_eq_true h6, cond_true]; exact out
  ·rw [decide_eq_false h6, cond_false, p_39 hn hs, Option.bind_some]
   cases hok : okD d with
   | false => simp only [Bool.not_false, cond_true]; exact out
   | true =>
    have hd := okD_iff.1 hok
    have hbt := hd.btl
    simp only [Bool.not_true, cond_false]
    rw [p_53 (by omega) d l hlen (by omega), Option.bind_some]
    cases hl : numB d l with
    | false => simp only [Bool.not_false, cond_true]; exact out
    | true =>
     simp only [Bool.not_true, cond_false]
     rw [p_64 hn d c (by omega), Option.bind_some]
     cases hr : risB d.batches.length (-1) c with
     | false => exact out
     | true =>
      rw [Bool.not_true]
      unfold s_16_j1
      rw [cond_false, p_51 hn hs, Option.bind_some, p_52 hs, Option.bind_some]
      by_cases he : err d true = 0
      ·rw [decide_eq_true he, cond_true, cond_true]
       cases hea : eachB (wsP d) with
       | false =>
        simp only [cond_false, decide_true, Bool.not_true, show decide ((5 : Int) = 0) = false from rfl, Bool.not_false, cond_true, show decide ((5 : Int) = 7) = false from rfl]
        unfold s_16_j2
        simp only [cond_false, show decide ((5 : Int) = 0) = false from rfl, Bool.not_false, cond_true, p_24, Option.bind_some]
       | true =>
        simp only [cond_true, decide_true, Bool.not_true, cond_false]
        exact dual_core hs hd he hea l c (by omega) hl hr
      ·have h7 := ne_zero_err hok he
       rw [decide_eq_false he, cond_false, cond_false, h7]
       simp only [decide_true, Bool.not_true, cond_false, show decide ((7 : Int) = 0) = false from rfl, Bool.not_false, cond_true]
       unfold s_16_j2
       simp only [cond_false, show decide ((7 : Int) = 0) = false from rfl, Bool.not_false, cond_true, p_24, Option.bind_some]
end
end Go.Proofs.YtohmhlkdgfcaeaaGreatDoor
namespace Go.Proofs.YtohmhlkdgfcaeaaGreatDoor
open Go Go.RowKit Go.ChangeShapes Go.WideShapes
set_option maxRecDepth 100000
theorem drumDual_lifted (os : Os) (started : os.Started) (H : Type) (enc : TypeId × Value → H) :
  ReturnsInHanded {} Tryz.checked os 16 .any (fun w args => (Rows.drumDualSpec.pre enc Tryz.prog Tryz.f16 [] false w args ∧ laidMetH Tryz.prog Rows.drumDualRow.laid w) ∧ sizedMet enc Tryz.prog Tryz.f16 (OpenSpec.ofChange Rows.drumDualSpec) false w args)
   (Rows.drumDualSpec.post enc Tryz.prog Tryz.f16 false true false false) :=
 law_row (s := Rows.drumDualSpec) (enc := enc) started #[.agg #[.slice none 0 0, .int .i64 0, .int .i64 0, .slice none 0 0, .slice none 0 0, .slice none 0 0], .slice none 0 0, .slice none 0 0] (by kernel_rfl) Tryz.func16 (by kernel_rfl) (by kernel_rfl) (by kernel_rfl) rfl
   (by
    rw [Tryz.params16]
    have h : ∀ t ∈ ([27, 23, 23] : List Nat), t ∈ [3, 9, 23, 27, 54, 92] := by decide
    exact fun t ht => parT t (h t ht)) rfl
   (by
    rw [Tryz.params16]
    intro ds h
    match ds, h with
    | [d0, d1, d2], _ => rfl)
   (by
    rw [Tryz.params16]
    intro W base args ds p hval hA
    obtain ⟨args⟩ := args
    obtain ⟨v0, vs0, d0, ds0, p0, q0, e0, rfl, rfl, h0, r0⟩ := trodAll_cons hA
    have e0 : args = _ := e0; subst e0
    obtain ⟨v1, vs1, d1, ds1, p1, q1, e1, rfl, rfl, h1, r1⟩ := trodAll_cons r0
    subst e1
    obtain ⟨v2, vs2, d2, ds2, p2, q2, e2, rfl, rfl, h2, r2⟩ := trodAll_cons r1
    subst e2
    obtain ⟨rfl, rfl, rfl⟩ := trodAll_nil r2
    obtain ⟨x0, z0⟩ := rd_drum (hval 0 27 v0 rfl rfl) h0
    obtain ⟨x1, z1, y1⟩ := rd_list_len (hval 1 23 v1 rfl rfl) h1
    obtain ⟨x2, z2, y2⟩ := rd_list_len (hval 2 23 v2 rfl rfl) h2
    refine ⟨rfl, [.agg (cDrum x0), .sl (x1.map eI), .sl (x2.map eI)], ⟨rfl, ?_⟩, c_16 1000 x0 x1 x2 (law_16 x0 x1 x2 y1)⟩
    intro j c u hc hu
    match j, hc, hu with
    | 0, hc, hu => cases hc; cases hu; exact z0
    | 1, hc, hu => cases hc; cases hu; exact z1
    | 2, hc, hu => cases hc; cases hu; exact z2)
theorem drumDual_facts : factsA Tryz.prog Tryz.f16 Rows.drumDualSpec Rows.drumDualRow = true := by kernel_rfl
theorem drumDual_road0 : (Rows.drumDualRow.inPlace == Tryz.prog.inPlace 16) = true := by kernel_rfl
theorem drumDual_road1 : (Rows.drumDualRow.unfollowed == Tryz.prog.unfollowed 16) = true := by kernel_rfl
theorem drumDual_road2 : (Rows.drumDualRow.recurses == Tryz.prog.recurses 16) = true := by kernel_rfl
theorem drumDual_road3 : (Rows.drumDualRow.named == Tryz.prog.varsNamed 16) = true := by kernel_rfl
theorem drumDual_row : Rows.DrumDualSaid :=
 OpenClaim.holds_of_wide 16 Tryz.f16 rfl rfl rfl rfl rfl rfl rfl ⟨rfl, rfl, rfl, rfl, rfl⟩ rfl rfl rfl rfl rfl (by as_aux_lemma => kernel_rfl) Tryz.func16 (joined_of drumDual_facts drumDual_road0 drumDual_road1 drumDual_road2 drumDual_road3)
  (of_decide_eq_true (by as_aux_lemma => kernel_rfl)) (by unfold Func.isWrapper; rw [if_neg (of_decide_eq_false (by as_aux_lemma => kernel_rfl))]; exact ⟨rfl, rfl⟩)
  (fun os started H enc _ => drumDual_lifted os started H enc)
theorem drumDual_card : Rows.DrumDualCardSaid :=
 Claim7.holds_tied_plain_at .later [] [.data, .data, .data, .data, .pinned] true (true, "263524fd91af563947b647e8709e73ef988cdef21cccd4074f632dc410392126") true drumDual_row (fun _ h => by cases h) (by as_aux_lemma => kernel_rfl) (fun _ h => by cases h) drumDual_row_tie rfl ⟨rfl, rfl⟩ mainK rfl
  (fun f fn hf hfn => by
   obtain rfl : f = 16 := Option.some.inj ((show Tryz.prog.funcNamed "nacre/nacrelaw03.DrumDual" = some 16 by as_aux_lemma => kernel_rfl).symm.trans hf) |>.symm
   obtain rfl : fn = Tryz.f16 := (Option.some.inj (Tryz.func16.symm.trans hfn)).symm
   exact ⟨looksK, fun j t ht => by
    rw [Tryz.params16] at ht
    have hm : t ∈ [27, 23, 23] := by simpa using Array.mem_of_getElem? ht
    have h : ∀ t ∈ ([27, 23, 23] : List Nat), t ∈ [3, 9, 23, 27, 54, 92] := by decide
    exact standK t (h t hm)⟩)
  (by as_aux_lemma => kernel_rfl)
#print axioms drumDual_card
end Go.Proofs.YtohmhlkdgfcaeaaGreatDoor
