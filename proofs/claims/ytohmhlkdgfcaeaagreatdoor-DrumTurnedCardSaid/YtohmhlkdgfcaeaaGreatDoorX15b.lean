/- DrumTurned: with the batches in another order the window is the same, as many must be named, and there are as many runs. For every input that can be read as data, the tables of Go's library being as their text lays them: the call returns true, and each argument reads behind it as before. -/
import Derived.KernelRfl
import Derived.Test.YtohmhlkdgfcaeaaGreatDoorTie
import Derived.Test.YtohmhlkdgfcaeaaGreatDoorCards
import Derived.Test.YtohmhlkdgfcaeaaGreatDoorX15a
set_option linter.unusedVariables false
set_option linter.unusedSimpArgs false
namespace Go.Proofs.YtohmhlkdgfcaeaaGreatDoor
open Go Go.RowKit
def eachB (w : List Span) : Bool := w.all fun s => decide s.ne
def InH (w : List Span) : Prop := ∀ s ∈ w, 0 ≤ s.low ∧ s.high ≤ 12
def ltR (a b : List Int) : Bool := decide (rn 0 a < rn 0 b)
def bestS (w : List Span) : List Int := match (extL w.length []).filter (sortsB w) with
 | [] => []
 | x :: l => least ltR x l
theorem bit_one : ∀ i : Nat, i < 6 → ∀ j : Nat, j < 6 → hasB ((2 : Int) ^ i) j = decide (j = i) := by decide
theorem pick_one {i : Nat} (hi : i < 6) : ∀ (w : List Span) (k : Nat), k + w.length ≤ 6 → k ≤ i → pickF (2 ^ i) k w = (w[i - k]?).toList := by
 intro w
 induction w with
 | nil => intro k _ _; simp [pickF]
 | cons s r ih =>
  intro k hk hki
  simp only [List.length_cons] at hk
  rw [pickF, bit_one i hi k (by omega)]
  by_cases e : k = i
  ·subst e
   have : ∀ (r : List Span) (j : Nat), k < j → j + r.length ≤ 6 → pickF (2 ^ k) j r = [] := by
    intro r
    induction r with
    | nil => intro j _ _; rfl
    | cons t r ih2 =>
     intro j hj hl
     simp only [List.length_cons] at hl
     rw [pickF, bit_one k hi j (by omega), decide_eq_false (by omega), if_neg (by simp), ih2 (j + 1) (by omega) (by omega)]
   rw [decide_eq_true rfl, if_pos rfl, this r (k + 1) (by omega) (by omega)]
   simp
  ·rw [decide_eq_false (by omega), if_neg (by simp), ih (k + 1) (by omega) (by omega), show i - k = (i - (k + 1)) + 1 by omega, List.getElem?_cons_succ]
theorem com_one {w : List Span} (hw : w.length < 6) {i : Nat} {s : Span} (hs : w[i]? = some s) : com w (2 ^ i) = cap ⟨0, 12⟩ s := by
 have hi := (List.getElem?_eq_some_iff.1 hs).1
 unfold com
 rw [pick_one (by omega) w 0 (by omega) (by omega), Nat.sub_zero, hs]
 rfl
theorem cap_ne {s : Span} (h : 0 ≤ s.low ∧ s.high ≤ 12) : (cap ⟨0, 12⟩ s).ne ↔ s.ne := by
 simp only [cap, Span.ne]
 omega
section
variable {n : Nat} {d : Drum}
theorem p_124 (hn : 100 ≤ n) (w : List Span) (hw : w.length < 6) (hin : InH w) : s_124 n ⟨w⟩ = some (eachB w) := by
 unfold s_124
 have key : ∀ (r : List Span) (i k : Nat), w.drop i = r → i ≤ w.length → w.length < k + i → s_124_l1 n ⟨w⟩ k (i : Int) = some (r.all fun s => decide s.ne) := by
  intro r
  induction r with
  | nil =>
   intro i k hi h2 hk
   have hil : w.length ≤ i := List.drop_eq_nil_iff.1 hi
   obtain ⟨k, rfl⟩ : ∃ k', k = k' + 1 := ⟨k - 1, by omega⟩
   rw [s_124_l1, decide_eq_false (by show ¬ (i : Int) < (w.length : Int); omega), cond_false]
   rfl
  | cons s r ih =>
   intro i k hi h2 hk
   have hil : i < w.length := by
    rcases Nat.lt_or_ge i w.length with h | h
    ·exact h
    ·rw [List.drop_eq_nil_of_le h] at hi; cases hi
   obtain ⟨k, rfl⟩ : ∃ k', k = k' + 1 := ⟨k - 1, by omega⟩
   rw [List.drop_eq_getElem_cons hil] at hi
   obtain ⟨hx, hr⟩ := List.cons.inj hi
   have hg : w[i]? = some s := by rw [List.getElem?_eq_getElem hil, hx]
   have hpv := pow_bound (show i ≤ 6 by omega)
   have h63 : (2 : Int) ^ i ≤ 63 := by
    have : (2 : Nat) ^ i ≤ 2 ^ 5 := Nat.pow_le_pow_right (by omega) (by omega)
    have : (2 : Int) ^ i ≤ 2 ^ 5 := by exact_mod_cast this
    omega
   rw [s_124_l1, decide_eq_true (by show (i : Int) < (w.length : Int); omega), cond_true, shl_one (by omega), Option.bind_some, p_99 hn w (by omega) (by omega) h63, Option.bind_some, com_one hw hg, wr_of (by omega), List.all_cons]
   have e : decide (cap ⟨0, 12⟩ s).ne = decide s.ne := decide_eq_decide.2 (cap_ne (hin s (List.mem_of_getElem? hg)))
   have := ih (i + 1) k hr (by omega) (by omega)
   push_cast at this
   rw [e, this]
   cases decide s.ne <;> rfl
 exact key w 0 n (by simp) (by omega) (by omega)
theorem p_128 (hn : 100 ≤ n) (x : Int) (l : List Int) (hl : l.length ≤ 50) : s_128 n (x :: l) = some (l.foldl max x) := by
 unfold s_128
 rw [decide_eq_false (by simp only [List.length_cons]; omega), cond_false, show ix (x :: l) 0 = some x from rfl, Option.bind_some]
 have key : ∀ (r : List Int) (i k : Nat) (c : Int), (x :: l).drop i = r → i ≤ (x :: l).length → (x :: l).length < k + i → s_128_l1 (x :: l) k c (i : Int) = some (r.foldl max c) := by
  intro r
  induction r with
  | nil =>
   intro i k c hi h2 hk
   have hil : (x :: l).length ≤ i := List.drop_eq_nil_iff.1 hi
   obtain ⟨k, rfl⟩ : ∃ k', k = k' + 1 := ⟨k - 1, by omega⟩
   rw [s_128_l1, decide_eq_false (by omega), cond_false]
   rfl
  | cons y r ih =>
   intro i k c hi h2 hk
   have hil : i < (x :: l).length := by
    rcases Nat.lt_or_ge i (x :: l).length with h | h
    ·exact h
    ·rw [List.drop_eq_nil_of_le h] at hi; cases hi
   obtain ⟨k, rfl⟩ : ∃ k', k = k' + 1 := ⟨k - 1, by omega⟩
   have h51 : (x :: l).length ≤ 51 := by simp only [List.length_cons]; omega
   rw [List.drop_eq_getElem_cons hil] at hi
   obtain ⟨hx, hr⟩ := List.cons.inj hi
   rw [s_128_l1, decide_eq_true (by omega), cond_true, ix_at (List.getElem?_eq_getElem hil), Option.bind_some, hx, wr_of (by omega)]
   have := ih (i + 1) k (max c y) hr (by omega) (by omega)
   push_cast at this
   exact this
 exact key l 1 n x rfl (by simp) (by simp only [List.length_cons]; omega)
theorem fold_rn : ∀ (l : List Int) (c : Int), l.foldl max c + 1 = rn (c + 1) l := by
 intro l
 induction l with
 | nil => intro c; rfl
 | cons y r ih =>
  intro c
  rw [List.foldl_cons, ih, rn]
  congr 1
  omega
theorem p_127 (hn : 100 ≤ n) {l : List Int} (hl : l.length ≤ 50) (hne : l ≠ []) (h : Way l) : s_127 n l = some (rn 0 l) := by
 cases l with
 | nil => exact absurd rfl hne
 | cons x l =>
  have hx := h.nn x List.mem_cons_self
  have hr := h.rn
  unfold s_127
  have e := fold_rn l x
  have e2 : rn 0 (x :: l) = rn (x + 1) l := by rw [rn]; congr 1; omega
  simp only [List.length_cons] at hl hr
  rw [p_128 hn x l (by omega), Option.bind_some, e2, ← e, wr_of (by omega)]
theorem winP_in (hd : d.ok) {b : Batch} (hb : b.ok) : 0 ≤ (winP d b).low ∧ (winP d b).high ≤ 12 := by
 have hhr := hrs_le hd
 unfold winP
 by_cases h : firstH (smP d b) (hrs d + 1) 0 < 0
 ·rw [decide_eq_true h, cond_true]
  exact ⟨by show (0 : Int) ≤ 1; omega, by show (0 : Int) ≤ 12; omega⟩
 ·rw [decide_eq_false h, cond_false]
  refine ⟨by show 0 ≤ firstH (smP d b) (hrs d + 1) 0; omega, ?_⟩
  show lastH (thP d b) (hrs d + 1) ≤ 12
  by_cases h2 : lastH (thP d b) (hrs d + 1) < 0
  ·omega
  ·have := (lastH_spec _ _ (show 0 ≤ lastH (thP d b) (hrs d + 1) by omega)).2.1
   omega
theorem wsP_in (hd : d.ok) : InH (wsP d) := by
 intro s hs
 unfold wsP at hs
 obtain ⟨b, hb, rfl⟩ := List.mem_map.1 hs
 exact winP_in hd (hd.bt b hb)
def eachL (m : Nat) : List Int := (List.range m).map fun (i : Nat) => (i : Int)
theorem each_ext : ((List.range 6).all fun m => (extL m []).contains (eachL m)) = true := by kernel_rfl
theorem ext_few : ((List.range 6).all fun m => decide ((extL m []).length ≤ 60)) = true := by kernel_rfl
theorem each_rn : ((List.range 6).all fun m => decide (rn 0 (eachL m) = (m : Int)) && rgB 0 (eachL m)) = true := by kernel_rfl
theorem pick_single {v : Nat} : ∀ (w : List Span) (i : Nat), i ≤ v → pickV (v : Int) ((List.range' i w.length).map fun (j : Nat) => (j : Int)) w = (w[v - i]?).toList := by
 intro w
 induction w with
 | nil => intro i _; simp [pickV]
 | cons s r ih =>
  intro i hi
  rw [List.length_cons, List.range'_succ, List.map_cons, pickV]
  by_cases e : i = v
  ·subst e
   rw [decide_eq_true rfl, cond_true]
   have : ∀ (r : List Span) (j : Nat), i < j → pickV (i : Int) ((List.range' j r.length).map fun (j : Nat) => (j : Int)) r = [] := by
    intro r
    induction r with
    | nil => intro j _; simp [pickV]
    | cons t r ih2 =>
     intro j hj
     rw [List.length_cons, List.range'_succ, List.map_cons, pickV, decide_eq_false (by omega), cond_false]
     exact ih2 (j + 1) (by omega)
   rw [this r (i + 1) (by omega)]
   simp
  ·rw [decide_eq_false (by omega), cond_false, ih (i + 1) (by omega), show v - i = (v - (i + 1)) + 1 by omega, List.getElem?_cons_succ]
theorem each_sorts {w : List Span} (hw : w.length < 6) (hin : InH w) (he : eachB w = true) : sortsB w (eachL w.length) = true := by
 have h1 := List.all_eq_true.1 each_rn w.length (List.mem_range.2 hw)
 rw [Bool.and_eq_true, decide_eq_true_eq] at h1
 unfold sortsB
 rw [h1.2, Bool.true_and, List.all_eq_true]
 intro v hv
 have hv := List.mem_range.1 hv
 rw [h1.1] at hv
 have hvw : v < w.length := by omega
 have e : pickV (v : Int) (eachL w.length) w = [w[v]] := by
  unfold eachL
  rw [List.range_eq_range', pick_single w 0 (by omega), Nat.sub_zero, List.getElem?_eq_getElem hvw]
  rfl
 rw [e]
 have hm := List.getElem_mem hvw
 refine decide_eq_true ?_
 show (cap ⟨0, 12⟩ w[v]).ne
 rw [cap_ne (hin _ hm)]
 exact of_decide_eq_true (List.all_eq_true.1 he _ hm)
theorem best_some {w : List Span} (hw : w.length < 6) (hin : InH w) (he : eachB w = true) : ∃ x l, (extL w.length []).filter (sortsB w) = x :: l := by
 cases h : (extL w.length []).filter (sortsB w) with
 | nil =>
  have h1 := List.all_eq_true.1 each_ext w.length (List.mem_range.2 hw)
  have hm : eachL w.length ∈ (extL w.length []).filter (sortsB w) := List.mem_filter.2 ⟨by simpa using h1, each_sorts hw hin he⟩
  rw [h] at hm
  cases hm
 | cons x l => exact ⟨x, l, rfl⟩
theorem best_spec {w : List Span} (hw : w.length < 6) (hin : InH w) (he : eachB w = true) : bestS w ∈ extL w.length [] ∧ sortsB w (bestS w) = true ∧ (∀ z ∈ extL w.length [], sortsB w z = true → rn 0 (bestS w) ≤ rn 0 z) := by
 obtain ⟨x, l, h⟩ := best_some hw hin he
 have hb : bestS w = least ltR x l := by unfold bestS; rw [h]
 have hm : bestS w ∈ (extL w.length []).filter (sortsB w) := by
  rw [hb, h]
  rcases least_mem ltR l x with e | e
  ·rw [e]; exact List.mem_cons_self
  ·exact List.mem_cons_of_mem _ e
 obtain ⟨m1, m2⟩ := List.mem_filter.1 hm
 refine ⟨m1, m2, fun z hz hs => ?_⟩
 have hz2 : z ∈ (extL w.length []).filter (sortsB w) := List.mem_filter.2 ⟨hz, hs⟩
 rw [h] at hz2
 have key : ∀ (l : List (List Int)) (x z : List Int), (z = x ∨ z ∈ l) → rn 0 (least ltR x l) ≤ rn 0 z := by
  intro l
  induction l with
  | nil =>
   intro x z hz
   rcases hz with rfl | hz
   ·exact Int.le_refl _
   ·cases hz
  | cons y r ih =>
   intro x z hz
   rw [least]
   cases hc : ltR y x with
   | true =>
    rw [cond_true]
    have hc := of_decide_eq_true hc
    rcases hz with rfl | hz
    ·have := ih y y (.inl rfl); omega
    ·rcases List.mem_cons.1 hz with rfl | hz
     ·exact ih z z (.inl rfl)
     ·exact ih y z (.inr hz)
   | false =>
    rw [cond_false]
    have hc := of_decide_eq_false hc
    rcases hz with rfl | hz
    ·exact ih z z (.inl rfl)
    ·rcases List.mem_cons.1 hz with rfl | hz
     ·have := ih x x (.inl rfl); omega
     ·exact ih x z (.inr hz)
 rw [hb]
 exact key l x z (by simpa using hz2)
theorem p_51 (hn : 100 ≤ n) (hs : Short d) : s_51 n d = some (bif decide (err d true = 0) then (bif eachB (wsP d) then (bestS (wsP d), rn 0 (bestS (wsP d)), 0) else ([], 0, 5)) else ([], 0, err d true)) := by
 unfold s_51
 rw [p_84 hn hs, Option.bind_some]
 by_cases he : err d true = 0
 ·obtain ⟨h1, _, hne⟩ := err_zero he
  have hd := okD_iff.1 h1
  have hbt := hd.btl
  have hl : (wsP d).length < 6 := by rw [wsP_len]; omega
  have hin := wsP_in hd
  simp only [he, decide_true, Bool.not_true, cond_true, if_neg (show ¬ (false = true) by simp)]
  rw [p_98 hd hn hne, Option.bind_some, p_124 hn _ hl hin, Option.bind_some]
  cases hea : eachB (wsP d) with
  | false => rfl
  | true =>
   obtain ⟨x, l, hf⟩ := best_some hl hin hea
   have hlen : d.batches.length = (wsP d).length := wsP_len.symm
   have h6 : 6 ^ (wsP d).length ≤ 6 ^ 5 := Nat.pow_le_pow_right (by omega) (by omega)
   have hall : ∀ z, (z = x ∨ z ∈ l) → Way z ∧ z.length = (wsP d).length := by
    intro z hz
    have hz : z ∈ (extL (wsP d).length []).filter (sortsB (wsP d)) := by rw [hf]; simpa using hz
    obtain ⟨a, b⟩ := ext_mem _ [] z Way.nil (List.mem_filter.1 hz).1
    exact ⟨a, by simpa using b⟩
   have hmany : ∀ z, (z = x ∨ z ∈ l) → s_127 n z = some (rn 0 z) := by
    intro z hz
    obtain ⟨a, b⟩ := hall z hz
    exact p_127 hn (by omega) (by intro e; rw [e] at b; simp at b; omega) a
   have hln : l.length ≤ 60 := by
    have h1 := List.length_filter_le (sortsB (wsP d)) (extL (wsP d).length [])
    have h2 := of_decide_eq_true (List.all_eq_true.1 ext_few (wsP d).length (List.mem_range.2 hl))
    rw [hf, List.length_cons] at h1
    omega
   have hbest : bestS (wsP d) = least ltR x l := by unfold bestS; rw [hf]
   have h125 := p_125 hn (wsP d) hl hlen (wsP d).length n [] [] (by simp) (by omega) Way.nil (by simp; omega)
   rw [List.nil_append, hf] at h125
   have h129 := p_129 hn ltR (fun y z => s_130 n y z (fun v => s_127 n v)) x l (by omega) (by omega) (fun y z hy hz => by
    unfold s_130
    show ((s_127 n y).bind fun v101 => (s_127 n z).bind fun v102 => some (decide (v101 < v102))) = _
    rw [hmany y hy, Option.bind_some, hmany z hz, Option.bind_some]
    rfl)
   have hbm : least ltR x l = x ∨ least ltR x l ∈ l := least_mem ltR l x
   simp only [Bool.not_true, if_neg (show ¬ (false = true) by simp), cond_true]
   rw [h125, Option.bind_some, h129, Option.bind_some]
   show (s_127 n (least ltR x l)).bind _ = _
   rw [hmany _ hbm, Option.bind_some, hbest]
 ·simp only [decide_eq_false he, Bool.not_false, cond_true, cond_false, if_true]
end
end Go.Proofs.YtohmhlkdgfcaeaaGreatDoor
namespace Go.Proofs.YtohmhlkdgfcaeaaGreatDoor
open Go Go.RowKit
section
variable {n : Nat} {d : Drum}
theorem bestS_way {w : List Span} (hw : w.length < 6) (hin : InH w) (he : eachB w = true) : Way (bestS w) ∧ (bestS w).length = w.length := by
 obtain ⟨a, b⟩ := ext_mem w.length [] _ Way.nil (best_spec hw hin he).1
 exact ⟨a, by simpa using b⟩
end
end Go.Proofs.YtohmhlkdgfcaeaaGreatDoor
namespace Go.Proofs.YtohmhlkdgfcaeaaGreatDoor
open Go Go.RowKit
set_option maxRecDepth 4000
attribute [local irreducible] W Ops GS GSG
def s_15_l2 (n : Nat) (v0 : Drum) (v1 : Int) : Nat → Int → (List Batch) → Option (Bool)
| 0, _, _ => none
| k2 + 1, v115, v116 => bif (decide (v115 < (v0.batches.length : Int))) then ( (rem .i64 v1 (v0.batches.length : Int)).bind fun v121 => (rem .i64 (wr (v115 + v121)) (v0.batches.length : Int)).bind fun v122 => (ix v0.batches v122).bind fun v123 => (app v116 ([v123])).bind fun v124 => (s_15_l2 n v0 v1 k2) (wr (v115 + 1)) v124 ) else (
 (s_46 n v0).bind fun v125 => (s_46 n (Drum.mk v0.acids v0.known v0.hours v0.adds v0.strips v116)).bind fun v126 => (s_61 n v0).bind fun v127 => (s_61 n (Drum.mk v0.acids v0.known v0.hours v0.adds v0.strips v116)).bind fun v128 => (s_51 n v0).bind fun v129 => (s_51 n (Drum.mk v0.acids v0.known v0.hours v0.adds v0.strips v116)).bind fun v130 => bif (decide (v125.2 = v126.2)) then (
 bif (decide (v125.1 = v126.1)) then ( bif (decide (v127.2 = v128.2)) then ( bif (decide ((v127.1.length : Int) = (v128.1.length : Int))) then ( bif (decide (v129.2.2 = v130.2.2)) then ( bif (decide (v129.2.1 = v130.2.1)) then ( (s_24 n ).bind fun v131 => some (v131) ) else ( some (false) ) ) else ( some (false) ) ) else ( some (false) ) ) else ( some (false) ) ) else (
 some (false) ) ) else ( some (false) ) )
def s_15_j1 (n : Nat) (v0 : Drum) (v1 : Int) (v103 : Bool) : Option (Bool) := bif v103 then ( (s_24 n ).bind fun v104 => some (v104) ) else ( s_15_l2 n v0 v1 n 0 [] )
def s_15 (n : Nat) (v0 : Drum) (v1 : Int) : Option (Bool) := (s_23 n v0).bind fun v101 => bif (!v101) then ( s_15_j1 n v0 v1 true ) else ( (s_39 n v0).bind fun v102 => bif (!v102) then ( s_15_j1 n v0 v1 true ) else ( s_15_j1 n v0 v1 (decide (v1 < 0)) ) )
theorem c_15 (n : Nat) (v0 : Drum) (v1 : Int) {r : (Bool)} (h : s_15 n v0 v1 = some r) :
  Fun Tryz.prog 15 [.agg (cDrum v0), .val (.int .i64 v1)] (.ret (.b r)) := by
 unfold s_15 at h
 refine enterW 126 Tryz.func15 q q q ?_
 intro w0 F0
 change W _ _ (Ev [(0, .pv (.agg (cDrum v0))), (1, .pv (.i v1))]) _
 refine W.seq<|W.region<|ob (g_box q q q q q) q q<|va q q q q q<|on0<|Sq.n<|W.seq<|W.seqJ (σ := Bool) (fun s => (⟨[(1, .pv (.i v1)), (2, .box 2 0), (33, .pv (.b s))], [(2, 27, [.pv (.sl (List.map cAcid v0.acids)), .pv (.i v0.known), .pv (.i v0.hours), .pv (.sl (List.map eI v0.adds)), .pv (.sl (List.map cStrip v0.strips)), .pv (.sl (List.map cBatch v0.batches))])], []⟩ : Env)) (fun s => s_15_j1 n v0 v1 s = some r) ?_ ?_
 ·refine W.region<|ov (g_loadA q q q q q ag_27 sz_27 q q) q ?_
  obtain ⟨v101, e101, h⟩ := bind_some h
  refine ov (g_call q q q ca_23 q (c_23 _ _ e101)) q<|ov (g_not q q q q) q<|vm q q q q q<|Ops.split 25 q (fun hb => ?_) (fun hb => ?_)
  ·have h := bif_t h hb
   refine o2 q q q q q q<|o2 q q q q q q<|o2 q q q q q q<|vt q q q q q q<|vm q q q q q<|o2 q q q q q q<|o2 q q q q q q<|vt q q q q q q<|on0<|Sq.n<|⟨true, h, has_mk ⟨q, q, q, trivial⟩ ⟨q, trivial⟩ trivial q⟩
  ·have h := bif_f h hb
   refine on q q q<|ov (g_loadA q q q q q ag_27 sz_27 q q) q<|on q q q ?_
   obtain ⟨v102, e102, h⟩ := bind_some h
   refine ov (g_call q q q ca_39 q (c_39 _ _ e102)) q<|on q q q<|ov (g_not q q q q) q<|vf q q q q q q<|vm q q q q q<|Ops.split 30 q (fun hb => ?_) (fun hb => ?_)
   ·have h := bif_t h hb
    refine o2 q q q q q q<|o2 q q q q q q<|vt q q q q q q<|on0<|Sq.n<|⟨true, h, has_mk ⟨q, q, q, trivial⟩ ⟨q, trivial⟩ trivial q⟩
   ·have h := bif_f h hb
    refine on q q q<|vm q q q q q<|on q q q<|ov (g_lss q q q q q) q<|vf q q q q q q<|on0<|Sq.n<|⟨(decide (v1 < 0)), h, has_mk ⟨q, q, q, trivial⟩ ⟨q, trivial⟩ trivial q⟩
 ·rintro v103 h
  change s_15_j1 n v0 v1 v103 = some r at h
  unfold s_15_j1 at h
  change W _ _ (⟨[(1, .pv (.i v1)), (2, .box 2 0), (33, .pv (.b v103))], [(2, 27, [.pv (.sl (List.map cAcid v0.acids)), .pv (.i v0.known), .pv (.i v0.hours), .pv (.sl (List.map eI v0.adds)), .pv (.sl (List.map cStrip v0.strips)), .pv (.sl (List.map cBatch v0.batches))])], []⟩ : Env) _
  refine W.cond (b := v103) q (fun hc => ?_) (fun hc => ?_)
  ·have h := bif_t h hc
   refine W.seq<|W.region ?_
   obtain ⟨v104, e104, h⟩ := bind_some h
   refine ov (g_call q q q ca_24 q (c_24 _  e104)) q<|va q q q q q<|on0<|Sq.n<|W.ret<|Sq.r ?_
   obtain rfl := Option.some.inj h
   exact Fin.r q (.cons (.tmp _ _ q) .nil) q
  ·have h := bif_f h hc
   refine W.skip<|Sq.n<|W.seq<|W.region<|ov (g_loadA q q q q q ag_27 sz_27 q q) q<|ob (g_alloc q q q zr_27) q q<|Ops.step q (s_storeB q q q q q q sz_27 q q)<|on0<|Sq.n<|W.seq<|W.region<|ov (g_fld q q q q fl_27_5) q<|Ops.step q (s_storeB q q q q q q sz_25 q q)<|on0<|Sq.n<|W.seq<|W.region<|ov (g_fld q q q q fl_27_5) q<|ov (g_load1 q q q q q q ag_25) q<|ov (g_lenM (l := v0.batches) (enc := cBatch) q ul_25 q q q) q<|va q q q q q<|on0<|Sq.n<|W.seq<|W.seq<|W.region<|va q q q q q<|on0<|Sq.n<|W.block<|W.conv (Conv.nilcell 5 5 59 67 6 q q q)<|W.loop (σ := Nat × Int × (List Batch)) (fun s => (⟨[(1, .pv (.i v1)), (2, .box 2 0), (5, .box 5 0), (6, .pv (.val (.int .i64 (v0.batches.length : Int)))), (7, .pv (.i s.2.1))], [(2, 27, [.pv (.sl (List.map cAcid v0.acids)), .pv (.i v0.known), .pv (.i v0.hours), .pv (.sl (List.map eI v0.adds)), .pv (.sl (List.map cStrip v0.strips)), .pv (.sl (List.map cBatch v0.batches))]), (5, 27, [.pv (.sl (List.map cAcid v0.acids)), .pv (.i v0.known), .pv (.i v0.hours), .pv (.sl (List.map eI v0.adds)), .pv (.sl (List.map cStrip v0.strips)), .row 59])], [(59, ⟨67, 6, List.map cBatch s.2.2⟩)]⟩ : Env)) (fun s => s_15_l2 n v0 v1 s.1 s.2.1 s.2.2 = some r) (fun s => s.1) (n, 0, []) h (has_mk ⟨q, q, q, q, q, trivial⟩ ⟨q, q, trivial⟩ ⟨q, trivial⟩ q) ?_
   rintro ⟨k2, v115, v116⟩ h
   change s_15_l2 n v0 v1 k2 v115 v116 = some r at h
   rcases k2 with _ | k2
   ·rw [s_15_l2] at h
    cases h
   ·rw [s_15_l2] at h
    change W _ _ (⟨[(1, .pv (.i v1)), (2, .box 2 0), (5, .box 5 0), (6, .pv (.val (.int .i64 (v0.batches.length : Int)))), (7, .pv (.i v115))], [(2, 27, [.pv (.sl (List.map cAcid v0.acids)), .pv (.i v0.known), .pv (.i v0.hours), .pv (.sl (List.map eI v0.adds)), .pv (.sl (List.map cStrip v0.strips)), .pv (.sl (List.map cBatch v0.batches))]), (5, 27, [.pv (.sl (List.map cAcid v0.acids)), .pv (.i v0.known), .pv (.i v0.hours), .pv (.sl (List.map eI v0.adds)), .pv (.sl (List.map cStrip v0.strips)), .row 59])], [(59, ⟨67, 6, List.map cBatch v116⟩)]⟩ : Env) _
    refine W.seq<|W.seq<|W.region<|vm q q q q q<|vm q q q q q<|ov (g_lss q q q q q) q<|on0<|Sq.n<|W.cond (b := (decide (v115 < (v0.batches.length : Int)))) q (fun hc => ?_) (fun hc => ?_)
    ·have h := bif_t h hc
     refine W.skip<|Sq.n<|W.seq<|W.block ?_
     obtain ⟨v121, e121, h⟩ := bind_some h
     obtain ⟨v122, e122, h⟩ := bind_some h
     obtain ⟨v123, e123, h⟩ := bind_some h
     refine W.draw (m := 14) Checked.mixed (Pre.v (GSG.of q (g_fld q q q q fl_27_5)) ((Pre.v (GSG.of q (g_load1 q q q q q q ag_25)) ((Pre.v (GSG.of q (g_fld q q q q fl_27_5)) ((Pre.v (GSG.of q (g_load1 q q q q q q ag_25)) ((Pre.v (GSG.of q (g_move q q q q)) ((Pre.v (GSG.of q (g_move q q q q)) ((Pre.v (GSG.of q (g_move q q q q)) ((Pre.v (GSG.of q (g_remI e121 q q q q q)) ((Pre.v (GSG.of q (g_add q q q q q)) ((Pre.v (GSG.of q (g_move q q q q)) ((Pre.v (GSG.of q (g_remI e122 q q q q q)) ((Pre.v (GSG.of q (g_idxI (l := v0.batches) (enc := cBatch) e123 q q q q q el_25 q)) ((Pre.v (GSG.of q (g_loadRA q q q q ag_67 sz_67 q q)) ((Pre.r (GSG.of q (g_buildSlice (cs := [.val (.int .i64 v123.rough), .val (.int .i64 v123.goal), .val (.int .i64 v123.thick), .val (.int .i64 v123.least), .val (.int .i64 v123.polish), .val (.int .i64 v123.eat)]) (es := List.map cBatch [v123]) q q q el_25 ⟨_, zr_67⟩ q q q q q q)) q (Pre.nil _)))))))))))))))))))))))))))) (by kernel_rfl) ?_
     obtain ⟨v124, e124, h⟩ := bind_some h
     exact Ops.step q (s_appendR (enc := cBatch) e124 q q q q q q q q ex_25 (fun _ => q))<|ov (g_fld q q q q fl_27_5) q<|Ops.step q (s_storeB q q q q q q sz_25 q q)<|on0<|Bl.n<|Sq.n<|W.region<|vm q q q q q<|ov (g_add q q q q q) q<|va q q q q q<|on0<|Sq.n<|⟨(k2, wr (v115 + 1), v124), h, Nat.lt_succ_self _, has_mk ⟨q, q, q, q, q, trivial⟩ ⟨q, q, trivial⟩ ⟨q, trivial⟩ q⟩
    ·have h := bif_f h hc
     refine W.exit<|Sq.e<|Sq.e<|Bl.e<|Sq.n<|W.seq<|W.region<|ov (g_loadA q q q q q ag_27 sz_27 q q) q ?_
     obtain ⟨v125, e125, h⟩ := bind_some h
     refine ov (g_call q q q ca_46 q (c_46 _ _ e125)) q<|vm q q q q q<|ov (g_extract q q q q q) q<|ov (g_extract q q q q q) q<|ob (g_alloc q q q zr_57) q q<|Ops.step q (s_storeB q q q q q q sz_57 q q)<|va q q q q q<|on0<|Sq.n<|W.seq<|W.region<|Ops.share (k := 59) q<|ov (g_loadA q q q q q ag_27 sz_27 q q) q ?_
     obtain ⟨v126, e126, h⟩ := bind_some h
     refine ov (g_call q q q ca_46 q (c_46 _ _ e126)) q<|vm q q q q q<|ov (g_extract q q q q q) q<|ov (g_extract q q q q q) q<|ob (g_alloc q q q zr_57) q q<|Ops.step q (s_storeB q q q q q q sz_57 q q)<|va q q q q q<|on0<|Sq.n<|W.seq<|W.region<|ov (g_loadA q q q q q ag_27 sz_27 q q) q ?_
     obtain ⟨v127, e127, h⟩ := bind_some h
     refine ov (g_call q q q ca_61 q (c_61 _ _ e127)) q<|vm q q q q q<|ov (g_extract q q q q q) q<|ov (g_extract q q q q q) q<|va q q q q q<|va q q q q q<|on0<|Sq.n<|W.seq<|W.region<|ov (g_loadA q q q q q ag_27 sz_27 q q) q ?_
     obtain ⟨v128, e128, h⟩ := bind_some h
     refine ov (g_call q q q ca_61 q (c_61 _ _ e128)) q<|vm q q q q q<|ov (g_extract q q q q q) q<|ov (g_extract q q q q q) q<|va q q q q q<|va q q q q q<|on0<|Sq.n<|W.seq<|W.region<|ov (g_loadA q q q q q ag_27 sz_27 q q) q ?_
     obtain ⟨v129, e129, h⟩ := bind_some h
     refine ov (g_call q q q ca_51 q (c_51 _ _ e129)) q<|vm q q q q q<|ov (g_extract q q q q q) q<|ov (g_extract q q q q q) q<|ov (g_extract q q q q q) q<|va q q q q q<|va q q q q q<|va q q q q q<|on0<|Sq.n<|W.seq<|W.region<|ov (g_loadA q q q q q ag_27 sz_27 q q) q ?_
     obtain ⟨v130, e130, h⟩ := bind_some h
     refine ov (g_call q q q ca_51 q (c_51 _ _ e130)) q<|vm q q q q q<|ov (g_extract q q q q q) q<|ov (g_extract q q q q q) q<|ov (g_extract q q q q q) q<|va q q q q q<|va q q q q q<|va q q q q q<|on0<|Sq.n<|W.seq<|W.region<|vm q q q q q<|vm q q q q q<|ov (g_eql q q q q q) q<|vm q q q q q<|Ops.split 96 q (fun hb => ?_) (fun hb => ?_)
     ·have h := bif_t h hb
      refine on q q q<|ov (g_loadA q q q q q ag_57 sz_57 q q) q<|on q q q<|ov (g_loadA q q q q q ag_57 sz_57 q q) q<|on q q q<|ov (g_eql_57 (a := v125.1) (b := v126.1) q q q q q) q<|vt q q q q q q<|vm q q q q q<|Ops.split 101 q (fun hb => ?_) (fun hb => ?_)
      ·have h := bif_t h hb
       refine on q q q<|vm q q q q q<|on q q q<|vm q q q q q<|on q q q<|ov (g_eql q q q q q) q<|vt q q q q q q<|vm q q q q q<|Ops.split 106 q (fun hb => ?_) (fun hb => ?_)
       ·have h := bif_t h hb
        refine on q q q<|vm q q q q q<|on q q q<|ov (g_lenM (l := v127.1) (enc := eI) q ul_23 q q q) q<|on q q q<|vm q q q q q<|on q q q<|ov (g_lenM (l := v128.1) (enc := eI) q ul_23 q q q) q<|on q q q<|ov (g_eql q q q q q) q<|vt q q q q q q<|vm q q q q q<|Ops.split 113 q (fun hb => ?_) (fun hb => ?_)
        ·have h := bif_t h hb
         refine on q q q<|vm q q q q q<|on q q q<|vm q q q q q<|on q q q<|ov (g_eql q q q q q) q<|vt q q q q q q<|vm q q q q q<|Ops.split 118 q (fun hb => ?_) (fun hb => ?_)
         ·have h := bif_t h hb
          refine on q q q<|vm q q q q q<|on q q q<|vm q q q q q<|on q q q<|ov (g_eql q q q q q) q<|vt q q q q q q<|vm q q q q q<|Ops.split 123 q (fun hb => ?_) (fun hb => ?_)
          ·have h := bif_t h hb
           refine on q q q ?_
           obtain ⟨v131, e131, h⟩ := bind_some h
           refine ov (g_call q q q ca_24 q (c_24 _  e131)) q<|vt q q q q q q<|va q q q q q<|on0<|Sq.n<|W.ret ?_
           obtain rfl := Option.some.inj h
           exact Fin.r q (.cons (.tmp _ _ q) .nil) q
          ·have h := bif_f h hb
           refine o2 q q q q q q<|vf q q q q q q<|va q q q q q<|on0<|Sq.n<|W.ret ?_
           obtain rfl := Option.some.inj h
           exact Fin.r q (.cons (.tmp _ _ q) .nil) q
         ·have h := bif_f h hb
          refine o2 q q q q q q<|o2 q q q q q q<|o2 q q q q q q<|vf q q q q q q<|vm q q q q q<|o2 q q q q q q<|vf q q q q q q<|va q q q q q<|on0<|Sq.n<|W.ret ?_
          obtain rfl := Option.some.inj h
          exact Fin.r q (.cons (.tmp _ _ q) .nil) q
        ·have h := bif_f h hb
         refine o2 q q q q q q<|o2 q q q q q q<|o2 q q q q q q<|vf q q q q q q<|vm q q q q q<|o2 q q q q q q<|o2 q q q q q q<|o2 q q q q q q<|vf q q q q q q<|vm q q q q q<|o2 q q q q q q<|vf q q q q q q<|va q q q q q<|on0<|Sq.n<|W.ret ?_
         obtain rfl := Option.some.inj h
         exact Fin.r q (.cons (.tmp _ _ q) .nil) q
       ·have h := bif_f h hb
        refine o2 q q q q q q<|o2 q q q q q q<|o2 q q q q q q<|o2 q q q q q q<|o2 q q q q q q<|vf q q q q q q<|vm q q q q q<|o2 q q q q q q<|o2 q q q q q q<|o2 q q q q q q<|vf q q q q q q<|vm q q q q q<|o2 q q q q q q<|o2 q q q q q q<|o2 q q q q q q<|vf q q q q q q<|vm q q q q q<|o2 q q q q q q<|vf q q q q q q<|va q q q q q<|on0<|Sq.n<|W.ret ?_
        obtain rfl := Option.some.inj h
        exact Fin.r q (.cons (.tmp _ _ q) .nil) q
      ·have h := bif_f h hb
       refine o2 q q q q q q<|o2 q q q q q q<|o2 q q q q q q<|vf q q q q q q<|vm q q q q q<|o2 q q q q q q<|o2 q q q q q q<|o2 q q q q q q<|o2 q q q q q q<|o2 q q q q q q<|vf q q q q q q<|vm q q q q q<|o2 q q q q q q<|o2 q q q q q q<|o2 q q q q q q<|vf q q q q q q<|vm q q q q q<|o2 q q q q q q<|o2 q q q q q q<|o2 q q q q q q<|vf q q q q q q<|vm q q q q q<|o2 q q q q q q<|vf q q q q q q<|va q q q q q<|on0<|Sq.n<|W.ret ?_
       obtain rfl := Option.some.inj h
       exact Fin.r q (.cons (.tmp _ _ q) .nil) q
     ·have h := bif_f h hb
      refine o2 q q q q q q<|o2 q q q q q q<|o2 q q q q q q<|vf q q q q q q<|vm q q q q q<|o2 q q q q q q<|o2 q q q q q q<|o2 q q q q q q<|vf q q q q q q<|vm q q q q q<|o2 q q q q q q<|o2 q q q q q q<|o2 q q q q q q<|o2 q q q q q q<|o2 q q q q q q<|vf q q q q q q<|vm q q q q q<|o2 q q q q q q<|o2 q q q q q q<|o2 q q q q q q<|vf q q q q q q<|vm q q q q q<|o2 q q q q q q<|o2 q q q q q q<|o2 q q q q q q<|vf q q q q q q<|vm q q q q q<|o2 q q q q q q<|vf q q q q q q<|va q q q q q<|on0<|Sq.n<|W.ret ?_
      obtain rfl := Option.some.inj h
      exact Fin.r q (.cons (.tmp _ _ q) .nil) q
end Go.Proofs.YtohmhlkdgfcaeaaGreatDoor
namespace Go.Proofs.YtohmhlkdgfcaeaaGreatDoor
open Go Go.RowKit
theorem nodup_sub {α : Type} [BEq α] [LawfulBEq α] : ∀ (A B : List α), A.Nodup → (∀ x ∈ A, x ∈ B) → A.length ≤ B.length := by
 intro A
 induction A with
 | nil => intro B _ _; simp
 | cons a A ih =>
  intro B hn hs
  obtain ⟨h1, h2⟩ := List.nodup_cons.1 hn
  have ha := hs a List.mem_cons_self
  have := ih (B.erase a) h2 (fun x hx => by
   have hne : x ≠ a := fun e => h1 (e ▸ hx)
   exact (List.mem_erase_of_ne hne).2 (hs x (List.mem_cons_of_mem _ hx)))
  rw [List.length_erase_of_mem ha] at this
  have := List.length_pos_of_mem ha
  rw [List.length_cons]
  omega
def ptOf (P : List Int) (s : Span) : Int := (P.find? (fun x => decide (s.mem x))).getD 0
theorem pt_spec {P : List Int} {s : Span} (h : ∃ x ∈ P, s.mem x) : ptOf P s ∈ P ∧ s.mem (ptOf P s) := by
 unfold ptOf
 cases hf : P.find? (fun x => decide (s.mem x)) with
 | none =>
  obtain ⟨x, h1, h2⟩ := h
  have := List.find?_eq_none.1 hf x h1
  simp [h2] at this
 | some x =>
  have h2 := List.find?_some (p := fun x => decide (s.mem x)) hf
  exact ⟨List.mem_of_find?_eq_some hf, of_decide_eq_true h2⟩
def idxI : List Int → Int → Nat
 | [], _ => 0
 | y :: r, x => bif decide (y = x) then 0 else idxI r x + 1
theorem idx_spec : ∀ (l : List Int) (x : Int), x ∈ l → l[idxI l x]? = some x := by
 intro l
 induction l with
 | nil => intro x h; cases h
 | cons y r ih =>
  intro x h
  rw [idxI]
  by_cases e : y = x
  ·rw [decide_eq_true e, cond_true, e]; rfl
  ·rw [decide_eq_false e, cond_false, List.getElem?_cons_succ]
   rcases List.mem_cons.1 h with h | h
   ·exact absurd h.symm e
   ·exact ih x h
def canon (P : List Int) : List Int → List Span → List Int
 | _, [] => []
 | seen, s :: r => bif seen.contains (ptOf P s) then (idxI seen (ptOf P s) : Int) :: canon P seen r else (seen.length : Int) :: canon P (seen ++ [ptOf P s]) r
def finP (P : List Int) : List Int → List Span → List Int
 | seen, [] => seen
 | seen, s :: r => bif seen.contains (ptOf P s) then finP P seen r else finP P (seen ++ [ptOf P s]) r
theorem fin_pre (P : List Int) : ∀ (w : List Span) (seen : List Int) (v : Nat), v < seen.length → (finP P seen w)[v]? = seen[v]? := by
 intro w
 induction w with
 | nil => intro seen v _; rfl
 | cons s r ih =>
  intro seen v hv
  rw [finP]
  cases seen.contains (ptOf P s) with
  | true => rw [cond_true]; exact ih seen v hv
  | false =>
   rw [cond_false, ih _ v (by simp; omega), List.getElem?_append_left hv]
theorem canon_spec (P : List Int) : ∀ (w : List Span) (seen : List Int), (∀ s ∈ w, ∃ x ∈ P, s.mem x) → seen.Nodup → (∀ x ∈ seen, x ∈ P) →
  rgB seen.length (canon P seen w) = true ∧ rn seen.length (canon P seen w) = (finP P seen w).length ∧ (canon P seen w).length = w.length ∧ (∀ x ∈ canon P seen w, 0 ≤ x) ∧ (finP P seen w).Nodup ∧ (∀ x ∈ finP P seen w, x ∈ P) ∧
  ∀ (v : Nat) (s : Span), s ∈ pickV (v : Int) (canon P seen w) w → ∃ x, (finP P seen w)[v]? = some x ∧ s.mem x := by
 intro w
 induction w with
 | nil =>
  intro seen _ h1 h2
  exact ⟨rfl, rfl, rfl, by simp [canon], h1, h2, fun v s h => by cases h⟩
 | cons s r ih =>
  intro seen hp h1 h2
  obtain ⟨p1, p2⟩ := pt_spec (hp s List.mem_cons_self)
  have hp2 : ∀ s ∈ r, ∃ x ∈ P, s.mem x := fun t ht => hp t (List.mem_cons_of_mem _ ht)
  rw [canon, finP]
  cases hc : seen.contains (ptOf P s) with
  | true =>
   have hm : ptOf P s ∈ seen := by simpa using hc
   have hi := idx_spec seen _ hm
   have hlt := (List.getElem?_eq_some_iff.1 hi).1
   obtain ⟨a1, a2, a3, a4, a5, a6, a7⟩ := ih seen hp2 h1 h2
   have emax : max (seen.length : Int) ((idxI seen (ptOf P s) : Int) + 1) = (seen.length : Int) := by omega
   rw [cond_true, cond_true]
   refine ⟨?_, ?_, by simp [a3], ?_, a5, a6, ?_⟩
   ·rw [rgB, emax, a1, decide_eq_true (by omega)]; rfl
   ·rw [rn, emax, a2]
   ·intro x hx
    rcases List.mem_cons.1 hx with rfl | hx
    ·omega
    ·exact a4 x hx
   ·intro v t ht
    rw [pickV] at ht
    by_cases e : (idxI seen (ptOf P s) : Int) = (v : Int)
    ·rw [decide_eq_true e, cond_true] at ht
     rcases List.mem_cons.1 ht with rfl | ht
     ·have e2 : idxI seen (ptOf P t) = v := by omega
      subst e2
      exact ⟨_, (fin_pre P r seen _ hlt).trans hi, p2⟩
     ·exact a7 v t ht
    ·rw [decide_eq_false e, cond_false] at ht
     exact a7 v t ht
  | false =>
   have hm : ptOf P s ∉ seen := by
    intro h
    have : seen.contains (ptOf P s) = true := by simpa using h
    rw [this] at hc; cases hc
   have hnd : (seen ++ [ptOf P s]).Nodup := by
    rw [List.nodup_append]
    exact ⟨h1, by simp, fun a ha b hb e => by
     obtain rfl := List.mem_singleton.1 hb
     subst e
     exact hm ha⟩
   have hsub : ∀ x ∈ seen ++ [ptOf P s], x ∈ P := fun x hx => by
    rcases List.mem_append.1 hx with hx | hx
    ·exact h2 x hx
    ·obtain rfl := List.mem_singleton.1 hx; exact p1
   have hl : (seen ++ [ptOf P s]).length = seen.length + 1 := by simp
   obtain ⟨a1, a2, a3, a4, a5, a6, a7⟩ := ih (seen ++ [ptOf P s]) hp2 hnd hsub
   have emax : max (seen.length : Int) ((seen.length : Int) + 1) = ((seen ++ [ptOf P s]).length : Int) := by rw [hl]; push_cast; omega
   rw [cond_false, cond_false]
   refine ⟨?_, ?_, by simp [a3], ?_, a5, a6, ?_⟩
   ·rw [rgB, emax, a1, decide_eq_true (by omega)]; rfl
   ·rw [rn, emax, a2]
   ·intro x hx
    rcases List.mem_cons.1 hx with rfl | hx
    ·omega
    ·exact a4 x hx
   ·intro v t ht
    rw [pickV] at ht
    by_cases e : (seen.length : Int) = (v : Int)
    ·rw [decide_eq_true e, cond_true] at ht
     rcases List.mem_cons.1 ht with rfl | ht
     ·have e2 : seen.length = v := by omega
      subst e2
      exact ⟨_, (fin_pre P r _ _ (by omega)).trans (by simp), p2⟩
     ·exact a7 v t ht
    ·rw [decide_eq_false e, cond_false] at ht
     exact a7 v t ht
theorem way_ext : ∀ (k : Nat) (l z : List Int), Way (l ++ z) → z.length = k → l ++ z ∈ extL k l := by
 intro k
 induction k with
 | zero =>
  intro l z _ hz
  obtain rfl := List.eq_nil_of_length_eq_zero hz
  rw [List.append_nil]
  exact List.mem_cons_self
 | succ k ih =>
  intro l z h hz
  cases z with
  | nil => cases hz
  | cons x z =>
   have e : l ++ x :: z = (l ++ [x]) ++ z := by simp
   rw [e] at h ⊢
   refine List.mem_flatMap.2 ⟨l ++ [x], ?_, ih _ z h (by simpa using hz)⟩
   have hx : 0 ≤ x := h.nn x (by simp)
   have hr : rgB 0 (l ++ [x]) = true := by
    have : ∀ (z l : List Int), rgB 0 (l ++ z) = true → rgB 0 l = true := by
     intro z
     induction z with
     | nil => intro l h; rw [List.append_nil] at h; exact h
     | cons y z ih2 =>
      intro l h
      have e : l ++ y :: z = (l ++ [y]) ++ z := by simp
      rw [e] at h
      have := ih2 _ h
      rw [rgB_app, Bool.and_eq_true] at this
      exact this.1
    exact this z _ h.rg
   rw [rgB_app, Bool.and_eq_true, decide_eq_true_eq] at hr
   unfold stepL
   have hge := rn_ge l 0
   exact List.mem_map.2 ⟨x.toNat, List.mem_range.2 (by omega), by rw [show ((x.toNat : Nat) : Int) = x by omega]⟩
theorem ext_of_way {l : List Int} (h : Way l) : l ∈ extL l.length [] := by
 have := way_ext l.length [] l (by simpa using h) rfl
 simpa using this
theorem sort_of_pierce {w : List Span} {P : List Int} (hP : Pierce w P) : ∃ l, Way l ∧ l.length = w.length ∧ sortsB w l = true ∧ rn 0 l ≤ P.length := by
 obtain ⟨a1, a2, a3, a4, a5, a6, a7⟩ := canon_spec P w [] hP.2 List.nodup_nil (by simp)
 refine ⟨canon P [] w, ⟨a1, a4⟩, a3, ?_, ?_⟩
 ·unfold sortsB
  rw [show rgB 0 (canon P [] w) = true from a1, Bool.true_and, List.all_eq_true]
  intro v hv
  have hv := List.mem_range.1 hv
  have hv2 : v < (finP P [] w).length := by
   have : rn 0 (canon P [] w) = (finP P [] w).length := a2
   omega
  refine decide_eq_true (meet_iff.1 ⟨(finP P [] w)[v], ?_⟩)
  have hx := hP.1 _ (a6 _ (List.getElem_mem hv2))
  refine ⟨hx.1, hx.2, fun s hs => ?_⟩
  obtain ⟨x, e, hm⟩ := a7 v s hs
  rw [List.getElem?_eq_getElem hv2] at e
  cases e
  exact hm
 ·have : rn 0 (canon P [] w) = (finP P [] w).length := a2
  have := nodup_sub _ P a5 a6
  omega
theorem pick_at : ∀ (l : List Int) (w : List Span) (i : Nat) (s : Span) (v : Int), l[i]? = some v → w[i]? = some s → s ∈ pickV v l w := by
 intro l
 induction l with
 | nil => intro w i s v h _; simp at h
 | cons x r ih =>
  intro w i s v h1 h2
  cases w with
  | nil => simp at h2
  | cons t w =>
   rw [pickV]
   cases i with
   | zero =>
    obtain rfl : x = v := by simpa using h1
    obtain rfl : t = s := by simpa using h2
    rw [decide_eq_true rfl, cond_true]
    exact List.mem_cons_self
   | succ i =>
    have := ih w i s v (by simpa using h1) (by simpa using h2)
    cases decide (x = v) with
    | true => exact List.mem_cons_of_mem _ this
    | false => exact this
theorem pierce_of_sort {w : List Span} {l : List Int} (hl : l.length = w.length) (hs : sortsB w l = true) (h0 : ∀ x ∈ l, 0 ≤ x) : ∃ P, Pierce w P ∧ (P.length : Int) = rn 0 l := by
 unfold sortsB at hs
 rw [Bool.and_eq_true, List.all_eq_true] at hs
 have hge := rn_ge l 0
 refine ⟨(List.range (rn 0 l).toNat).map fun (v : Nat) => (comm (pickV (v : Int) l w)).low, ⟨?_, ?_⟩, by simp; omega⟩
 ·intro x hx
  obtain ⟨v, hv, rfl⟩ := List.mem_map.1 hx
  exact (mem_comm.1 (ne_mem (of_decide_eq_true (hs.2 v hv))).1).1
 ·intro s hs2
  obtain ⟨i, hi, rfl⟩ := List.getElem_of_mem hs2
  have hil : i < l.length := by omega
  have hx0 := h0 _ (List.getElem_mem hil)
  have hx1 := rn_max l 0 _ (List.getElem_mem hil)
  have hv : l[i].toNat ∈ List.range (rn 0 l).toNat := List.mem_range.2 (by omega)
  refine ⟨_, List.mem_map.2 ⟨l[i].toNat, hv, rfl⟩, ?_⟩
  have hm := (mem_comm.1 (ne_mem (of_decide_eq_true (hs.2 _ hv))).1).2
  refine hm _ (pick_at l w i _ _ ?_ (List.getElem?_eq_getElem hi))
  rw [List.getElem?_eq_getElem hil, show ((l[i].toNat : Nat) : Int) = l[i] by omega]
theorem best_pierce {w : List Span} (hw : w.length < 6) (hin : InH w) (he : eachB w = true) {P : List Int} (hP : Pierce w P) : rn 0 (bestS w) ≤ P.length := by
 obtain ⟨l, h1, h2, h3, h4⟩ := sort_of_pierce hP
 have := (best_spec hw hin he).2.2 l (by rw [← h2]; exact ext_of_way h1) h3
 omega
end Go.Proofs.YtohmhlkdgfcaeaaGreatDoor
namespace Go.Proofs.YtohmhlkdgfcaeaaGreatDoor
open Go Go.RowKit
theorem ris_pair {m : Int} : ∀ (l : List Int) (p : Int), risB m p l = true ↔ (∀ x ∈ l, p < x ∧ x < m) ∧ l.Pairwise (· < ·) := by
 intro l
 induction l with
 | nil => intro p; simp [risB]
 | cons a r ih =>
  intro p
  rw [risB_cons, ih, List.pairwise_cons]
  constructor
  ·rintro ⟨h1, h2, h3, h4⟩
   refine ⟨fun x hx => ?_, fun x hx => (h3 x hx).1, h4⟩
   rcases List.mem_cons.1 hx with rfl | hx
   ·exact ⟨h1, h2⟩
   ·have := h3 x hx; omega
  ·rintro ⟨h1, h2, h3⟩
   have ha := h1 a List.mem_cons_self
   exact ⟨ha.1, ha.2, fun x hx => ⟨h2 x hx, (h1 x (List.mem_cons_of_mem _ hx)).2⟩, h3⟩
end Go.Proofs.YtohmhlkdgfcaeaaGreatDoor
namespace Go.Proofs.YtohmhlkdgfcaeaaGreatDoor
open Go Go.RowKit
theorem rest_removed {α : Type} (l : List Int) : ∀ (w : List α) (i : Nat), w.length ≤ (restL l i w).length + (l.filter (fun y => decide ((i : Int) ≤ y))).length := by
 intro w
 induction w with
 | nil => intro i; simp
 | cons s r ih =>
  intro i
  have h1 := ih (i + 1)
  have hmono : ∀ l : List Int, (l.filter (fun y => decide (((i + 1 : Nat) : Int) ≤ y))).length + (bif l.any (fun y => decide (y = (i : Int))) then 1 else 0) ≤ (l.filter (fun y => decide ((i : Int) ≤ y))).length := by
   intro l
   induction l with
   | nil => simp
   | cons y t iht =>
    rw [List.filter_cons, List.filter_cons, List.any_cons]
    by_cases e : y = (i : Int)
    ·have c1 : ¬ ((i + 1 : Nat) : Int) ≤ y := by omega
     have c2 : (i : Int) ≤ y := by omega
     rw [decide_eq_true e, decide_eq_false c1, decide_eq_true c2, Bool.true_or, cond_true]
     simp only [if_true, Bool.false_eq_true, if_false, List.length_cons]
     have : (bif t.any (fun y => decide (y = (i : Int))) then 1 else 0) ≥ 0 := Nat.zero_le _
     omega
    ·rw [decide_eq_false e, Bool.false_or]
     by_cases c : (i : Int) ≤ y
     ·have c1 : ((i + 1 : Nat) : Int) ≤ y := by omega
      rw [decide_eq_true c, decide_eq_true c1]
      simp only [if_true, List.length_cons]
      omega
     ·have c1 : ¬ ((i + 1 : Nat) : Int) ≤ y := by omega
      rw [decide_eq_false c, decide_eq_false c1]
      simpa using iht
  have h2 := hmono l
  rw [restL, List.length_cons]
  cases hc : l.any (fun y => decide (y = (i : Int))) with
  | true => rw [hc, cond_true] at h2; rw [cond_true]; omega
  | false => rw [hc, cond_false] at h2; rw [cond_false, List.length_cons]; omega
theorem restL_keep {l : List Int} {p : Span → Bool} : ∀ (w : List Span) (i : Nat), (∀ (j : Nat) (s : Span), w[j]? = some s → p s = true → l.any (fun y => decide (y = ((i + j : Nat) : Int))) = false → True) → (∀ s ∈ restL l i w, p s = true) → (restL l i w).length ≤ w.countP p := by
 intro w
 induction w with
 | nil => intro i _ _; simp [restL]
 | cons s r ih =>
  intro i _ h
  rw [restL] at h ⊢
  rw [List.countP_cons]
  cases hc : l.any (fun y => decide (y = (i : Int))) with
  | true =>
   rw [hc, cond_true] at h
   rw [cond_true]
   have := ih (i + 1) (fun _ _ _ _ _ => trivial) h
   omega
  | false =>
   rw [hc, cond_false] at h
   rw [cond_false, List.length_cons]
   have := ih (i + 1) (fun _ _ _ _ _ => trivial) (fun t ht => h t (List.mem_cons_of_mem _ ht))
   rw [if_pos (h s List.mem_cons_self)]
   omega
def notAt (x : Int) : Nat → List Span → List Int
 | _, [] => []
 | i, s :: r => bif decide (s.mem x) then notAt x (i + 1) r else (i : Int) :: notAt x (i + 1) r
theorem notAt_spec (x : Int) : ∀ (w : List Span) (i : Nat), (∀ y ∈ notAt x i w, (i : Int) ≤ y ∧ y < i + w.length) ∧ (notAt x i w).Pairwise (· < ·) ∧ (notAt x i w).length + w.countP (fun s => decide (s.mem x)) = w.length := by
 intro w
 induction w with
 | nil => intro i; exact ⟨by simp [notAt], List.Pairwise.nil, rfl⟩
 | cons s r ih =>
  intro i
  obtain ⟨h1, h2, h3⟩ := ih (i + 1)
  rw [notAt, List.countP_cons, List.length_cons]
  by_cases c : s.mem x
  ·rw [decide_eq_true c, cond_true, if_pos rfl]
   refine ⟨fun y hy => ?_, h2, by omega⟩
   have := h1 y hy
   push_cast at this ⊢
   omega
  ·rw [decide_eq_false c, cond_false, if_neg (by simp)]
   refine ⟨fun y hy => ?_, List.pairwise_cons.2 ⟨fun y hy => ?_, h2⟩, by rw [List.length_cons]; omega⟩
   ·rcases List.mem_cons.1 hy with rfl | hy
    ·push_cast; omega
    ·have := h1 y hy
     push_cast at this ⊢
     omega
   ·have := h1 y hy
    push_cast at this
    omega
theorem notAt_has (x : Int) : ∀ (w : List Span) (i j : Nat) (s : Span), w[j]? = some s → ¬ s.mem x → ((i + j : Nat) : Int) ∈ notAt x i w := by
 intro w
 induction w with
 | nil => intro i j s h _; simp at h
 | cons t r ih =>
  intro i j s h hn
  rw [notAt]
  cases j with
  | zero =>
   obtain rfl : t = s := by simpa using h
   rw [decide_eq_false hn, cond_false]
   exact List.mem_cons_self
  | succ j =>
   have := ih (i + 1) j s (by simpa using h) hn
   rw [show i + 1 + j = i + (j + 1) by omega] at this
   cases decide (t.mem x) with
   | true => exact this
   | false => exact List.mem_cons_of_mem _ this
theorem rest_has {l : List Int} : ∀ (w : List Span) (i : Nat) (s : Span), s ∈ restL l i w → ∃ j, w[j]? = some s ∧ ((i + j : Nat) : Int) ∉ l := by
 intro w
 induction w with
 | nil => intro i s h; cases h
 | cons t r ih =>
  intro i s h
  rw [restL] at h
  cases hc : l.any (fun y => decide (y = (i : Int))) with
  | true =>
   rw [hc, cond_true] at h
   obtain ⟨j, h1, h2⟩ := ih (i + 1) s h
   exact ⟨j + 1, by simpa using h1, by rw [show i + (j + 1) = i + 1 + j by omega]; exact h2⟩
  | false =>
   rw [hc, cond_false] at h
   rcases List.mem_cons.1 h with rfl | h
   ·refine ⟨0, rfl, fun hm => ?_⟩
    have : l.any (fun y => decide (y = (i : Int))) = true := List.any_eq_true.2 ⟨_, hm, by simp⟩
    rw [hc] at this; cases this
   ·obtain ⟨j, h1, h2⟩ := ih (i + 1) s h
    exact ⟨j + 1, by simpa using h1, by rw [show i + (j + 1) = i + 1 + j by omega]; exact h2⟩
theorem firstN_le {w : List Span} (hw : w.length < 6) {x : Int} (hx : 0 ≤ x ∧ x ≤ 12) : (firstN w).length + w.countP (fun s => decide (s.mem x)) ≤ w.length := by
 obtain ⟨a1, a2, a3⟩ := notAt_spec x w 0
 have hr : risB w.length (-1) (notAt x 0 w) = true := (ris_pair _ _).2 ⟨fun y hy => by have := a1 y hy; push_cast at this; omega, a2⟩
 have hm : notAt x 0 w ∈ (allLists w.length).filter (namesB w) := List.mem_filter.2 ⟨(ris_mem hw).1 hr, by
  unfold namesB
  refine decide_eq_true (meet_iff.1 ⟨x, hx.1, hx.2, fun s hs => ?_⟩)
  obtain ⟨j, h1, h2⟩ := rest_has w 0 s hs
  by_cases c : s.mem x
  ·exact c
  ·exact absurd (notAt_has x w 0 j s h1 c) h2⟩
 have hso := sorted_filter ltN (namesB w) _ (List.all_eq_true.1 lists_sorted _ (List.mem_range.2 hw))
 have hle : (firstN w).length ≤ (notAt x 0 w).length := by
  unfold firstN
  cases h : (allLists w.length).filter (namesB w) with
  | nil => rw [h] at hm; cases hm
  | cons y r =>
   rw [h] at hm hso
   rw [sortedB, Bool.and_eq_true, List.all_eq_true] at hso
   rcases List.mem_cons.1 hm with e | e
   ·rw [e]; exact Nat.le_refl _
   ·have := hso.1 _ e
    unfold ltN at this
    simp only [Bool.or_eq_true, Bool.and_eq_true, decide_eq_true_eq] at this
    show y.length ≤ _
    omega
 omega
theorem firstN_ge {w : List Span} (hw : w.length < 6) : ∃ x : Int, (0 ≤ x ∧ x ≤ 12) ∧ w.length ≤ (firstN w).length + w.countP (fun s => decide (s.mem x)) := by
 have hm : firstN w ∈ (allLists w.length).filter (namesB w) := by
  have := (p_63w w hw).2
  unfold firstN
  cases h : (allLists w.length).filter (namesB w) with
  | nil => exact absurd h this
  | cons y r => exact List.mem_cons_self
 have hn := of_decide_eq_true (List.mem_filter.1 hm).2
 obtain ⟨x, h1, h2, h3⟩ := meet_iff.2 hn
 refine ⟨x, ⟨h1, h2⟩, ?_⟩
 have r1 := rest_removed (firstN w) w 0
 have r2 := restL_keep (l := firstN w) (p := fun s => decide (s.mem x)) w 0 (fun _ _ _ _ _ => trivial) (fun s hs => decide_eq_true (h3 s hs))
 have r3 := List.length_filter_le (fun y => decide (((0 : Nat) : Int) ≤ y)) (firstN w)
 omega
theorem named_perm {w w' : List Span} (hw : w.length < 6) (h : w.Perm w') : (firstN w).length = (firstN w').length := by
 have hl := h.length_eq
 have one : ∀ {w w' : List Span}, w.length < 6 → w.Perm w' → (firstN w').length ≤ (firstN w).length := by
  intro w w' hw h
  have hl := h.length_eq
  obtain ⟨x, hx, h1⟩ := firstN_ge hw
  have h2 := firstN_le (w := w') (by omega) hx
  have h3 := h.countP_eq (fun s => decide (s.mem x))
  omega
 have := one hw h
 have := one (by omega) h.symm
 omega
theorem pierce_perm {w w' : List Span} (h : w.Perm w') {P : List Int} (hP : Pierce w P) : Pierce w' P := ⟨hP.1, fun s hs => hP.2 s (h.mem_iff.2 hs)⟩
theorem each_perm {w w' : List Span} (h : w.Perm w') : eachB w = eachB w' := by
 unfold eachB
 rw [Bool.eq_iff_iff, List.all_eq_true, List.all_eq_true]
 exact ⟨fun k s hs => k s (h.mem_iff.2 hs), fun k s hs => k s (h.mem_iff.1 hs)⟩
theorem in_perm {w w' : List Span} (h : w.Perm w') (hin : InH w) : InH w' := fun s hs => hin s (h.mem_iff.2 hs)
theorem runs_perm {w w' : List Span} (hw : w.length < 6) (hin : InH w) (he : eachB w = true) (h : w.Perm w') : rn 0 (bestS w) = rn 0 (bestS w') := by
 have one : ∀ {w w' : List Span}, w.length < 6 → InH w → eachB w = true → w.Perm w' → rn 0 (bestS w') ≤ rn 0 (bestS w) := by
  intro w w' hw hin he h
  have hl := h.length_eq
  obtain ⟨b1, b2⟩ := bestS_way hw hin he
  obtain ⟨P, h1, h2⟩ := pierce_of_sort b2 (best_spec hw hin he).2.1 b1.nn
  have := best_pierce (w := w') (by omega) (in_perm h hin) (by rw [← each_perm h]; exact he) (pierce_perm h h1)
  omega
 have hl := h.length_eq
 have a := one hw hin he h
 have b := one (by omega) (in_perm h hin) (by rw [← each_perm h]; exact he) h.symm
 omega
section
variable {n : Nat} {d : Drum}
def turnL (b : List Batch) (k : Nat) : List Batch := (List.range b.length).map fun i => b.getD ((i + k) % b.length) default
theorem turn_eq (b : List Batch) {k : Nat} (hk : k < b.length) : turnL b k = b.drop k ++ b.take k := by
 apply List.ext_getElem?
 intro i
 unfold turnL
 by_cases hi : i < b.length
 ·rw [List.getElem?_map, List.getElem?_range hi, Option.map_some]
  by_cases c : i + k < b.length
  ·rw [List.getElem?_append_left (by simp; omega), List.getElem?_drop, Nat.mod_eq_of_lt c, List.getD_eq_getElem?_getD, List.getElem?_eq_getElem c, show k + i = i + k by omega, List.getElem?_eq_getElem c]
   rfl
  ·have e : (i + k) % b.length = i + k - b.length := by
    rw [Nat.mod_eq_sub_mod (by omega), Nat.mod_eq_of_lt (by omega)]
   have hlt : i + k - b.length < b.length := by omega
   rw [List.getElem?_append_right (by simp; omega), e, List.getD_eq_getElem?_getD, List.getElem?_eq_getElem hlt, List.length_drop, List.getElem?_take, if_pos (by omega), show i - (b.length - k) = i + k - b.length by omega, List.getElem?_eq_getElem hlt]
   rfl
 ·rw [List.getElem?_eq_none (by simp; omega), List.getElem?_eq_none (by simp; omega)]
theorem turn_perm (b : List Batch) {k : Nat} (hk : k < b.length) : (turnL b k).Perm b := by
 rw [turn_eq b hk]
 exact List.perm_append_comm.trans (by rw [List.take_append_drop])
def turnD (d : Drum) (k : Nat) : Drum := ⟨d.acids, d.known, d.hours, d.adds, d.strips, turnL d.batches k⟩
theorem turn_len (b : List Batch) (k : Nat) : (turnL b k).length = b.length := by simp [turnL]
theorem law_15 (d : Drum) (t : Int) : s_15 1000 d t = some true := by
 have hn : 100 ≤ 1000 := by omega
 unfold s_15
 rw [p_23, Option.bind_some]
 have out : s_15_j1 1000 d t true = some true := by unfold s_15_j1; rw [cond_true, p_24, Option.bind_some]
 cases hsh : shortB d with
 | false => simp only [Bool.not_false, cond_true]; exact out
 | true =>
  have hs := shortB_iff.1 hsh
  simp only [Bool.not_true, cond_false]
  rw [p_39 hn hs, Option.bind_some]
  cases hok : okD d with
  | false => simp only [Bool.not_false, cond_true]; exact out
  | true =>
   have hd := okD_iff.1 hok
   have hbt := hd.btl
   simp only [Bool.not_true, cond_false]
   by_cases h0 : t < 0
   ·rw [decide_eq_true h0]; exact out
   ·rw [decide_eq_false h0]
    unfold s_15_j1
    rw [cond_false]
    obtain ⟨m, hm⟩ := Int.eq_ofNat_of_zero_le (show 0 ≤ t by omega)
    have hk : m % d.batches.length < d.batches.length := Nat.mod_lt _ (by omega)
    have hrem : rem .i64 t ((d.batches.length : Nat) : Int) = some (((m % d.batches.length : Nat)) : Int) := by
     unfold rem
     rw [decide_eq_false (by omega), cond_false, hm, ← Int.ofNat_tmod]
    have loop : ∀ (r i f : Nat), i + r = d.batches.length → r < f → s_15_l2 1000 d t f (i : Int) ((turnL d.batches (m % d.batches.length)).take i) = s_15_l2 1000 d t (f - r) ((d.batches.length : Nat) : Int) (turnL d.batches (m % d.batches.length)) := by
     intro r
     induction r with
     | zero =>
      intro i f hi hf
      rw [show i = d.batches.length by omega, List.take_of_length_le (by rw [turn_len]; exact Nat.le_refl _), Nat.sub_zero]
     | succ r ih =>
      intro i f hi hf
      obtain ⟨f, rfl⟩ : ∃ f', f = f' + 1 := ⟨f - 1, by omega⟩
      have hrem2 : rem .i64 ((i : Int) + ((m % d.batches.length : Nat) : Int)) ((d.batches.length : Nat) : Int) = some (((i + m % d.batches.length) % d.batches.length : Nat) : Int) := by
       unfold rem
       rw [decide_eq_false (by omega), cond_false, ← Int.natCast_add, ← Int.ofNat_tmod]
      have hlt : (i + m % d.batches.length) % d.batches.length < d.batches.length := Nat.mod_lt _ (by omega)
      have hil : i < (turnL d.batches (m % d.batches.length)).length := by rw [turn_len]; omega
      have hg : (turnL d.batches (m % d.batches.length))[i]? = some d.batches[(i + m % d.batches.length) % d.batches.length] := by
       unfold turnL
       rw [List.getElem?_map, List.getElem?_range (by omega), Option.map_some, List.getD_eq_getElem?_getD, List.getElem?_eq_getElem hlt]
       rfl
      have htk : (turnL d.batches (m % d.batches.length)).take (i + 1) = (turnL d.batches (m % d.batches.length)).take i ++ [d.batches[(i + m % d.batches.length) % d.batches.length]] := by
       rw [List.take_add_one, hg]; rfl
      have := ih (i + 1) f (by omega) (by omega)
      push_cast at this
      rw [s_15_l2, decide_eq_true (by omega), cond_true, hrem, Option.bind_some, wr_of (by omega), hrem2, Option.bind_some, ix_at (List.getElem?_eq_getElem hlt), Option.bind_some, app_of (by rw [List.length_take]; simp; omega), Option.bind_some, wr_of (by omega), ← htk, this, show f + 1 - (r + 1) = f - r by omega]
    have hl := loop d.batches.length 0 1000 (by omega) (by omega)
    rw [List.take_zero, show ((0 : Nat) : Int) = 0 from rfl] at hl
    rw [hl]
    obtain ⟨f, hf⟩ : ∃ f', 1000 - d.batches.length = f' + 1 := ⟨1000 - d.batches.length - 1, by omega⟩
    rw [hf, s_15_l2, decide_eq_false (by omega), cond_false]
    show ((s_46 1000 d).bind fun v125 => (s_46 1000 (turnD d (m % d.batches.length))).bind fun v126 => (s_61 1000 d).bind fun v127 => (s_61 1000 (turnD d (m % d.batches.length))).bind fun v128 => (s_51 1000 d).bind fun v129 => (s_51 1000 (turnD d (m % d.batches.length))).bind fun v130 => _) = _
    have hperm := turn_perm d.batches hk
    generalize m % d.batches.length = k at hk hperm ⊢
    have hbk : (turnD d k).batches = turnL d.batches k := rfl
    have hs2 : Short (turnD d k) := ⟨hs.a, hs.b, hs.c, by rw [hbk, turn_len]; exact hs.e⟩
    have ho : (turnD d k).ok := { hd with btl := by rw [hbk, turn_len]; exact hbt, bt := fun x hx => hd.bt x (hperm.mem_iff.1 hx) }
    have hee : err (turnD d k) true = err d true := by
     unfold err
     rw [okD_iff.2 ho, hok]
     rfl
    have hwp : (wsP (turnD d k)).Perm (wsP d) := hperm.map (winP d)
    have hw : (wsP d).length < 6 := by rw [wsP_len]; omega
    have hcm : comm (wsP (turnD d k)) = comm (wsP d) := comm_perm hwp
    rw [p_46 hn hs, Option.bind_some, p_46 hn hs2, Option.bind_some, p_61 hs, Option.bind_some, p_61 hs2, Option.bind_some, p_51 hn hs, Option.bind_some, p_51 hn hs2, Option.bind_some, hee, hcm, each_perm hwp]
    have hnm := named_perm hw hwp.symm
    by_cases he : err d true = 0
    ·rw [decide_eq_true he]
     simp only [cond_true, decide_true]
     have e1 : decide ((((firstN (wsP d)).length : Nat) : Int) = (((firstN (wsP (turnD d k))).length : Nat) : Int)) = true := decide_eq_true (by omega)
     rw [e1, cond_true]
     cases hea : eachB (wsP d) with
     | false => simp only [cond_false, decide_true, cond_true, p_24, Option.bind_some]
     | true =>
      have hr := runs_perm hw (wsP_in hd) hea hwp.symm
      simp only [cond_true, decide_true]
      rw [decide_eq_true hr, cond_true, p_24, Option.bind_some]
    ·rw [decide_eq_false he]
     simp only [cond_false, decide_true, cond_true, p_24, Option.bind_some]
end
end Go.Proofs.YtohmhlkdgfcaeaaGreatDoor
namespace Go.Proofs.YtohmhlkdgfcaeaaGreatDoor
open Go Go.RowKit Go.ChangeShapes Go.WideShapes
set_option maxRecDepth 100000
theorem drumTurned_lifted (os : Os) (started : os.Started) (H : Type) (enc : TypeId × Value → H) :
  ReturnsInHanded {} Tryz.checked os 15 .any (fun w args => (Rows.drumTurnedSpec.pre enc Tryz.prog Tryz.f15 [] false w args ∧ laidMetH Tryz.prog Rows.drumTurnedRow.laid w) ∧ sizedMet enc Tryz.prog Tryz.f15 (OpenSpec.ofChange Rows.drumTurnedSpec) false w args)
   (Rows.drumTurnedSpec.post enc Tryz.prog Tryz.f15 false true false false) :=
 law_row (s := Rows.drumTurnedSpec) (enc := enc) started #[.agg #[.slice none 0 0, .int .i64 0, .int .i64 0, .slice none 0 0, .slice none 0 0, .slice none 0 0], .int .i64 0] (by kernel_rfl) Tryz.func15 (by kernel_rfl) (by kernel_rfl) (by kernel_rfl) rfl
   (by
    rw [Tryz.params15]
    have h : ∀ t ∈ ([27, 3] : List Nat), t ∈ [3, 9, 23, 27, 54, 92] := by decide
    exact fun t ht => parT t (h t ht)) rfl
   (by
    rw [Tryz.params15]
    intro ds h
    match ds, h with
    | [d0, d1], _ => rfl)
   (by
    rw [Tryz.params15]
    intro W base args ds p hval hA
    obtain ⟨args⟩ := args
    obtain ⟨v0, vs0, d0, ds0, p0, q0, e0, rfl, rfl, h0, r0⟩ := trodAll_cons hA
    have e0 : args = _ := e0; subst e0
    obtain ⟨v1, vs1, d1, ds1, p1, q1, e1, rfl, rfl, h1, r1⟩ := trodAll_cons r0
    subst e1
    obtain ⟨rfl, rfl, rfl⟩ := trodAll_nil r1
    obtain ⟨x0, z0⟩ := rd_drum (hval 0 27 v0 rfl rfl) h0
    obtain ⟨x1, z1⟩ := rd_int (hval 1 3 v1 rfl rfl)
    refine ⟨rfl, [.agg (cDrum x0), .i x1], ⟨rfl, ?_⟩, c_15 1000 x0 x1 (law_15 x0 x1)⟩
    intro j c u hc hu
    match j, hc, hu with
    | 0, hc, hu => cases hc; cases hu; exact z0
    | 1, hc, hu => cases hc; cases hu; exact z1)
theorem drumTurned_facts : factsA Tryz.prog Tryz.f15 Rows.drumTurnedSpec Rows.drumTurnedRow = true := by kernel_rfl
theorem drumTurned_road0 : (Rows.drumTurnedRow.inPlace == Tryz.prog.inPlace 15) = true := by kernel_rfl
theorem drumTurned_road1 : (Rows.drumTurnedRow.unfollowed == Tryz.prog.unfollowed 15) = true := by kernel_rfl
theorem drumTurned_road2 : (Rows.drumTurnedRow.recurses == Tryz.prog.recurses 15) = true := by kernel_rfl
theorem drumTurned_road3 : (Rows.drumTurnedRow.named == Tryz.prog.varsNamed 15) = true := by kernel_rfl
theorem drumTurned_row : Rows.DrumTurnedSaid :=
 OpenClaim.holds_of_wide 15 Tryz.f15 rfl rfl rfl rfl rfl rfl rfl ⟨rfl, rfl, rfl, rfl, rfl⟩ rfl rfl rfl rfl rfl (by as_aux_lemma => kernel_rfl) Tryz.func15 (joined_of drumTurned_facts drumTurned_road0 drumTurned_road1 drumTurned_road2 drumTurned_road3)
  (of_decide_eq_true (by as_aux_lemma => kernel_rfl)) (by unfold Func.isWrapper; rw [if_neg (of_decide_eq_false (by as_aux_lemma => kernel_rfl))]; exact ⟨rfl, rfl⟩)
  (fun os started H enc _ => drumTurned_lifted os started H enc)
theorem drumTurned_card : Rows.DrumTurnedCardSaid :=
 Claim7.holds_tied_plain_at .later [] [.data, .data, .data, .data, .pinned] true (true, "263524fd91af563947b647e8709e73ef988cdef21cccd4074f632dc410392126") true drumTurned_row (fun _ h => by cases h) (by as_aux_lemma => kernel_rfl) (fun _ h => by cases h) drumTurned_row_tie rfl ⟨rfl, rfl⟩ mainK rfl
  (fun f fn hf hfn => by
   obtain rfl : f = 15 := Option.some.inj ((show Tryz.prog.funcNamed "nacre/nacrelaw03.DrumTurned" = some 15 by as_aux_lemma => kernel_rfl).symm.trans hf) |>.symm
   obtain rfl : fn = Tryz.f15 := (Option.some.inj (Tryz.func15.symm.trans hfn)).symm
   exact ⟨looksK, fun j t ht => by
    rw [Tryz.params15] at ht
    have hm : t ∈ [27, 3] := by simpa using Array.mem_of_getElem? ht
    have h : ∀ t ∈ ([27, 3] : List Nat), t ∈ [3, 9, 23, 27, 54, 92] := by decide
    exact standK t (h t hm)⟩)
  (by as_aux_lemma => kernel_rfl)
#print axioms drumTurned_card
end Go.Proofs.YtohmhlkdgfcaeaaGreatDoor
