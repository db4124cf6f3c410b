/- DrumRuns: the program tells how rough and how thick the batches of any drum are after any number of hours, in truth and between bounds, or the errors, as the reference does. For every input that can be read as data, the tables of Go's library being as their text lays them: the call returns true, and each argument reads behind it as before. -/
import Derived.Test.YtohmhlkdgfcaeaaGreatDoorTie
import Derived.Test.YtohmhlkdgfcaeaaGreatDoorCards
import Derived.Test.YtohmhlkdgfcaeaaGreatDoorX19a
set_option linter.unusedVariables false
set_option linter.unusedSimpArgs false
namespace Go.Proofs.YtohmhlkdgfcaeaaGreatDoor
open Go Go.RowKit
instance (ad : List Int) (st : List Strip) (a : Acid) (H : Nat) : Decidable (Poss ad st a H) := by unfold Poss; infer_instance
def Span.small (s : Span) : Prop := (-5000 ≤ s.low ∧ s.low ≤ 5000) ∧ (-5000 ≤ s.high ∧ s.high ≤ 5000)
section
variable {n : Nat} {a : Acid} {add : Int} {s : Span}
theorem p_115 (ha : a.ok) (h : 0 ≤ add ∧ add ≤ 100) (hs : s.small) : s_115 n a add s = some (aft a add s) := by
 obtain ⟨h1, h2⟩ := ha
 simp only [Span.ok, Span.small] at h1 h2 hs
 unfold s_115 aft
 rw [wr_of (x := s.low - a.fall.high) (by omega), wr_of (x := s.high - a.fall.low) (by omega), wr_of (by omega), wr_of (by omega)]
theorem p_142 (ha : a.ok) (h : 0 ≤ add ∧ add ≤ 100) (hs : s.small) : s_142 n a add s = some (bef a add s) := by
 obtain ⟨h1, h2⟩ := ha
 simp only [Span.ok, Span.small] at h1 h2 hs
 unfold s_142 s_142_j1 bef
 rw [wr_of (x := s.low - add) (by omega), wr_of (x := s.high - add) (by omega), wr_of (by omega), wr_of (by omega)]
 by_cases hc : add < s.low
 ·rw [decide_eq_true hc, cond_true, if_pos hc]
 ·rw [decide_eq_false hc, cond_false, if_neg hc]
theorem p_138 (s t : Span) : s_138 n s t = some (cap s t) := rfl
end
section
variable {n : Nat} {d : Drum} {a : Acid}
theorem capL_small {l : List Span} {s : Span} (h : s.small) (hl : ∀ t ∈ l, t.small) : (capL s l).small := by
 induction l generalizing s with
 | nil => exact h
 | cons t l ih =>
  refine ih (s := cap s t) ?_ (fun u hu => hl u (List.mem_cons_of_mem _ hu))
  have := hl t List.mem_cons_self
  simp only [Span.small, cap] at *
  omega
theorem strip_small {s : Strip} {H : Int} (h : s.ok H) : s.span.small := by
 obtain ⟨h1, h2, h3⟩ := h
 simp only [Strip.span, Span.small]
 omega
theorem stripsAt_small (hd : d.ok) (h : Nat) : ∀ t ∈ stripsAt d.strips h, t.small := by
 intro t ht
 simp only [stripsAt, List.mem_map, List.mem_filter] at ht
 obtain ⟨s, ⟨hs, _⟩, rfl⟩ := ht
 exact strip_small (hd.st s hs)
theorem stripsAt_cons (x : Strip) (r : List Strip) (h : Nat) : stripsAt (x :: r) h = if x.hour = (h : Int) then x.span :: stripsAt r h else stripsAt r h := by
 unfold stripsAt
 rw [List.filter_cons]
 by_cases hx : x.hour = (h : Int)
 ·simp [hx]
 ·simp [hx]
theorem fw_small (hd : d.ok) (ha : a.ok) {h : Nat} (hh : h < 12) (hn : h = 0 ∨ (fw d.adds d.strips a (h - 1)).ne) : (fw d.adds d.strips a h).small := by
 have h1 := fw_low (st := d.strips) ha hd.ad
 have had := addAt_le hd.ad h
 cases h with
 | zero =>
  refine capL_small ?_ (stripsAt_small hd 0)
  obtain ⟨h1, h2⟩ := ha
  simp only [start, Span.small, Span.ok] at *
  omega
 | succ h =>
  refine capL_small ?_ (stripsAt_small hd (h + 1))
  have h2 := h1 h
  obtain ⟨h3, h4⟩ := ha
  simp only [aft, Span.small, Span.ok, Span.ne, Nat.add_sub_cancel] at *
  omega
def mix (d : Drum) (a : Acid) (H m : Nat) : List Span := (List.range H).map fun h => if h < m then fw d.adds d.strips a h else bd d.adds d.strips a H h
def bdL (d : Drum) (a : Acid) (H : Nat) : List Span := (List.range H).map (bd d.adds d.strips a H)
def fwL (d : Drum) (a : Acid) (m : Nat) : List Span := (List.range m).map (fw d.adds d.strips a)
theorem mix_get {H m h : Nat} (hh : h < H) : (mix d a H m)[h]? = some (if h < m then fw d.adds d.strips a h else bd d.adds d.strips a H h) := by
 unfold mix
 rw [List.getElem?_map, List.getElem?_range hh]; rfl
theorem mix_step {H m : Nat} (hm : m < H) : (mix d a H (m + 1)).set m (bd d.adds d.strips a H m) = mix d a H m := by
 apply List.ext_getElem?
 intro i
 rw [List.getElem?_set]
 by_cases hi : i < H
 ·rw [mix_get (m := m) hi, mix_get (m := m + 1) hi]
  by_cases hmi : m = i
  ·subst hmi
   rw [if_pos rfl, if_pos (by unfold mix; simpa using hm), if_neg (by omega)]
  ·rw [if_neg hmi]
   by_cases h1 : i < m
   ·rw [if_pos h1, if_pos (by omega)]
   ·rw [if_neg h1, if_neg (by omega)]
 ·have e : ∀ q, (mix d a H q)[i]? = none := fun q => by unfold mix; simp; omega
  rw [if_neg (by omega), e, e]
theorem mix_zero {H : Nat} : mix d a H 0 = bdL d a H := by
 unfold mix bdL
 apply List.map_congr_left
 intro h _
 rw [if_neg (by omega)]
theorem mix_last {H : Nat} (hH : 0 < H) : mix d a H (H - 1) = fwL d a H := by
 unfold mix fwL
 apply List.map_congr_left
 intro h hh
 rw [List.mem_range] at hh
 by_cases h1 : h < H - 1
 ·rw [if_pos h1]
 ·rw [if_neg h1]
  have : h = H - 1 := by omega
  subst this
  exact bd_last hH
theorem bd_small (hd : d.ok) (ha : a.ok) {H h : Nat} (hH : H ≤ 12) (hp : Poss d.adds d.strips a H) (hh : h < H) : (bd d.adds d.strips a H h).small := by
 have h1 := fw_low (st := d.strips) ha hd.ad h
 have h2 := bd_ok ha hd.ad hp hh
 simp only [Span.small, Span.ne] at *
 omega
theorem add_at (hd : d.ok) {h : Nat} (hh : (h : Int) < d.hours) : ix d.adds (h : Int) = some (addAt d.adds h) := by
 have := hd.adl
 have hl : h < d.adds.length := by omega
 rw [ix_at (List.getElem?_eq_getElem hl), addAt, List.getD_eq_getElem?_getD, List.getElem?_eq_getElem hl]
 rfl
theorem p_90_l10 (hd : d.ok) (ha : a.ok) {H : Nat} (hH : d.hours = (H : Int)) (hp : Poss d.adds d.strips a H) : ∀ (m k : Nat), m < k → m ≤ H - 1 → s_90_l10 n d a k ((m : Int) - 1) (mix d a H m) = some (bdL d a H, true) := by
 have hhr := hd.hr
 intro m
 induction m with
 | zero =>
  intro k hk hm
  obtain ⟨k, rfl⟩ : ∃ k', k = k' + 1 := ⟨k - 1, by omega⟩
  rw [s_90_l10, decide_eq_false (by omega), cond_false, mix_zero]
 | succ m ih =>
  intro k hk hm
  obtain ⟨k, rfl⟩ : ∃ k', k = k' + 1 := ⟨k - 1, by omega⟩
  have e0 : (((m + 1 : Nat) : Int) - 1) = (m : Int) := by omega
  have e1 : wr ((m : Int) + 1) = ((m + 1 : Nat) : Int) := by rw [wr_of (by omega)]; push_cast; rfl
  have g1 := ix_at (mix_get (d := d) (a := a) (H := H) (m := m + 1) (h := m) (by omega))
  have g2 := ix_at (mix_get (d := d) (a := a) (H := H) (m := m + 1) (h := m + 1) (by omega))
  rw [if_pos (by omega)] at g1
  rw [if_neg (by omega)] at g2
  rw [s_90_l10, e0, decide_eq_true (by omega), cond_true, e1, g1, add_at hd (h := m + 1) (by omega), g2]
  simp only [Option.bind_some, p_142 ha (addAt_le hd.ad (m + 1)) (bd_small hd ha (by omega) hp (show m + 1 < H by omega)), p_138]
  rw [← bd_step (ad := d.adds) (st := d.strips) (a := a) (show m + 1 < H by omega), wr_of (by omega)]
  have hset : sts (mix d a H (m + 1)) (m : Int) (bd d.adds d.strips a H m) = mix d a H m := mix_step (by omega)
  rw [hset]
  exact ih k (by omega) (by omega)
theorem p_90_l9 (hd : d.ok) (hn : 100 ≤ n) (K1 : Int → List Span → Option (List Span × Bool)) (h : Nat) (hh : (h : Int) < 1000) (acc : List Span) (hacc : acc.length ≤ 1000) (s : Span) :
  s_90_l9 n K1 d (h : Int) acc n 0 s = bif decide ((capL s (stripsAt d.strips h)).ne) then K1 ((h : Int) + 1) (acc ++ [capL s (stripsAt d.strips h)]) else some ([], false) := by
 have hst := hd.stl
 have h1 := loop_list d.strips (s_90_l9 n K1 d (h : Int) acc) (fun _ x s K => bif decide (x.hour = (h : Int)) then K (cap s x.span) else K s)
  (fun s => bif decide (s.high < s.low) then some ([], false) else (app acc [s]).bind fun v => K1 (wr ((h : Int) + 1)) v) (fun k i s => by
   rw [s_90_l9]
   by_cases hi : i < d.strips.length
   ·have hok := hd.st _ (List.getElem_mem hi)
    simp only [ix_at (List.getElem?_eq_getElem hi), Option.bind_some, p_138]
    obtain ⟨q1, q2, q3⟩ := hok
    rw [wr_of (x := d.strips[i].seen - d.strips[i].off) (by omega), wr_of (x := d.strips[i].seen + d.strips[i].off) (by omega)]
    rfl
   ·have e1 : decide ((i : Int) < ((d.strips.length : Nat) : Int)) = false := decide_eq_false (by omega)
    rw [e1, cond_false, cond_false]) (by omega) n 0 s (by omega) (by omega)
 rw [List.drop_zero] at h1
 have h2 : ∀ (fin : Span → Option (List Span × Bool)) (l : List Strip) (i : Nat) (s : Span), fc (fun _ x s K => bif decide (x.hour = (h : Int)) then K (cap s x.span) else K s) fin i l s = fin (capL s (stripsAt l h)) := by
  intro fin l
  induction l with
  | nil => intro i s; rfl
  | cons x r ih =>
   intro i s
   rw [stripsAt_cons, fc]
   by_cases hx : x.hour = (h : Int)
   ·rw [decide_eq_true hx, cond_true, if_pos hx, ih]; rfl
   ·rw [decide_eq_false hx, cond_false, if_neg hx, ih]
 rw [show ((0 : Nat) : Int) = 0 from rfl] at h1
 rw [h1, h2]
 generalize capL s (stripsAt d.strips h) = t
 by_cases ht : t.ne
 ·have e : decide (t.high < t.low) = false := decide_eq_false (by unfold Span.ne at ht; omega)
  have ea : app acc [t] = some (acc ++ [t]) := by
   unfold app
   rw [decide_eq_true (show acc.length + [t].length ≤ 1000000 by simp; omega)]
   rfl
  rw [e, cond_false, decide_eq_true ht, cond_true, ea, Option.bind_some, wr_of (by omega)]
 ·have e : decide (t.high < t.low) = true := decide_eq_true (by unfold Span.ne at ht; omega)
  rw [e, cond_true, decide_eq_false ht, cond_false]
theorem fwL_succ (m : Nat) : fwL d a (m + 1) = fwL d a m ++ [fw d.adds d.strips a m] := by
 unfold fwL
 rw [List.range_succ, List.map_append]
 rfl
theorem fwL_length (m : Nat) : (fwL d a m).length = m := by simp [fwL]
theorem p_90_l1 (hd : d.ok) (hn : 100 ≤ n) (ha : a.ok) {H : Nat} (hH : d.hours = (H : Int)) : ∀ (r m k : Nat), m + r = H → r < k → (∀ h, h < m → (fw d.adds d.strips a h).ne) →
  s_90_l1 n d a k (m : Int) (fwL d a m) = if Poss d.adds d.strips a H then some (bdL d a H, true) else some ([], false) := by
 have hhr := hd.hr
 have hadl := hd.adl
 intro r
 induction r with
 | zero =>
  intro m k hm hk hne
  obtain ⟨k, rfl⟩ : ∃ k', k = k' + 1 := ⟨k - 1, by omega⟩
  have hm' : m = H := by omega
  subst hm'
  rw [s_90_l1, decide_eq_false (by omega), cond_false, if_pos (show Poss d.adds d.strips a m from hne), hH, wr_of (by omega), ← mix_last (by omega)]
  have := p_90_l10 (n := n) hd ha hH hne (m - 1) n (by omega) (by omega)
  rw [show (((m - 1 : Nat) : Int) - 1) = (m : Int) - 2 by omega] at this
  exact this
 | succ r ih =>
  intro m k hm hk hne
  obtain ⟨k, rfl⟩ : ∃ k', k = k' + 1 := ⟨k - 1, by omega⟩
  have ea0 : ix d.adds 0 = some (addAt d.adds 0) := add_at hd (h := 0) (by omega)
  have key : ∀ s, capL s (stripsAt d.strips m) = fw d.adds d.strips a m → s_90_j8 n (s_90_l1 n d a k) d (m : Int) (fwL d a m) s = if Poss d.adds d.strips a H then some (bdL d a H, true) else some ([], false) := by
   intro s hs
   unfold s_90_j8
   rw [p_90_l9 hd hn _ m (by omega) _ (by rw [fwL_length]; omega), hs]
   by_cases hf : (fw d.adds d.strips a m).ne
   ·rw [decide_eq_true hf, cond_true, ← fwL_succ]
    have := ih (m + 1) k (by omega) (by omega) (fun h hh => by
     by_cases h1 : h < m
     ·exact hne h h1
     ·have : h = m := by omega
      subst this; exact hf)
    push_cast at this
    exact this
   ·rw [decide_eq_false hf, cond_false, if_neg (fun hp => hf (hp m (by omega)))]
  rw [s_90_l1, decide_eq_true (by omega), cond_true, ea0]
  simp only [Option.bind_some]
  have had := addAt_le hd.ad 0
  cases m with
  | zero =>
   rw [decide_eq_false (by omega), cond_false]
   obtain ⟨q1, q2⟩ := ha
   simp only [Span.ok] at q1 q2
   rw [wr_of (by omega), wr_of (by omega)]
   exact key _ rfl
  | succ m =>
   rw [decide_eq_true (by omega), cond_true, add_at hd (h := m + 1) (by omega)]
   have e1 : wr (((m + 1 : Nat) : Int) - 1) = (m : Int) := by rw [wr_of (by omega)]; omega
   have g1 : ix (fwL d a (m + 1)) (m : Int) = some (fw d.adds d.strips a m) := ix_at (by unfold fwL; rw [List.getElem?_map, List.getElem?_range (by omega)]; rfl)
   rw [e1, g1]
   simp only [Option.bind_some, p_115 ha (addAt_le hd.ad (m + 1)) (fw_small hd ha (show m < 12 by omega) (by
    rcases Nat.eq_zero_or_pos m with h | h
    ·exact .inl h
    ·exact .inr (hne (m - 1) (by omega))))]
   exact key _ rfl
theorem p_90 (hd : d.ok) (hn : 100 ≤ n) {i : Nat} (hi : d.acids[i]? = some a) : s_90 n d (i : Int) = if hasB d.known i = true ∧ Poss d.adds d.strips a d.hours.toNat then some (bdL d a d.hours.toNat, true) else some ([], false) := by
 have hhr := hd.hr
 have hacl := hd.acl
 have hkn := hd.kn
 have hil : i < d.acids.length := (List.getElem?_eq_some_iff.1 hi).1
 have hpw := (pow_bound (i := d.acids.length) (by omega)).2
 unfold s_90
 rw [ix_at hi, Option.bind_some, p_72 hn (by omega) (by omega) (by omega), Option.bind_some]
 cases hb : hasB d.known i with
 | false => simp
 | true =>
  have := p_90_l1 (n := n) hd hn (hd.ac a (List.mem_of_getElem? hi)) (H := d.hours.toNat) (by omega) d.hours.toNat 0 n (by omega) (by omega) (fun h hh => by omega)
  simp only [Bool.not_true, cond_false, true_and]
  exact this
end
end Go.Proofs.YtohmhlkdgfcaeaaGreatDoor
namespace Go.Proofs.YtohmhlkdgfcaeaaGreatDoor
def Meet (w : List Span) : Prop := ∃ x : Int, 0 ≤ x ∧ x ≤ 12 ∧ ∀ s ∈ w, s.mem x
def comm (w : List Span) : Span := capL ⟨0, 12⟩ w
theorem meet_iff {w : List Span} : Meet w ↔ (comm w).ne := by
 constructor
 ·rintro ⟨x, h1, h2, h3⟩
  have := (mem_capL (s := ⟨0, 12⟩) (l := w) (x := x)).2 ⟨⟨h1, h2⟩, h3⟩
  simp only [Span.mem, Span.ne, comm] at *
  omega
 ·intro h
  have h1 := (mem_capL (s := ⟨0, 12⟩) (l := w) (x := (comm w).low)).1 (ne_mem h).1
  exact ⟨_, h1.1.1, h1.1.2, h1.2⟩
instance (w : List Span) : Decidable (Meet w) := decidable_of_iff _ meet_iff.symm
theorem Meet.sub {w w' : List Span} (h : Meet w) (hs : ∀ s ∈ w', s ∈ w) : Meet w' := by
 obtain ⟨x, h1, h2, h3⟩ := h
 exact ⟨x, h1, h2, fun s hw => h3 s (hs s hw)⟩
theorem cap_comm (s a b : Span) : cap (cap s a) b = cap (cap s b) a := by
 simp only [cap, Span.mk.injEq]
 omega
end Go.Proofs.YtohmhlkdgfcaeaaGreatDoor
namespace Go.Proofs.YtohmhlkdgfcaeaaGreatDoor
open Go Go.RowKit
def Err {α : Type} (o : Option (Except Value α)) : Prop := ∃ v, isRule v = true ∧ o = some (.error v)
theorem p_188 (n : Nat) (h : Int) {x y : Span} (hc : (cap x y).ne) : s_188 n h x y = some (.ok (cap x y)) := by
 unfold s_188
 have e : decide ((min x.high y.high) < (max x.low y.low)) = false := decide_eq_false (by simp only [Span.ne, cap] at hc; omega)
 rw [e]; rfl
theorem p_188e (n : Nat) (h : Int) {x y : Span} (hc : ¬ (cap x y).ne) : s_188 n h x y = some (.error (.iface 175 (.agg #[.int .i64 h]))) := by
 unfold s_188
 have e : decide ((min x.high y.high) < (max x.low y.low)) = true := decide_eq_true (by simp only [Span.ne, cap] at hc; omega)
 rw [e]; rfl
theorem capL_cap (l : List Span) : ∀ (s t : Span), capL (cap s t) l = cap (capL s l) t := by
 induction l with
 | nil => intro s t; rfl
 | cons u r ih =>
  intro s t
  show capL (cap (cap s t) u) r = cap (capL (cap s u) r) t
  rw [cap_comm, ih]
def full : Span := ⟨0, 1300⟩
theorem cap_full {s : Span} (h : 0 ≤ s.low ∧ s.high ≤ 1300) : cap full s = s := by
 obtain ⟨h1, h2⟩ := h
 ext
 ·simp only [cap, full]; omega
 ·simp only [cap, full]; omega
theorem capL_full {l : List Span} {s : Span} (h : 0 ≤ s.low ∧ s.high ≤ 1300) : cap (capL full l) s = capL s l := by
 rw [← capL_cap, cap_full h]
theorem ne_left {x y : Span} (h : (cap x y).ne) : x.ne := by simp only [Span.ne, cap] at *; omega
theorem capL_ne {l : List Span} : ∀ {s : Span}, (capL s l).ne → s.ne := by
 induction l with
 | nil => intro s h; exact h
 | cons t r ih => intro s h; exact ne_left (ih (s := cap s t) h)
section
variable {n : Nat} {d : Drum} {a : Acid} {H : Nat}
def lst (H : Nat) (c : Nat → Span) : List Span := (List.range H).map c
theorem lst_get {c : Nat → Span} {h : Nat} (hh : h < H) : (lst H c)[h]? = some (c h) := by
 unfold lst; rw [List.getElem?_map, List.getElem?_range hh]; rfl
theorem lst_set {c : Nat → Span} {m : Nat} {s : Span} : (lst H c).set m s = lst H (fun h => if h = m then s else c h) := by
 apply List.ext_getElem?
 intro i
 rw [List.getElem?_set]
 by_cases hi : i < H
 ·rw [lst_get hi, lst_get hi]
  by_cases hm : m = i
  ·subst hm
   rw [if_pos rfl, if_pos (by unfold lst; simpa using hi), if_pos rfl]
  ·rw [if_neg hm, if_neg (fun e => hm e.symm)]
 ·have e : ∀ c : Nat → Span, (lst H c)[i]? = none := fun c => by unfold lst; simp; omega
  rw [e, e]
  split
  ·rw [if_neg (by unfold lst; simp; omega)]
  ·rfl
theorem lst_congr {c c' : Nat → Span} (h : ∀ i, i < H → c i = c' i) : lst H c = lst H c' := by
 unfold lst
 exact List.map_congr_left (fun i hi => h i (by simpa using hi))
theorem p_173_strips (hd : d.ok) (hn : 100 ≤ n) (hH : d.hours = (H : Int)) (i : Int) (fin : List Span → Option (Except Value Filled)) (hfin : ∀ s, (ix s 0).bind (fun v120 => (ix d.adds 0).bind fun v121 => (ix d.adds 0).bind fun v122 =>
   (s_188 n 0 v120 (Span.mk (wr (a.strength.low + v121)) (wr (a.strength.high + v122)))).bind fun v123 => Except.casesOn (motive := fun _ => Option (Except Value (Filled))) v123 (fun p => some (.error p)) (fun v124 => (ix s 0).bind fun v125 => s_173_l2 n d i a n 1 (sts s 0 v124))) = fin s) :
  ((∀ h, h < H → (capL full (stripsAt d.strips h)).ne) → s_173_l1 n d i a n 0 (lst H (fun _ => full)) = fin (lst H (fun h => capL full (stripsAt d.strips h)))) ∧
  (¬ (∀ h, h < H → (capL full (stripsAt d.strips h)).ne) → Err (s_173_l1 n d i a n 0 (lst H (fun _ => full)))) := by
 have hst := hd.stl
 have h1 := loop_list d.strips (s_173_l1 n d i a) (fun _ x s K => (ix s x.hour).bind fun v => (s_188 n x.hour v x.span).bind fun r => Except.casesOn (motive := fun _ => Option (Except Value (Filled))) r (fun p => some (.error p)) (fun v' => (ix s x.hour).bind fun _ => K (sts s x.hour v')))
  fin (fun k j s => by
   rw [s_173_l1, hfin]
   by_cases hj : j < d.strips.length
   ·have hok := hd.st _ (List.getElem_mem hj)
    simp only [ix_at (List.getElem?_eq_getElem hj), Option.bind_some]
    obtain ⟨q1, q2, q3⟩ := hok
    rw [wr_of (x := d.strips[j].seen - d.strips[j].off) (by omega), wr_of (x := d.strips[j].seen + d.strips[j].off) (by omega)]
    rfl
   ·have e1 : decide ((j : Int) < ((d.strips.length : Nat) : Int)) = false := decide_eq_false (by omega)
    rw [e1, cond_false, cond_false]) (by omega) n 0 (lst H (fun _ => full)) (by omega) (by omega)
 rw [List.drop_zero, show ((0 : Nat) : Int) = 0 from rfl] at h1
 rw [h1]
 clear h1
 have key : ∀ (l : List Strip) (j : Nat) (c : Nat → Span), (∀ s ∈ l, s.ok d.hours) → (∀ h, h < H → (c h).ne) →
   ((∀ h, h < H → (capL (c h) (stripsAt l h)).ne) → fc (fun _ x s K => (ix s x.hour).bind fun v => (s_188 n x.hour v x.span).bind fun r => Except.casesOn (motive := fun _ => Option (Except Value (Filled))) r (fun p => some (.error p)) (fun v' => (ix s x.hour).bind fun _ => K (sts s x.hour v'))) fin j l (lst H c) = fin (lst H (fun h => capL (c h) (stripsAt l h)))) ∧
   (¬ (∀ h, h < H → (capL (c h) (stripsAt l h)).ne) → Err (fc (fun _ x s K => (ix s x.hour).bind fun v => (s_188 n x.hour v x.span).bind fun r => Except.casesOn (motive := fun _ => Option (Except Value (Filled))) r (fun p => some (.error p)) (fun v' => (ix s x.hour).bind fun _ => K (sts s x.hour v'))) fin j l (lst H c))) := by
  intro l
  induction l with
  | nil =>
   intro j c _ hc
   exact ⟨fun _ => rfl, fun h => absurd hc h⟩
  | cons x r ih =>
   intro j c hok hc
   obtain ⟨⟨q1, q2⟩, _⟩ := hok x List.mem_cons_self
   obtain ⟨m, hm⟩ := Int.eq_ofNat_of_zero_le q1
   have hmH : m < H := by omega
   simp only [fc]
   rw [hm, ix_at (lst_get hmH)]
   simp only [Option.bind_some]
   have hcap : ∀ h, capL (c h) (stripsAt (x :: r) h) = capL (if h = m then cap (c m) x.span else c h) (stripsAt r h) := by
    intro h
    rw [stripsAt_cons, hm]
    by_cases hh : h = m
    ·subst hh
     rw [if_pos rfl, if_pos rfl]; rfl
    ·rw [if_neg (by omega), if_neg hh]
   by_cases hx : (cap (c m) x.span).ne
   ·rw [p_188 n m hx]
    simp only [Option.bind_some]
    have hset : sts (lst H c) (m : Int) (cap (c m) x.span) = lst H (fun h => if h = m then cap (c m) x.span else c h) := lst_set
    rw [hset]
    have := ih (j + 1) (fun h => if h = m then cap (c m) x.span else c h) (fun s hs => hok s (List.mem_cons_of_mem _ hs)) (fun h hh => by
     by_cases e : h = m
     ·simp only [e, if_true]; exact hx
     ·simp only [e, if_false]; exact hc h hh)
    simp only [hcap]
    exact this
   ·rw [p_188e n m hx]
    constructor
    ·intro hall
     refine absurd ?_ hx
     have := hall m hmH
     rw [hcap, if_pos rfl] at this
     exact capL_ne this
    ·intro _
     exact ⟨_, rfl, rfl⟩
 exact key d.strips 0 (fun _ => full) hd.st (fun h _ => by simp [Span.ne, full])
def mixS (d : Drum) (a : Acid) (m : Nat) : Nat → Span := fun h => if h < m then fw d.adds d.strips a h else capL full (stripsAt d.strips h)
theorem aft_full (hd : d.ok) (ha : a.ok) {h : Nat} (hh : h + 1 < 12) : 0 ≤ (aft a (addAt d.adds (h + 1)) (fw d.adds d.strips a h)).low ∧ (aft a (addAt d.adds (h + 1)) (fw d.adds d.strips a h)).high ≤ 1300 := by
 have h1 := fw_low (st := d.strips) ha hd.ad h
 have h2 := addAt_le hd.ad (h + 1)
 obtain ⟨h3, h4⟩ := ha
 simp only [aft, Span.ok] at *
 omega
theorem p_173_l3 (hd : d.ok) (ha : a.ok) (hH : d.hours = (H : Int)) (hp : Poss d.adds d.strips a H) (i : Int) : ∀ (m k : Nat), m < k → m ≤ H - 1 → s_173_l3 n d i a k (m : Int) (mix d a H m) = some (.ok ⟨d, i, bdL d a H⟩) := by
 have hhr := hd.hr
 intro m
 induction m with
 | zero =>
  intro k hk hm
  obtain ⟨k, rfl⟩ : ∃ k', k = k' + 1 := ⟨k - 1, by omega⟩
  rw [s_173_l3, decide_eq_false (by omega), cond_false, mix_zero]
 | succ m ih =>
  intro k hk hm
  obtain ⟨k, rfl⟩ : ∃ k', k = k' + 1 := ⟨k - 1, by omega⟩
  have g1 := ix_at (mix_get (d := d) (a := a) (H := H) (m := m + 1) (h := m) (by omega))
  have g2 := ix_at (mix_get (d := d) (a := a) (H := H) (m := m + 1) (h := m + 1) (by omega))
  rw [if_pos (by omega)] at g1
  rw [if_neg (by omega)] at g2
  have e1 : wr (((m + 1 : Nat) : Int) - 1) = (m : Int) := by rw [wr_of (by omega)]; omega
  have hb := bd_small hd ha (by omega) hp (show m + 1 < H by omega)
  have hadd := addAt_le hd.ad (m + 1)
  have hok := (bd_ok ha hd.ad hp (show m < H by omega)).1
  rw [bd_step (ad := d.adds) (st := d.strips) (a := a) (show m + 1 < H by omega)] at hok
  have hset : sts (mix d a H (m + 1)) (m : Int) (bd d.adds d.strips a H m) = mix d a H m := mix_step (by omega)
  have key : ∀ low, low = (bef a (addAt d.adds (m + 1)) (bd d.adds d.strips a H (m + 1))).low → s_173_j6 n (s_173_l3 n d i a k) a ((m + 1 : Nat) : Int) (mix d a H (m + 1)) (bd d.adds d.strips a H (m + 1)) (addAt d.adds (m + 1)) low = some (.ok ⟨d, i, bdL d a H⟩) := by
   intro low hl
   have hhi : wr (wr ((bd d.adds d.strips a H (m + 1)).high - addAt d.adds (m + 1)) + a.fall.high) = (bef a (addAt d.adds (m + 1)) (bd d.adds d.strips a H (m + 1))).high := by
    obtain ⟨h3, h4⟩ := ha
    simp only [Span.small, Span.ok] at hb h3 h4
    rw [wr_of (x := _ - _) (by omega), wr_of (by omega)]
    rfl
   unfold s_173_j6
   rw [hhi, hl, e1, g1]
   simp only [Option.bind_some]
   rw [p_188 n m hok]
   simp only [Option.bind_some]
   rw [← bd_step (ad := d.adds) (st := d.strips) (a := a) (show m + 1 < H by omega), hset]
   exact ih k (by omega) (by omega)
  rw [s_173_l3, decide_eq_true (by omega), cond_true, g2, Option.bind_some, add_at hd (h := m + 1) (by omega), Option.bind_some]
  obtain ⟨h3, h4⟩ := ha
  simp only [Span.small, Span.ok] at hb h3 h4
  by_cases hc : addAt d.adds (m + 1) < (bd d.adds d.strips a H (m + 1)).low
  ·rw [decide_eq_true hc, cond_true]
   refine key _ ?_
   rw [wr_of (x := _ - _) (by omega), wr_of (by omega)]
   simp only [bef]
   rw [if_pos hc]
  ·rw [decide_eq_false hc, cond_false]
   refine key _ ?_
   simp only [bef]
   rw [if_neg hc]
theorem p_173_l2 (hd : d.ok) (hn : 100 ≤ n) (ha : a.ok) (hH : d.hours = (H : Int)) (i : Int) : ∀ (r m k : Nat), m + 1 + r = H → r < k → (∀ h, h < m + 1 → (fw d.adds d.strips a h).ne) →
  (Poss d.adds d.strips a H → s_173_l2 n d i a k ((m + 1 : Nat) : Int) (lst H (mixS d a (m + 1))) = some (.ok ⟨d, i, bdL d a H⟩)) ∧ (¬ Poss d.adds d.strips a H → Err (s_173_l2 n d i a k ((m + 1 : Nat) : Int) (lst H (mixS d a (m + 1))))) := by
 have hhr := hd.hr
 intro r
 induction r with
 | zero =>
  intro m k hm hk hne
  obtain ⟨k, rfl⟩ : ∃ k', k = k' + 1 := ⟨k - 1, by omega⟩
  have hm' : H = m + 1 := by omega
  subst hm'
  refine ⟨fun hp => ?_, fun hp => absurd hne hp⟩
  rw [s_173_l2, decide_eq_false (by omega), cond_false, hH]
  have := p_173_l3 (n := n) hd ha hH hp i m n (by omega) (by omega)
  have e1 : wr (((m + 1 : Nat) : Int) - 1) = (m : Int) := by rw [wr_of (by omega)]; omega
  rw [e1]
  have e2 : lst (m + 1) (mixS d a (m + 1)) = mix d a (m + 1) m := by
   unfold mix lst
   apply List.map_congr_left
   intro h hh
   rw [List.mem_range] at hh
   unfold mixS
   rw [if_pos hh]
   by_cases h1 : h < m
   ·rw [if_pos h1]
   ·have : h = m := by omega
    subst this
    rw [if_neg h1]
    exact (bd_last (ad := d.adds) (st := d.strips) (a := a) (H := h + 1) (by omega)).symm
  rw [e2]
  exact this
 | succ r ih =>
  intro m k hm hk hne
  obtain ⟨k, rfl⟩ : ∃ k', k = k' + 1 := ⟨k - 1, by omega⟩
  have g0 : ix (lst H (mixS d a (m + 1))) (m : Int) = some (fw d.adds d.strips a m) := by
   rw [ix_at (lst_get (by omega))]; unfold mixS; rw [if_pos (by omega)]
  have g1 : ix (lst H (mixS d a (m + 1))) ((m + 1 : Nat) : Int) = some (capL full (stripsAt d.strips (m + 1))) := by
   rw [ix_at (lst_get (by omega))]; unfold mixS; rw [if_neg (by omega)]
  have e1 : wr (((m + 1 : Nat) : Int) - 1) = (m : Int) := by rw [wr_of (by omega)]; omega
  have hsm := fw_small hd ha (show m < 12 by omega) (by
    rcases Nat.eq_zero_or_pos m with h | h
    ·exact .inl h
    ·exact .inr (hne (m - 1) (by omega)))
  have hadd := addAt_le hd.ad (m + 1)
  have haft : Span.mk (wr ((max 0 (wr ((fw d.adds d.strips a m).low - a.fall.high))) + addAt d.adds (m + 1))) (wr ((max 0 (wr ((fw d.adds d.strips a m).high - a.fall.low))) + addAt d.adds (m + 1))) = aft a (addAt d.adds (m + 1)) (fw d.adds d.strips a m) :=
   Option.some.inj (p_115 (n := n) ha hadd hsm)
  have hfw : cap (capL full (stripsAt d.strips (m + 1))) (aft a (addAt d.adds (m + 1)) (fw d.adds d.strips a m)) = fw d.adds d.strips a (m + 1) := capL_full (aft_full hd ha (by omega))
  rw [s_173_l2, decide_eq_true (by omega), cond_true, e1, g0, Option.bind_some, add_at hd (h := m + 1) (by omega), Option.bind_some, g1, Option.bind_some, haft]
  by_cases hf : (fw d.adds d.strips a (m + 1)).ne
  ·rw [p_188 n _ (by rw [hfw]; exact hf), hfw]
   simp only [Option.bind_some]
   have hset : sts (lst H (mixS d a (m + 1))) ((m + 1 : Nat) : Int) (fw d.adds d.strips a (m + 1)) = lst H (mixS d a (m + 1 + 1)) := by
    refine (lst_set (m := m + 1)).trans (lst_congr (fun h _ => ?_))
    unfold mixS
    by_cases e : h = m + 1
    ·subst e; rw [if_pos rfl, if_pos (by omega)]
    ·rw [if_neg e]
     by_cases h1 : h < m + 1
     ·rw [if_pos h1, if_pos (by omega)]
     ·rw [if_neg h1, if_neg (by omega)]
   rw [hset, wr_of (by omega)]
   have := ih (m + 1) k (by omega) (by omega) (fun h hh => by
    by_cases e : h = m + 1
    ·subst e; exact hf
    ·exact hne h (by omega))
   exact_mod_cast this
  ·rw [p_188e n _ (by rw [hfw]; exact hf)]
   exact ⟨fun hp => absurd (hp (m + 1) (by omega)) hf, fun _ => ⟨_, rfl, rfl⟩⟩
theorem p_173 (hd : d.ok) (hn : 100 ≤ n) {i : Nat} (hi : d.acids[i]? = some a) :
  (Poss d.adds d.strips a d.hours.toNat → s_173 n d i = some (.ok ⟨d, i, bdL d a d.hours.toNat⟩)) ∧ (¬ Poss d.adds d.strips a d.hours.toNat → Err (s_173 n d i)) := by
 have hhr := hd.hr
 have ha := hd.ac a (List.mem_of_getElem? hi)
 obtain ⟨H, hH⟩ := Int.eq_ofNat_of_zero_le (show 0 ≤ d.hours by omega)
 have hH' : d.hours.toNat = H := by omega
 rw [hH']
 unfold s_173
 rw [ix_at hi, Option.bind_some]
 have e187 : s_187 n [Span.mk 0 1300] d.hours = some (lst H (fun _ => full)) := by
  unfold s_187
  rw [decide_eq_true hhr.1, decide_eq_true hhr.2]
  simp only [Bool.and_self, cond_true, hH']
  refine congrArg some ?_
  unfold lst full
  apply List.ext_getElem?
  intro j
  simp [List.getElem?_replicate, List.getElem?_range]
  by_cases hj : j < H <;> simp [hj]
 rw [e187, Option.bind_some]
 obtain ⟨k1, k2⟩ := p_173_strips (n := n) (a := a) hd hn hH i _ (fun s => rfl)
 have hst0 : 0 ≤ (start a (addAt d.adds 0)).low ∧ (start a (addAt d.adds 0)).high ≤ 1300 := by
  have := addAt_le hd.ad 0
  obtain ⟨h3, h4⟩ := ha
  simp only [start, Span.ok] at *
  omega
 have hsub : ∀ h, h < H → (fw d.adds d.strips a h).ne → (capL full (stripsAt d.strips h)).ne := by
  intro h hh hf
  cases h with
  | zero => exact ne_left (y := start a (addAt d.adds 0)) (by rw [capL_full hst0]; exact hf)
  | succ h => exact ne_left (y := aft a (addAt d.adds (h + 1)) (fw d.adds d.strips a h)) (by rw [capL_full (aft_full hd ha (by omega))]; exact hf)
 by_cases hall : ∀ h, h < H → (capL full (stripsAt d.strips h)).ne
 ·rw [k1 hall]
  have g0 : ix (lst H (fun h => capL full (stripsAt d.strips h))) 0 = some (capL full (stripsAt d.strips 0)) := ix_at (lst_get (c := fun h => capL full (stripsAt d.strips h)) (h := 0) (by omega))
  have ga : ix d.adds 0 = some (addAt d.adds 0) := add_at hd (h := 0) (by omega)
  have hs0 : Span.mk (wr (a.strength.low + addAt d.adds 0)) (wr (a.strength.high + addAt d.adds 0)) = start a (addAt d.adds 0) := by
   have := addAt_le hd.ad 0
   obtain ⟨h3, h4⟩ := ha
   simp only [Span.ok] at h3 h4
   rw [wr_of (by omega), wr_of (by omega)]; rfl
  have hfw : cap (capL full (stripsAt d.strips 0)) (start a (addAt d.adds 0)) = fw d.adds d.strips a 0 := capL_full hst0
  simp only [g0, ga, Option.bind_some, hs0]
  by_cases hf : (fw d.adds d.strips a 0).ne
  ·rw [p_188 n _ (by rw [hfw]; exact hf), hfw]
   simp only [Option.bind_some]
   have hset : sts (lst H (fun h => capL full (stripsAt d.strips h))) 0 (fw d.adds d.strips a 0) = lst H (mixS d a (0 + 1)) := by
    refine (lst_set (m := 0)).trans (lst_congr (fun h _ => ?_))
    unfold mixS
    by_cases e : h = 0
    ·subst e; rw [if_pos rfl, if_pos (by omega)]
    ·rw [if_neg e, if_neg (by omega)]
   rw [hset]
   exact p_173_l2 (n := n) hd hn ha hH i (H - 1) 0 n (by omega) (by omega) (fun h hh => by
    have : h = 0 := by omega
    subst this; exact hf)
  ·rw [p_188e n _ (by rw [hfw]; exact hf)]
   exact ⟨fun hp => absurd (hp 0 (by omega)) hf, fun _ => ⟨_, rfl, rfl⟩⟩
 ·exact ⟨fun hp => absurd (fun h hh => hsub h hh (hp h hh)) hall, fun _ => k2 hall⟩
end
end Go.Proofs.YtohmhlkdgfcaeaaGreatDoor
namespace Go.Proofs.YtohmhlkdgfcaeaaGreatDoor
open Go Go.RowKit
def acidAt (d : Drum) (i : Nat) : Acid := d.acids.getD i default
def hrs (d : Drum) : Nat := d.hours.toNat
def PossI (d : Drum) (i : Nat) : Bool := hasB d.known i && decide (Poss d.adds d.strips (acidAt d i) (hrs d))
def bdI (d : Drum) (i : Nat) : List Span := bdL d (acidAt d i) (hrs d)
def idx (d : Drum) : List Nat := (List.range d.acids.length).filter (PossI d)
section
variable {n : Nat} {d : Drum}
theorem acidAt_get {i : Nat} (hi : i < d.acids.length) : d.acids[i]? = some (acidAt d i) := by
 unfold acidAt
 rw [List.getD_eq_getElem?_getD, List.getElem?_eq_getElem hi]; rfl
theorem acidAt_ok (hd : d.ok) {i : Nat} (hi : i < d.acids.length) : (acidAt d i).ok := hd.ac _ (List.mem_of_getElem? (acidAt_get hi))
theorem hrs_eq (hd : d.ok) : d.hours = (hrs d : Int) := by have := hd.hr; unfold hrs; omega
theorem hrs_le (hd : d.ok) : 1 ≤ hrs d ∧ hrs d ≤ 12 := by have := hd.hr; unfold hrs; omega
theorem q_90 (hd : d.ok) (hn : 100 ≤ n) {i : Nat} (hi : i < d.acids.length) : s_90 n d (i : Int) = some (bif PossI d i then (bdI d i, true) else ([], false)) := by
 rw [p_90 hd hn (acidAt_get hi)]
 unfold PossI bdI hrs
 by_cases h1 : hasB d.known i = true <;> by_cases h2 : Poss d.adds d.strips (acidAt d i) d.hours.toNat <;> simp [h1, h2]
theorem q_173 (hd : d.ok) (hn : 100 ≤ n) {i : Nat} (hi : i < d.acids.length) : (Poss d.adds d.strips (acidAt d i) (hrs d) → s_173 n d i = some (.ok ⟨d, i, bdI d i⟩)) ∧ (¬ Poss d.adds d.strips (acidAt d i) (hrs d) → Err (s_173 n d i)) :=
 p_173 hd hn (acidAt_get hi)
theorem app_of {α : Type} {l l2 : List α} (h : l.length + l2.length ≤ 1000000) : app l l2 = some (l ++ l2) := by
 unfold app; rw [decide_eq_true h]; rfl
def intL (l : List Nat) : List Int := l.map fun (j : Nat) => (j : Int)
theorem p_80 (hd : d.ok) (hn : 100 ≤ n) : s_80 n d = some (intL (idx d)) := by
 have hl := hd.acl
 have h1 := loop_nat ((d.acids.length : Nat) : Int) (s_80_l1 n d) (fun i s K => (s_90 n d i).bind fun v => bif v.2 then (app s [i]).bind fun s' => K s' else K s) (fun s => some s) (fun k i s => by rw [s_80_l1]) (by omega) d.acids.length n 0 [] (by omega) (by omega) (by omega)
 unfold s_80
 rw [h1]
 have key : ∀ (r i : Nat) (s : List Int), i + r = d.acids.length → s.length ≤ i → fn ((d.acids.length : Nat) : Int) (fun i s K => (s_90 n d i).bind fun v => bif v.2 then (app s [i]).bind fun s' => K s' else K s) (fun s => some s) r (i : Int) s = some (s ++ intL ((List.range' i r).filter (PossI d))) := by
  intro r
  induction r with
  | zero => intro i s _ _; simp [fn, intL]
  | succ r ih =>
   intro i s hi hs
   have hc : ((i : Int) + 1) = ((i + 1 : Nat) : Int) := by push_cast; rfl
   simp only [fn]
   rw [q_90 hd hn (by omega), Option.bind_some, List.range'_succ, List.filter_cons, hc]
   cases hp : PossI d i with
   | false => simp only [cond_false]; rw [ih (i + 1) s (by omega) (by omega)]; rfl
   | true =>
    simp only [cond_true]
    rw [app_of (by simp; omega), Option.bind_some, ih (i + 1) _ (by omega) (by simp; omega)]
    simp [intL]
 have := key d.acids.length 0 [] (by omega) (by simp)
 rw [← List.range_eq_range'] at this
 exact this
theorem p_89 (hd : d.ok) (hn : 100 ≤ n) : s_89 n d = some (!(idx d).isEmpty) := by
 unfold s_89
 rw [p_80 hd hn, Option.bind_some]
 cases h : idx d with
 | nil => rfl
 | cons x r => simp [intL]
def err (d : Drum) (fine : Bool) : Int := bif !okD d || !fine then 2 else bif (idx d).isEmpty then 7 else 0
theorem p_27 (hn : 100 ≤ n) (hs : Short d) (fine : Bool) : s_27 n d fine = some (err d fine) := by
 unfold s_27 err s_27_j1
 rw [p_39 hn hs, Option.bind_some]
 cases hok : okD d with
 | false => rfl
 | true =>
  rw [p_89 (okD_iff.1 hok) hn]
  cases fine
  ·rfl
  ·cases (idx d).isEmpty <;> rfl
def filL (d : Drum) : List Filled := (idx d).map fun (i : Nat) => ⟨d, (i : Int), bdI d i⟩
theorem p_171 (hd : d.ok) (hn : 100 ≤ n) : s_171 n d n 0 [] = some (filL d) := by
 have hl := hd.acl
 have hkn := hd.kn
 have hpw := (pow_bound (i := d.acids.length) (by omega)).2
 have hpw4 : (2 : Int) ^ d.acids.length ≤ 16 := by
  have : (2 : Nat) ^ d.acids.length ≤ 2 ^ 4 := Nat.pow_le_pow_right (by omega) hl.2
  exact_mod_cast this
 have h1 := loop_nat ((d.acids.length : Nat) : Int) (s_171 n d) (fun i s K => (s_145 n d.known i).bind fun b => bif !b then K s else (s_173 n d i).bind fun r => match r with
     | .error v => bif isRule v then K s else none
     | .ok f => (app s [f]).bind fun l' => K l') (fun s => some s) (fun k i s => by rw [s_171]; rfl) (by omega) d.acids.length n 0 [] (by omega) (by omega) (by omega)
 rw [h1]
 have key : ∀ (r i : Nat) (s : List Filled), i + r = d.acids.length → s.length ≤ i → fn ((d.acids.length : Nat) : Int) (fun i s K => (s_145 n d.known i).bind fun b => bif !b then K s else (s_173 n d i).bind fun r => match r with
     | .error v => bif isRule v then K s else none
     | .ok f => (app s [f]).bind fun l' => K l') (fun s => some s) r (i : Int) s = some (s ++ ((List.range' i r).filter (PossI d)).map fun (i : Nat) => (⟨d, (i : Int), bdI d i⟩ : Filled)) := by
  intro r
  induction r with
  | zero => intro i s _ _; simp [fn]
  | succ r ih =>
   intro i s hi hs
   have hc : ((i : Int) + 1) = ((i + 1 : Nat) : Int) := by push_cast; rfl
   simp only [fn]
   rw [p_145 (by omega) (by omega) (by omega), Option.bind_some, List.range'_succ, List.filter_cons, hc]
   cases hp : hasB d.known i with
   | false =>
    have : PossI d i = false := by unfold PossI; rw [hp]; rfl
    rw [this]
    simp only [Bool.not_false, cond_true]
    rw [ih (i + 1) s (by omega) (by omega)]; rfl
   | true =>
    simp only [Bool.not_true, cond_false]
    obtain ⟨k1, k2⟩ := q_173 (n := n) hd hn (show i < d.acids.length by omega)
    by_cases hpo : Poss d.adds d.strips (acidAt d i) (hrs d)
    ·have : PossI d i = true := by unfold PossI; rw [hp, decide_eq_true hpo]; rfl
     rw [this, k1 hpo]
     simp only [Option.bind_some, if_true]
     rw [app_of (by simp; omega), Option.bind_some, ih (i + 1) _ (by omega) (by simp; omega)]
     simp
    ·have : PossI d i = false := by unfold PossI; rw [hp, decide_eq_false hpo]; rfl
     obtain ⟨v, hv, he⟩ := k2 hpo
     rw [this, he]
     simp only [Option.bind_some, hv, cond_true]
     rw [ih (i + 1) s (by omega) (by omega)]; rfl
 have := key d.acids.length 0 [] (by omega) (by simp)
 rw [← List.range_eq_range'] at this
 exact this
theorem p_84 (hn : 100 ≤ n) (hs : Short d) (fine : Bool) : s_84 n d fine = some (bif decide (err d fine = 0) then filL d else [], err d fine) := by
 unfold s_84 err
 rw [p_104 hn hs, Option.bind_some]
 cases hok : okD d with
 | false => rfl
 | true =>
  cases fine
  ·rfl
  ·simp only [Bool.not_true, Bool.or_self, cond_false]
   rw [p_171 (okD_iff.1 hok) hn, Option.bind_some]
   have : (filL d).isEmpty = (idx d).isEmpty := by unfold filL; cases idx d <;> rfl
   rw [this]
   cases (idx d).isEmpty <;> rfl
end
end Go.Proofs.YtohmhlkdgfcaeaaGreatDoor
namespace Go.Proofs.YtohmhlkdgfcaeaaGreatDoor
open Go Go.RowKit
def bdAt (d : Drum) (i h : Nat) : Span := bd d.adds d.strips (acidAt d i) (hrs d) h
section
variable {n : Nat} {d : Drum}
theorem bdI_lst (i : Nat) : bdI d i = lst (hrs d) (bdAt d i) := rfl
theorem bdI_get {i h : Nat} (hh : h < hrs d) : ix (bdI d i) (h : Int) = some (bdAt d i h) := ix_at (by rw [bdI_lst]; exact lst_get hh)
theorem p_85 {i h : Nat} (hh : h < hrs d) : s_85 n ⟨d, (i : Int), bdI d i⟩ (h : Int) = some (bdAt d i h).low := by unfold s_85; rw [bdI_get hh]; rfl
theorem p_86 {i h : Nat} (hh : h < hrs d) : s_86 n ⟨d, (i : Int), bdI d i⟩ (h : Int) = some (bdAt d i h).high := by unfold s_86; rw [bdI_get hh]; rfl
theorem idx_len (hd : d.ok) : (idx d).length ≤ 4 := by
 have := hd.acl
 have h1 := List.length_filter_le (PossI d) (List.range d.acids.length)
 unfold idx
 rw [List.length_range] at h1
 omega
theorem idx_mem {i : Nat} (h : i ∈ idx d) : i < d.acids.length ∧ PossI d i = true := by
 unfold idx at h
 rw [List.mem_filter, List.mem_range] at h
 exact h
theorem lst_length (m : Nat) (c : Nat → Span) : (lst m c).length = m := by simp [lst]
end
end Go.Proofs.YtohmhlkdgfcaeaaGreatDoor
namespace Go.Proofs.YtohmhlkdgfcaeaaGreatDoor
open Go Go.RowKit
def qt (p x : Int) : Int := (x * p).tdiv 100
def cut (p : Int) (g : Nat → Int) : Nat → Int
 | 0 => 0
 | t + 1 => cut p g t + qt p (g t)
def stateAt (b : Batch) (g : Nat → Int) (t : Nat) : State := ⟨max 0 (b.rough - cut b.polish g t), max 0 (b.thick - cut b.eat g t)⟩
theorem qt_le {p x : Int} (hp : 0 ≤ p ∧ p ≤ 100) (hx : 0 ≤ x ∧ x ≤ 5000) : 0 ≤ qt p x ∧ qt p x ≤ 5000 := by
 unfold qt
 have h1 : 0 ≤ x * p := Int.mul_nonneg hx.1 hp.1
 have h2 : x * p ≤ x * 100 := Int.mul_le_mul_of_nonneg_left hp.2 hx.1
 rw [Int.tdiv_eq_ediv_of_nonneg h1]
 omega
theorem p_quo {p x : Int} (hp : 0 ≤ p ∧ p ≤ 100) (hx : 0 ≤ x ∧ x ≤ 5000) : quo .i64 (wr (x * p)) 100 = some (qt p x) := by
 have h1 : 0 ≤ x * p := Int.mul_nonneg hx.1 hp.1
 have h2 : x * p ≤ x * 100 := Int.mul_le_mul_of_nonneg_left hp.2 hx.1
 have h3 := qt_le hp hx
 rw [wr_of (by omega)]
 unfold quo
 rw [show decide ((100 : Int) = 0) = false from rfl, cond_false]
 exact congrArg some (wr_of (by unfold qt at h3; omega))
theorem cut_le {p : Int} {g : Nat → Int} (hp : 0 ≤ p ∧ p ≤ 100) : ∀ (t : Nat), (∀ h, h < t → 0 ≤ g h ∧ g h ≤ 5000) → 0 ≤ cut p g t ∧ cut p g t ≤ 5000 * t := by
 intro t
 induction t with
 | zero => intro _; simp [cut]
 | succ t ih =>
  intro h
  have h1 := ih (fun i hi => h i (by omega))
  have h2 := qt_le hp (h t (by omega))
  rw [cut]
  push_cast
  omega
def lstI (m : Nat) (c : Nat → Int) : List Int := (List.range m).map c
theorem lstI_succ (m : Nat) (c : Nat → Int) : lstI (m + 1) c = lstI m c ++ [c m] := by unfold lstI; rw [List.range_succ, List.map_append]; rfl
theorem lstI_length (m : Nat) (c : Nat → Int) : (lstI m c).length = m := by simp [lstI]
theorem lstI_get {m h : Nat} {c : Nat → Int} (hh : h < m) : (lstI m c)[h]? = some (c h) := by unfold lstI; rw [List.getElem?_map, List.getElem?_range hh]; rfl
section
variable {n : Nat} {d : Drum} {b : Batch} {g : Nat → Int} {t : Nat}
theorem p_166 {p : Int} (hp : 0 ≤ p ∧ p ≤ 100) (hn : 100 ≤ n) (ht : t ≤ 50) (hg : ∀ h, h < t → 0 ≤ g h ∧ g h ≤ 5000) : s_166 n (lstI t (fun h => qt p (g h))) = some (cut p g t) := by
 have key : ∀ (r m k : Nat), m + r = t → r < k → s_166_l1 (lstI t (fun h => qt p (g h))) k (cut p g m) (m : Int) = some (cut p g t) := by
  intro r
  induction r with
  | zero =>
   intro m k hm hk
   obtain ⟨k, rfl⟩ : ∃ k', k = k' + 1 := ⟨k - 1, by omega⟩
   have : m = t := by omega
   subst this
   rw [s_166_l1, decide_eq_false (by rw [lstI_length]; omega), cond_false]
  | succ r ih =>
   intro m k hm hk
   obtain ⟨k, rfl⟩ : ∃ k', k = k' + 1 := ⟨k - 1, by omega⟩
   have h1 := cut_le hp m (fun h hh => hg h (by omega))
   have h2 := qt_le hp (hg m (by omega))
   rw [s_166_l1, decide_eq_true (by rw [lstI_length]; omega), cond_true, ix_at (lstI_get (by omega)), Option.bind_some, wr_of (x := cut p g m + qt p (g m)) (by omega), wr_of (by omega)]
   exact_mod_cast ih (m + 1) k (by omega) (by omega)
 exact key t 0 n (by omega) (by omega)
theorem p_118 (hb : b.ok) (hn : 100 ≤ n) (ht : t ≤ 50) {f : Int → Option Int} (hf : ∀ h, h < t → f (h : Int) = some (g h)) (hg : ∀ h, h < t → 0 ≤ g h ∧ g h ≤ 5000) : s_118 n b (t : Int) f = some (stateAt b g t) := by
 obtain ⟨h1, h2, h3, h4, h5, h6⟩ := hb
 have key : ∀ (r m k : Nat), m + r = t → r < k → s_118_l1 n f b (t : Int) k (m : Int) (lstI m (fun h => qt b.polish (g h))) (lstI m (fun h => qt b.eat (g h))) = some (stateAt b g t) := by
  intro r
  induction r with
  | zero =>
   intro m k hm hk
   obtain ⟨k, rfl⟩ : ∃ k', k = k' + 1 := ⟨k - 1, by omega⟩
   have : m = t := by omega
   subst this
   have c1 := cut_le h5 m hg
   have c2 := cut_le h6 m hg
   rw [s_118_l1, decide_eq_false (by omega), cond_false, p_166 h5 hn ht hg, Option.bind_some, p_166 h6 hn ht hg, Option.bind_some, wr_of (by omega), wr_of (by omega)]
   rfl
  | succ r ih =>
   intro m k hm hk
   obtain ⟨k, rfl⟩ : ∃ k', k = k' + 1 := ⟨k - 1, by omega⟩
   rw [s_118_l1, decide_eq_true (by omega), cond_true, hf m (by omega), Option.bind_some, p_quo h5 (hg m (by omega)), Option.bind_some, app_of (by rw [lstI_length]; simp; omega), Option.bind_some,
    p_quo h6 (hg m (by omega)), Option.bind_some, app_of (by rw [lstI_length]; simp; omega), Option.bind_some, wr_of (by omega)]
   have := ih (m + 1) k (by omega) (by omega)
   rw [lstI_succ, lstI_succ] at this
   exact_mod_cast this
 exact key t 0 n (by omega) (by omega)
theorem p_140 (hb : b.ok) (hn : 100 ≤ n) (ht : t ≤ 50) {l : List Int} (hl : ∀ h, h < t → l[h]? = some (g h)) (hg : ∀ h, h < t → 0 ≤ g h ∧ g h ≤ 5000) : s_140 n b l (t : Int) = some (stateAt b g t) := by
 obtain ⟨h1, h2, h3, h4, h5, h6⟩ := hb
 have key : ∀ (r m k : Nat), m + r = t → r < k → s_140_l1 b l (t : Int) k (b.rough - cut b.polish g m) (b.thick - cut b.eat g m) (m : Int) = some (stateAt b g t) := by
  intro r
  induction r with
  | zero =>
   intro m k hm hk
   obtain ⟨k, rfl⟩ : ∃ k', k = k' + 1 := ⟨k - 1, by omega⟩
   have : m = t := by omega
   subst this
   rw [s_140_l1, decide_eq_false (by omega), cond_false]
   rfl
  | succ r ih =>
   intro m k hm hk
   obtain ⟨k, rfl⟩ : ∃ k', k = k' + 1 := ⟨k - 1, by omega⟩
   have hgm := hg m (by omega)
   have c1 := cut_le h5 m (fun h hh => hg h (by omega))
   have c2 := cut_le h6 m (fun h hh => hg h (by omega))
   have q1 := qt_le h5 hgm
   have q2 := qt_le h6 hgm
   rw [s_140_l1, decide_eq_true (by omega), cond_true, ix_at (hl m (by omega))]
   simp only [Option.bind_some, p_quo h5 hgm, p_quo h6 hgm]
   rw [wr_of (x := b.rough - cut b.polish g m - qt b.polish (g m)) (by omega), wr_of (x := b.thick - cut b.eat g m - qt b.eat (g m)) (by omega), wr_of (by omega)]
   have := ih (m + 1) k (by omega) (by omega)
   rw [show b.rough - cut b.polish g m - qt b.polish (g m) = b.rough - cut b.polish g (m + 1) by rw [cut]; omega, show b.thick - cut b.eat g m - qt b.eat (g m) = b.thick - cut b.eat g (m + 1) by rw [cut]; omega]
   exact_mod_cast this
 have := key t 0 n (by omega) (by omega)
 simpa [cut, s_140] using this
theorem p_73 (hn : 100 ≤ n) {H : Nat} (hH : H ≤ 50) (c : Nat → Span) (hi : Bool) : s_73 n (lst H c) hi = some (lstI H (fun h => bif hi then (c h).high else (c h).low)) := by
 have key : ∀ (r m k : Nat), m + r = H → r < k → s_73_l1 (lst H c) hi k (m : Int) (lstI m (fun h => bif hi then (c h).high else (c h).low)) = some (lstI H (fun h => bif hi then (c h).high else (c h).low)) := by
  intro r
  induction r with
  | zero =>
   intro m k hm hk
   obtain ⟨k, rfl⟩ : ∃ k', k = k' + 1 := ⟨k - 1, by omega⟩
   have : m = H := by omega
   subst this
   rw [s_73_l1, decide_eq_false (by rw [lst_length]; omega), cond_false]
  | succ r ih =>
   intro m k hm hk
   obtain ⟨k, rfl⟩ : ∃ k', k = k' + 1 := ⟨k - 1, by omega⟩
   have := ih (m + 1) k (by omega) (by omega)
   rw [lstI_succ] at this
   have e1 : wr ((m : Int) + 1) = ((m + 1 : Nat) : Int) := by rw [wr_of (by omega)]; push_cast; rfl
   rw [s_73_l1, decide_eq_true (by rw [lst_length]; omega), cond_true, ix_at (lst_get (by omega)), e1]
   cases hi with
   | false =>
    simp only [Option.bind_some, cond_false] at this ⊢
    rw [app_of (by rw [lstI_length]; simp; omega), Option.bind_some]
    exact this
   | true =>
    simp only [Option.bind_some, cond_true] at this ⊢
    rw [app_of (by rw [lstI_length]; simp; omega), Option.bind_some]
    exact this
 exact key H 0 n (by omega) (by omega)
def loS (d : Drum) (b : Batch) (i t : Nat) : State := stateAt b (fun h => (bdAt d i h).low) t
def hiS (d : Drum) (b : Batch) (i t : Nat) : State := stateAt b (fun h => (bdAt d i h).high) t
def bOf (d : Drum) (b : Batch) (t i : Nat) : Bounds := ⟨⟨(hiS d b i t).rough, (loS d b i t).rough⟩, ⟨(hiS d b i t).thick, (loS d b i t).thick⟩⟩
def updB (x y : Bounds) : Bounds := ⟨⟨min x.rough.low y.rough.low, max x.rough.high y.rough.high⟩, ⟨min x.thick.low y.thick.low, max x.thick.high y.thick.high⟩⟩
def bnds (d : Drum) (b : Batch) (t : Nat) : Bounds := (idx d).foldl (fun s i => updB s (bOf d b t i)) (bOf d b t ((idx d).headD 0))
theorem updB_self (x : Bounds) : updB x x = x := by
 unfold updB
 ext <;> simp only <;> omega
theorem bdAt_pos (hd : d.ok) {i h : Nat} (hi : i ∈ idx d) (hh : h < hrs d) : 0 ≤ (bdAt d i h).low ∧ (bdAt d i h).low ≤ (bdAt d i h).high ∧ (bdAt d i h).high ≤ 1300 := by
 obtain ⟨m1, m2⟩ := idx_mem hi
 have hhr := hrs_le hd
 unfold PossI at m2
 simp only [Bool.and_eq_true, decide_eq_true_eq] at m2
 have h1 := fw_low (st := d.strips) (acidAt_ok hd m1) hd.ad h
 have h2 := bd_ok (acidAt_ok hd m1) hd.ad m2.2 hh
 simp only [Span.ne] at h2
 unfold bdAt
 omega
theorem p_118lo (hd : d.ok) (hn : 100 ≤ n) (hb : b.ok) {i : Nat} (hi : i ∈ idx d) (ht : t ≤ hrs d) : s_118 n b (t : Int) (fun z => s_85 n ⟨d, (i : Int), bdI d i⟩ z) = some (loS d b i t) := by
 have hhr := hrs_le hd
 exact p_118 hb hn (by omega) (fun h hh => p_85 (by omega)) (fun h hh => by have := bdAt_pos hd hi (show h < hrs d by omega); omega)
theorem p_118hi (hd : d.ok) (hn : 100 ≤ n) (hb : b.ok) {i : Nat} (hi : i ∈ idx d) (ht : t ≤ hrs d) : s_118 n b (t : Int) (fun z => s_86 n ⟨d, (i : Int), bdI d i⟩ z) = some (hiS d b i t) := by
 have hhr := hrs_le hd
 exact p_118 hb hn (by omega) (fun h hh => p_86 (by omega)) (fun h hh => by have := bdAt_pos hd hi (show h < hrs d by omega); omega)
theorem p_140lo (hd : d.ok) (hn : 100 ≤ n) (hb : b.ok) {i : Nat} (hi : i ∈ idx d) (ht : t ≤ hrs d) : s_140 n b (lstI (hrs d) (fun h => (bdAt d i h).low)) (t : Int) = some (loS d b i t) := by
 have hhr := hrs_le hd
 exact p_140 hb hn (by omega) (fun h hh => lstI_get (by omega)) (fun h hh => by have := bdAt_pos hd hi (show h < hrs d by omega); omega)
theorem p_140hi (hd : d.ok) (hn : 100 ≤ n) (hb : b.ok) {i : Nat} (hi : i ∈ idx d) (ht : t ≤ hrs d) : s_140 n b (lstI (hrs d) (fun h => (bdAt d i h).high)) (t : Int) = some (hiS d b i t) := by
 have hhr := hrs_le hd
 exact p_140 hb hn (by omega) (fun h hh => lstI_get (by omega)) (fun h hh => by have := bdAt_pos hd hi (show h < hrs d by omega); omega)
theorem p_120 (hd : d.ok) (hn : 100 ≤ n) (hb : b.ok) (hne : idx d ≠ []) (ht : t ≤ hrs d) : s_120 n (filL d) b (t : Int) = some (bnds d b t) := by
 have hil := idx_len hd
 obtain ⟨i0, r0, hi0⟩ : ∃ i r, idx d = i :: r := by
  cases h : idx d with
  | nil => exact absurd h hne
  | cons i r => exact ⟨i, r, rfl⟩
 have hfl : (filL d).length = (idx d).length := by simp [filL]
 have rest : ∀ (r : List Nat) (p k : Nat) (x : Bounds), (idx d).drop p = r → 0 < p → p ≤ (idx d).length → (idx d).length < k + p → s_120_l1 n (filL d) b (t : Int) k (p : Int) x = some (r.foldl (fun s i => updB s (bOf d b t i)) x) := by
  intro r
  induction r with
  | nil =>
   intro p k x hr hp hp2 hk
   have hpl : (idx d).length ≤ p := List.drop_eq_nil_iff.1 hr
   obtain ⟨k, rfl⟩ : ∃ k', k = k' + 1 := ⟨k - 1, by omega⟩
   rw [s_120_l1, decide_eq_false (by omega), cond_false]
   rfl
  | cons j r ih =>
   intro p k x hr hp hp2 hk
   have hpl : p < (idx d).length := by
    rcases Nat.lt_or_ge p (idx d).length with h | h
    ·exact h
    ·rw [List.drop_eq_nil_of_le h] at hr; cases hr
   obtain ⟨k, rfl⟩ : ∃ k', k = k' + 1 := ⟨k - 1, by omega⟩
   rw [List.drop_eq_getElem_cons hpl] at hr
   obtain ⟨hj, hr2⟩ := List.cons.inj hr
   have hjm : j ∈ idx d := by rw [← hj]; exact List.getElem_mem hpl
   have gx : ix (filL d) (p : Int) = some ⟨d, (j : Int), bdI d j⟩ := ix_at (by unfold filL; rw [List.getElem?_map, List.getElem?_eq_getElem hpl, hj]; rfl)
   rw [s_120_l1, decide_eq_true (by omega), cond_true, gx, Option.bind_some, p_118lo hd hn hb hjm ht, Option.bind_some, p_118hi hd hn hb hjm ht, Option.bind_some, decide_eq_false (by omega), cond_false, wr_of (by omega)]
   exact_mod_cast ih (p + 1) k _ hr2 (by omega) (by omega) (by omega)
 obtain ⟨n', hn'⟩ : ∃ n', n = n' + 1 := ⟨n - 1, by omega⟩
 have him : i0 ∈ idx d := by rw [hi0]; exact List.mem_cons_self
 have g0 : ix (filL d) 0 = some ⟨d, (i0 : Int), bdI d i0⟩ := ix_at (i := 0) (by unfold filL; rw [hi0]; rfl)
 have h0 : s_120_l1 n (filL d) b (t : Int) (n' + 1) 0 (Bounds.mk (Span.mk 0 0) (Span.mk 0 0)) = s_120_l1 n (filL d) b (t : Int) n' 1 (bOf d b t i0) := by
  rw [s_120_l1, decide_eq_true (by rw [hfl, hi0]; simp), cond_true, g0, Option.bind_some, p_118lo hd hn hb him ht, Option.bind_some, p_118hi hd hn hb him ht, Option.bind_some]
  rfl
 unfold s_120
 rw [show s_120_l1 n (filL d) b (t : Int) n 0 (Bounds.mk (Span.mk 0 0) (Span.mk 0 0)) = s_120_l1 n (filL d) b (t : Int) (n' + 1) 0 (Bounds.mk (Span.mk 0 0) (Span.mk 0 0)) by rw [hn'], h0]
 have h1 := rest r0 1 n' (bOf d b t i0) (by rw [hi0]; rfl) (by omega) (by rw [hi0]; simp) (by omega)
 rw [show ((1 : Nat) : Int) = 1 from rfl] at h1
 rw [h1]
 unfold bnds
 rw [hi0]
 simp only [List.headD_cons, List.foldl_cons, updB_self]
theorem p_94 (hd : d.ok) (hn : 100 ≤ n) {j : Nat} (hj : d.batches[j]? = some b) (hne : idx d ≠ []) (ht : t ≤ hrs d) : s_94 n d (j : Int) (t : Int) = some (bnds d b t) := by
 have hil := idx_len hd
 have hhr := hrs_le hd
 have hb := hd.bt b (List.mem_of_getElem? hj)
 obtain ⟨i0, r0, hi0⟩ : ∃ i r, idx d = i :: r := by
  cases h : idx d with
  | nil => exact absurd h hne
  | cons i r => exact ⟨i, r, rfl⟩
 have hfl : (intL (idx d)).length = (idx d).length := by simp [intL]
 have step : ∀ (p k : Nat) (x : Bounds) (i : Nat), (idx d)[p]? = some i → s_94_l1 n d (j : Int) (t : Int) (intL (idx d)) (k + 1) (p : Int) x = s_94_l1 n d (j : Int) (t : Int) (intL (idx d)) k ((p : Int) + 1) (updB (bif decide ((p : Int) = 0) then bOf d b t i else x) (bOf d b t i)) := by
  intro p k x i hi
  have hpl := (List.getElem?_eq_some_iff.1 hi).1
  have him : i ∈ idx d := List.mem_of_getElem? hi
  obtain ⟨m1, m2⟩ := idx_mem him
  have gx : ix (intL (idx d)) (p : Int) = some (i : Int) := ix_at (by unfold intL; rw [List.getElem?_map, hi]; rfl)
  have e1 : s_73 n (bdI d i) false = some (lstI (hrs d) (fun h => (bdAt d i h).low)) := p_73 hn (by omega) (bdAt d i) false
  have e2 : s_73 n (bdI d i) true = some (lstI (hrs d) (fun h => (bdAt d i h).high)) := p_73 hn (by omega) (bdAt d i) true
  rw [s_94_l1, decide_eq_true (by omega), cond_true, gx, Option.bind_some, q_90 hd hn m1, m2]
  simp only [Option.bind_some, cond_true, ix_at hj, e1, e2, p_140lo hd hn hb him ht, p_140hi hd hn hb him ht]
  unfold s_94_j4
  rw [wr_of (by omega)]
  cases decide ((p : Int) = 0) <;> rfl
 have rest : ∀ (r : List Nat) (p k : Nat) (x : Bounds), (idx d).drop p = r → 0 < p → p ≤ (idx d).length → (idx d).length < k + p → s_94_l1 n d (j : Int) (t : Int) (intL (idx d)) k (p : Int) x = some (r.foldl (fun s i => updB s (bOf d b t i)) x) := by
  intro r
  induction r with
  | nil =>
   intro p k x hr hp hp2 hk
   have hpl : (idx d).length ≤ p := List.drop_eq_nil_iff.1 hr
   obtain ⟨k, rfl⟩ : ∃ k', k = k' + 1 := ⟨k - 1, by omega⟩
   rw [s_94_l1, decide_eq_false (by omega), cond_false]
   rfl
  | cons q r ih =>
   intro p k x hr hp hp2 hk
   have hpl : p < (idx d).length := by
    rcases Nat.lt_or_ge p (idx d).length with h | h
    ·exact h
    ·rw [List.drop_eq_nil_of_le h] at hr; cases hr
   obtain ⟨k, rfl⟩ : ∃ k', k = k' + 1 := ⟨k - 1, by omega⟩
   rw [List.drop_eq_getElem_cons hpl] at hr
   obtain ⟨hq, hr2⟩ := List.cons.inj hr
   rw [step p k x q (by rw [List.getElem?_eq_getElem hpl, hq]), decide_eq_false (by omega), cond_false]
   exact_mod_cast ih (p + 1) k _ hr2 (by omega) (by omega) (by omega)
 obtain ⟨n', hn'⟩ : ∃ n', n = n' + 1 := ⟨n - 1, by omega⟩
 have h0 := step 0 n' (Bounds.mk (Span.mk 0 0) (Span.mk 0 0)) i0 (by rw [hi0]; rfl)
 rw [show decide (((0 : Nat) : Int) = 0) = true from rfl, cond_true, updB_self] at h0
 unfold s_94
 rw [p_80 hd hn, Option.bind_some]
 rw [show s_94_l1 n d (j : Int) (t : Int) (intL (idx d)) n 0 (Bounds.mk (Span.mk 0 0) (Span.mk 0 0)) = s_94_l1 n d (j : Int) (t : Int) (intL (idx d)) (n' + 1) ((0 : Nat) : Int) (Bounds.mk (Span.mk 0 0) (Span.mk 0 0)) by rw [hn']; rfl, h0]
 have h1 := rest r0 1 n' (bOf d b t i0) (by rw [hi0]; rfl) (by omega) (by rw [hi0]; simp) (by omega)
 rw [show (((0 : Nat) : Int) + 1) = ((1 : Nat) : Int) from rfl, h1]
 unfold bnds
 rw [hi0]
 simp only [List.headD_cons, List.foldl_cons, updB_self]
end
end Go.Proofs.YtohmhlkdgfcaeaaGreatDoor
namespace Go.Proofs.YtohmhlkdgfcaeaaGreatDoor
open Go Go.RowKit
section
variable {n : Nat} {d : Drum} {b : Batch}
theorem err_zero {fine : Bool} (he : err d fine = 0) : okD d = true ∧ fine = true ∧ idx d ≠ [] := by
 unfold err at he
 cases h : okD d <;> cases h2 : fine <;> rw [h, h2] at he <;> simp at he
 refine ⟨rfl, rfl, fun h3 => ?_⟩
 rw [h3] at he
 simp at he
end
end Go.Proofs.YtohmhlkdgfcaeaaGreatDoor
namespace Go.Proofs.YtohmhlkdgfcaeaaGreatDoor
open Go Go.RowKit
set_option maxRecDepth 4000
attribute [local irreducible] W Ops GS GSG
def s_19_j6 (n : Nat) (v0 : Drum) (v2 : Int) (v105 : ((List Bounds) × Int)) (v107 : Bool) : Option (Bool) := (s_27 n v0 v107).bind fun v115 => bif (!decide (v115 = 0)) then ( bif (decide (v105.2 = v115)) then ( bif (decide ((v105.1.length : Int) = 0)) then ( (s_24 n ).bind fun v116 => some (v116) ) else ( some (false) ) ) else ( some (false) ) ) else ( bif (decide (v105.2 = 0)) then (
 (s_77 n v0 v2).bind fun v117 => (s_76 n v105.1 v117).bind fun v118 => bif v118 then ( (s_24 n ).bind fun v119 => some (v119) ) else ( some (false) ) ) else ( some (false) ) )
def s_19_j4 (n : Nat) (v0 : Drum) (v2 : Int) (v105 : ((List Bounds) × Int)) (v107 : Bool) (v111 : Bool) : Option (Bool) := bif v111 then ( some (false) ) else ( s_19_j6 n v0 v2 v105 v107 )
def s_19_j5 (n : Nat) (v0 : Drum) (v2 : Int) (v105 : ((List Bounds) × Int)) (v107 : Bool) (v114 : Bool) : Option (Bool) := bif v114 then ( some (false) ) else ( s_19_j6 n v0 v2 v105 v107 )
def s_19_j3 (n : Nat) (v0 : Drum) (v1 : Truth) (v2 : Int) (v104 : ((List State) × Int)) (v105 : ((List Bounds) × Int)) (v107 : Bool) (v110 : Bool) : Option (Bool) := bif v110 then ( bif (!decide (v104.2 = 2)) then ( s_19_j4 n v0 v2 v105 v107 true ) else ( s_19_j4 n v0 v2 v105 v107 (!decide ((v104.1.length : Int) = 0)) ) ) else ( bif (!decide (v104.2 = 0)) then (
 s_19_j5 n v0 v2 v105 v107 true ) else ( (s_75 n v0 v1 v2).bind fun v112 => (s_74 n v104.1 v112).bind fun v113 => s_19_j5 n v0 v2 v105 v107 (!v113) ) )
def s_19_j2 (n : Nat) (v0 : Drum) (v1 : Truth) (v2 : Int) (v104 : ((List State) × Int)) (v105 : ((List Bounds) × Int)) (v107 : Bool) : Option (Bool) := bif (!v107) then ( s_19_j3 n v0 v1 v2 v104 v105 v107 true ) else ( (s_44 n v0 v1).bind fun v108 => bif (!v108) then ( s_19_j3 n v0 v1 v2 v104 v105 v107 true ) else ( (s_45 n v0 v1).bind fun v109 => s_19_j3 n v0 v1 v2 v104 v105 v107 (!v109) ) )
def s_19_j1 (n : Nat) (v0 : Drum) (v1 : Truth) (v2 : Int) (v102 : Bool) : Option (Bool) := bif v102 then ( (s_24 n ).bind fun v103 => some (v103) ) else ( (s_47 n v0 v1 v2).bind fun v104 => (s_48 n v0 v2).bind fun v105 => (s_39 n v0).bind fun v106 => bif v106 then ( bif (decide (0 ≤ v2)) then ( s_19_j2 n v0 v1 v2 v104 v105 (decide (v2 ≤ v0.hours)) ) else ( s_19_j2 n v0 v1 v2 v104 v105 false )
 ) else ( s_19_j2 n v0 v1 v2 v104 v105 false ) )
def s_19 (n : Nat) (v0 : Drum) (v1 : Truth) (v2 : Int) : Option (Bool) := (s_23 n v0).bind fun v101 => bif (!v101) then ( s_19_j1 n v0 v1 v2 true ) else ( s_19_j1 n v0 v1 v2 (decide (15 < (v1.strength.length : Int))) )
theorem c_19 (n : Nat) (v0 : Drum) (v1 : Truth) (v2 : Int) {r : (Bool)} (h : s_19 n v0 v1 v2 = some r) :
  Fun Tryz.prog 19 [.agg (cDrum v0), .agg (cTruth v1), .val (.int .i64 v2)] (.ret (.b r)) := by
 unfold s_19 at h
 refine enterW 108 Tryz.func19 q q q ?_
 intro w0 F0
 change W _ _ (Ev [(0, .pv (.agg (cDrum v0))), (1, .pv (.agg (cTruth v1))), (2, .pv (.i v2))]) _
 refine W.seq<|W.region<|ob (g_box q q q q q) q q<|ob (g_box q q q q q) q q<|va q q q q q<|on0<|Sq.n<|W.seq<|W.seqJ (σ := Bool) (fun s => (⟨[(2, .pv (.i v2)), (3, .box 3 0), (4, .box 4 0), (21, .pv (.b s))], [(3, 27, [.pv (.sl (List.map cAcid v0.acids)), .pv (.i v0.known), .pv (.i v0.hours), .pv (.sl (List.map eI v0.adds)), .pv (.sl (List.map cStrip v0.strips)), .pv (.sl (List.map cBatch v0.batches))]), (4, 54, [.pv (.i v1.acid), .pv (.sl (List.map eI v1.strength))])], []⟩ : Env)) (fun s => s_19_j1 n v0 v1 v2 s = some r) ?_ ?_
 ·refine W.region<|ov (g_loadA q q q q q ag_27 sz_27 q q) q ?_
  obtain ⟨v101, e101, h⟩ := bind_some h
  refine ov (g_call q q q ca_23 q (c_23 _ _ e101)) q<|ov (g_not q q q q) q<|vm q q q q q<|Ops.split 16 q (fun hb => ?_) (fun hb => ?_)
  ·have h := bif_t h hb
   refine o2 q q q q q q<|o2 q q q q q q<|o2 q q q q q q<|o2 q q q q q q<|vt q q q q q q<|on0<|Sq.n<|⟨true, h, has_mk ⟨q, q, q, q, trivial⟩ ⟨q, q, trivial⟩ trivial q⟩
  ·have h := bif_f h hb
   refine on q q q<|ov (g_fld q q q q fl_54_1) q<|on q q q<|ov (g_load1 q q q q q q ag_23) q<|on q q q<|ov (g_lenM (l := v1.strength) (enc := eI) q ul_23 q q q) q<|on q q q<|ov (g_gtr q q q q q) q<|vf q q q q q q<|on0<|Sq.n<|⟨(decide (15 < (v1.strength.length : Int))), h, has_mk ⟨q, q, q, q, trivial⟩ ⟨q, q, trivial⟩ trivial q⟩
 ·rintro v102 h
  change s_19_j1 n v0 v1 v2 v102 = some r at h
  unfold s_19_j1 at h
  change W _ _ (⟨[(2, .pv (.i v2)), (3, .box 3 0), (4, .box 4 0), (21, .pv (.b v102))], [(3, 27, [.pv (.sl (List.map cAcid v0.acids)), .pv (.i v0.known), .pv (.i v0.hours), .pv (.sl (List.map eI v0.adds)), .pv (.sl (List.map cStrip v0.strips)), .pv (.sl (List.map cBatch v0.batches))]), (4, 54, [.pv (.i v1.acid), .pv (.sl (List.map eI v1.strength))])], []⟩ : Env) _
  refine W.cond (b := v102) q (fun hc => ?_) (fun hc => ?_)
  ·have h := bif_t h hc
   refine W.seq<|W.region ?_
   obtain ⟨v103, e103, h⟩ := bind_some h
   refine ov (g_call q q q ca_24 q (c_24 _  e103)) q<|va q q q q q<|on0<|Sq.n<|W.ret<|Sq.r ?_
   obtain rfl := Option.some.inj h
   exact Fin.r q (.cons (.tmp _ _ q) .nil) q
  ·have h := bif_f h hc
   refine W.skip<|Sq.n<|W.seq<|W.region<|ov (g_loadA q q q q q ag_27 sz_27 q q) q<|ov (g_loadA q q q q q ag_54 sz_54 q q) q<|vm q q q q q ?_
   obtain ⟨v104, e104, h⟩ := bind_some h
   refine ov (g_call q q q ca_47 q (c_47 _ _ _ _ e104)) q<|vm q q q q q<|ov (g_extract q q q q q) q<|ov (g_extract q q q q q) q<|va q q q q q<|va q q q q q<|on0<|Sq.n<|W.seq<|W.region<|ov (g_loadA q q q q q ag_27 sz_27 q q) q<|vm q q q q q ?_
   obtain ⟨v105, e105, h⟩ := bind_some h
   refine ov (g_call q q q ca_48 q (c_48 _ _ _ e105)) q<|vm q q q q q<|ov (g_extract q q q q q) q<|ov (g_extract q q q q q) q<|va q q q q q<|va q q q q q<|on0<|Sq.n<|W.seqJ (σ := Bool) (fun s => (⟨[(2, .pv (.i v2)), (3, .box 3 0), (4, .box 4 0), (7, .pv (.sl (List.map cState v104.1))), (8, .pv (.i v104.2)), (9, .pv (.sl (List.map cBounds v105.1))), (10, .pv (.i v105.2)), (11, .pv (.b s))], [(3, 27, [.pv (.sl (List.map cAcid v0.acids)), .pv (.i v0.known), .pv (.i v0.hours), .pv (.sl (List.map eI v0.adds)), .pv (.sl (List.map cStrip v0.strips)), .pv (.sl (List.map cBatch v0.batches))]), (4, 54, [.pv (.i v1.acid), .pv (.sl (List.map eI v1.strength))])], []⟩ : Env)) (fun s => s_19_j2 n v0 v1 v2 v104 v105 s = some r) ?_ ?_
   ·refine W.region<|ov (g_loadA q q q q q ag_27 sz_27 q q) q ?_
    obtain ⟨v106, e106, h⟩ := bind_some h
    refine ov (g_call q q q ca_39 q (c_39 _ _ e106)) q<|vm q q q q q<|Ops.split 38 q (fun hb => ?_) (fun hb => ?_)
    ·have h := bif_t h hb
     refine on q q q<|vm q q q q q<|on q q q<|ov (g_geq q q q q q) q<|vt q q q q q q<|vm q q q q q<|Ops.split 42 q (fun hb => ?_) (fun hb => ?_)
     ·have h := bif_t h hb
      refine on q q q<|vm q q q q q<|on q q q<|ov (g_fld q q q q fl_27_2) q<|on q q q<|ov (g_load1 q q q q q q ag_3) q<|on q q q<|ov (g_leq q q q q q) q<|vt q q q q q q<|va q q q q q<|on0<|Sq.n<|⟨(decide (v2 ≤ v0.hours)), h, has_mk ⟨q, q, q, q, q, q, q, q, trivial⟩ ⟨q, q, trivial⟩ trivial q⟩
     ·have h := bif_f h hb
      refine o2 q q q q q q<|o2 q q q q q q<|o2 q q q q q q<|o2 q q q q q q<|vf q q q q q q<|va q q q q q<|on0<|Sq.n<|⟨false, h, has_mk ⟨q, q, q, q, q, q, q, q, trivial⟩ ⟨q, q, trivial⟩ trivial q⟩
    ·have h := bif_f h hb
     refine o2 q q q q q q<|o2 q q q q q q<|vf q q q q q q<|vm q q q q q<|o2 q q q q q q<|o2 q q q q q q<|o2 q q q q q q<|o2 q q q q q q<|vf q q q q q q<|va q q q q q<|on0<|Sq.n<|⟨false, h, has_mk ⟨q, q, q, q, q, q, q, q, trivial⟩ ⟨q, q, trivial⟩ trivial q⟩
   ·rintro v107 h
    change s_19_j2 n v0 v1 v2 v104 v105 v107 = some r at h
    unfold s_19_j2 at h
    change W _ _ (⟨[(2, .pv (.i v2)), (3, .box 3 0), (4, .box 4 0), (7, .pv (.sl (List.map cState v104.1))), (8, .pv (.i v104.2)), (9, .pv (.sl (List.map cBounds v105.1))), (10, .pv (.i v105.2)), (11, .pv (.b v107))], [(3, 27, [.pv (.sl (List.map cAcid v0.acids)), .pv (.i v0.known), .pv (.i v0.hours), .pv (.sl (List.map eI v0.adds)), .pv (.sl (List.map cStrip v0.strips)), .pv (.sl (List.map cBatch v0.batches))]), (4, 54, [.pv (.i v1.acid), .pv (.sl (List.map eI v1.strength))])], []⟩ : Env) _
    refine W.seqJ (σ := Unit) (fun s => (⟨[(2, .pv (.i v2)), (3, .box 3 0), (9, .pv (.sl (List.map cBounds v105.1))), (10, .pv (.i v105.2)), (11, .pv (.b v107))], [(3, 27, [.pv (.sl (List.map cAcid v0.acids)), .pv (.i v0.known), .pv (.i v0.hours), .pv (.sl (List.map eI v0.adds)), .pv (.sl (List.map cStrip v0.strips)), .pv (.sl (List.map cBatch v0.batches))])], []⟩ : Env)) (fun s => s_19_j6 n v0 v2 v105 v107  = some r) ?_ ?_
    ·refine W.seqJ (σ := Bool) (fun s => (⟨[(2, .pv (.i v2)), (3, .box 3 0), (4, .box 4 0), (7, .pv (.sl (List.map cState v104.1))), (8, .pv (.i v104.2)), (9, .pv (.sl (List.map cBounds v105.1))), (10, .pv (.i v105.2)), (11, .pv (.b v107)), (61, .pv (.b s))], [(3, 27, [.pv (.sl (List.map cAcid v0.acids)), .pv (.i v0.known), .pv (.i v0.hours), .pv (.sl (List.map eI v0.adds)), .pv (.sl (List.map cStrip v0.strips)), .pv (.sl (List.map cBatch v0.batches))]), (4, 54, [.pv (.i v1.acid), .pv (.sl (List.map eI v1.strength))])], []⟩ : Env)) (fun s => s_19_j3 n v0 v1 v2 v104 v105 v107 s = some r) ?_ ?_
     ·refine W.region<|vm q q q q q<|ov (g_not q q q q) q<|vm q q q q q<|Ops.split 50 q (fun hb => ?_) (fun hb => ?_)
      ·have h := bif_t h hb
       refine o2 q q q q q q<|o2 q q q q q q<|o2 q q q q q q<|o2 q q q q q q<|vt q q q q q q<|vm q q q q q<|o2 q q q q q q<|o2 q q q q q q<|o2 q q q q q q<|o2 q q q q q q<|vt q q q q q q<|on0<|Sq.n<|⟨true, h, has_mk ⟨q, q, q, q, q, q, q, q, q, trivial⟩ ⟨q, q, trivial⟩ trivial q⟩
      ·have h := bif_f h hb
       refine on q q q<|ov (g_loadA q q q q q ag_27 sz_27 q q) q<|on q q q<|ov (g_loadA q q q q q ag_54 sz_54 q q) q<|on q q q ?_
       obtain ⟨v108, e108, h⟩ := bind_some h
       refine ov (g_call q q q ca_44 q (c_44 _ _ _ e108)) q<|on q q q<|ov (g_not q q q q) q<|vf q q q q q q<|vm q q q q q<|Ops.split 56 q (fun hb => ?_) (fun hb => ?_)
       ·have h := bif_t h hb
        refine o2 q q q q q q<|o2 q q q q q q<|o2 q q q q q q<|o2 q q q q q q<|vt q q q q q q<|on0<|Sq.n<|⟨true, h, has_mk ⟨q, q, q, q, q, q, q, q, q, trivial⟩ ⟨q, q, trivial⟩ trivial q⟩
       ·have h := bif_f h hb
        refine on q q q<|ov (g_loadA q q q q q ag_27 sz_27 q q) q<|on q q q<|ov (g_loadA q q q q q ag_54 sz_54 q q) q<|on q q q ?_
        obtain ⟨v109, e109, h⟩ := bind_some h
        refine ov (g_call q q q ca_45 q (c_45 _ _ _ e109)) q<|on q q q<|ov (g_not q q q q) q<|vf q q q q q q<|on0<|Sq.n<|⟨(!v109), h, has_mk ⟨q, q, q, q, q, q, q, q, q, trivial⟩ ⟨q, q, trivial⟩ trivial q⟩
     ·rintro v110 h
      change s_19_j3 n v0 v1 v2 v104 v105 v107 v110 = some r at h
      unfold s_19_j3 at h
      change W _ _ (⟨[(2, .pv (.i v2)), (3, .box 3 0), (4, .box 4 0), (7, .pv (.sl (List.map cState v104.1))), (8, .pv (.i v104.2)), (9, .pv (.sl (List.map cBounds v105.1))), (10, .pv (.i v105.2)), (11, .pv (.b v107)), (61, .pv (.b v110))], [(3, 27, [.pv (.sl (List.map cAcid v0.acids)), .pv (.i v0.known), .pv (.i v0.hours), .pv (.sl (List.map eI v0.adds)), .pv (.sl (List.map cStrip v0.strips)), .pv (.sl (List.map cBatch v0.batches))]), (4, 54, [.pv (.i v1.acid), .pv (.sl (List.map eI v1.strength))])], []⟩ : Env) _
      refine W.cond (b := v110) q (fun hc => ?_) (fun hc => ?_)
      ·have h := bif_t h hc
       refine W.seqJ (σ := Bool) (fun s => (⟨[(2, .pv (.i v2)), (3, .box 3 0), (9, .pv (.sl (List.map cBounds v105.1))), (10, .pv (.i v105.2)), (11, .pv (.b v107)), (68, .pv (.b s))], [(3, 27, [.pv (.sl (List.map cAcid v0.acids)), .pv (.i v0.known), .pv (.i v0.hours), .pv (.sl (List.map eI v0.adds)), .pv (.sl (List.map cStrip v0.strips)), .pv (.sl (List.map cBatch v0.batches))])], []⟩ : Env)) (fun s => s_19_j4 n v0 v2 v105 v107 s = some r) ?_ ?_
       ·refine W.region<|vm q q q q q<|ov (g_neq q q q q q) q<|vm q q q q q<|Ops.split 64 q (fun hb => ?_) (fun hb => ?_)
        ·have h := bif_t h hb
         refine o2 q q q q q q<|o2 q q q q q q<|o2 q q q q q q<|vt q q q q q q<|on0<|Sq.n<|⟨true, h, has_mk ⟨q, q, q, q, q, q, trivial⟩ ⟨q, trivial⟩ trivial q⟩
        ·have h := bif_f h hb
         refine on q q q<|vm q q q q q<|on q q q<|ov (g_lenM (l := v104.1) (enc := cState) q ul_60 q q q) q<|on q q q<|ov (g_neq q q q q q) q<|vf q q q q q q<|on0<|Sq.n<|⟨(!decide ((v104.1.length : Int) = 0)), h, has_mk ⟨q, q, q, q, q, q, trivial⟩ ⟨q, trivial⟩ trivial q⟩
       ·rintro v111 h
        change s_19_j4 n v0 v2 v105 v107 v111 = some r at h
        unfold s_19_j4 at h
        change W _ _ (⟨[(2, .pv (.i v2)), (3, .box 3 0), (9, .pv (.sl (List.map cBounds v105.1))), (10, .pv (.i v105.2)), (11, .pv (.b v107)), (68, .pv (.b v111))], [(3, 27, [.pv (.sl (List.map cAcid v0.acids)), .pv (.i v0.known), .pv (.i v0.hours), .pv (.sl (List.map eI v0.adds)), .pv (.sl (List.map cStrip v0.strips)), .pv (.sl (List.map cBatch v0.batches))])], []⟩ : Env) _
        refine W.cond (b := v111) q (fun hc => ?_) (fun hc => ?_)
        ·have h := bif_t h hc
         refine W.seq<|W.region<|va q q q q q<|on0<|Sq.n<|W.ret<|Sq.r ?_
         obtain rfl := Option.some.inj h
         exact Fin.r q (.cons (.tmp _ _ q) .nil) q
        ·have h := bif_f h hc
         refine W.skip<|Sq.n<|⟨(), h, has_mk ⟨q, q, q, q, q, trivial⟩ ⟨q, trivial⟩ trivial q⟩
      ·have h := bif_f h hc
       refine W.seqJ (σ := Bool) (fun s => (⟨[(2, .pv (.i v2)), (3, .box 3 0), (9, .pv (.sl (List.map cBounds v105.1))), (10, .pv (.i v105.2)), (11, .pv (.b v107)), (79, .pv (.b s))], [(3, 27, [.pv (.sl (List.map cAcid v0.acids)), .pv (.i v0.known), .pv (.i v0.hours), .pv (.sl (List.map eI v0.adds)), .pv (.sl (List.map cStrip v0.strips)), .pv (.sl (List.map cBatch v0.batches))])], []⟩ : Env)) (fun s => s_19_j5 n v0 v2 v105 v107 s = some r) ?_ ?_
       ·refine W.region<|vm q q q q q<|ov (g_neq q q q q q) q<|vm q q q q q<|Ops.split 71 q (fun hb => ?_) (fun hb => ?_)
        ·have h := bif_t h hb
         refine o2 q q q q q q<|o2 q q q q q q<|o2 q q q q q q<|o2 q q q q q q<|o2 q q q q q q<|o2 q q q q q q<|o2 q q q q q q<|vt q q q q q q<|on0<|Sq.n<|⟨true, h, has_mk ⟨q, q, q, q, q, q, trivial⟩ ⟨q, trivial⟩ trivial q⟩
        ·have h := bif_f h hb
         refine on q q q<|vm q q q q q<|on q q q<|ov (g_loadA q q q q q ag_27 sz_27 q q) q<|on q q q<|ov (g_loadA q q q q q ag_54 sz_54 q q) q<|on q q q<|vm q q q q q<|on q q q ?_
         obtain ⟨v112, e112, h⟩ := bind_some h
         refine ov (g_call q q q ca_75 q (c_75 _ _ _ _ e112)) q<|on q q q ?_
         obtain ⟨v113, e113, h⟩ := bind_some h
         refine ov (g_call q q q ca_74 q (c_74 _ _ _ e113)) q<|on q q q<|ov (g_not q q q q) q<|vf q q q q q q<|on0<|Sq.n<|⟨(!v113), h, has_mk ⟨q, q, q, q, q, q, trivial⟩ ⟨q, trivial⟩ trivial q⟩
       ·rintro v114 h
        change s_19_j5 n v0 v2 v105 v107 v114 = some r at h
        unfold s_19_j5 at h
        change W _ _ (⟨[(2, .pv (.i v2)), (3, .box 3 0), (9, .pv (.sl (List.map cBounds v105.1))), (10, .pv (.i v105.2)), (11, .pv (.b v107)), (79, .pv (.b v114))], [(3, 27, [.pv (.sl (List.map cAcid v0.acids)), .pv (.i v0.known), .pv (.i v0.hours), .pv (.sl (List.map eI v0.adds)), .pv (.sl (List.map cStrip v0.strips)), .pv (.sl (List.map cBatch v0.batches))])], []⟩ : Env) _
        refine W.cond (b := v114) q (fun hc => ?_) (fun hc => ?_)
        ·have h := bif_t h hc
         refine W.seq<|W.region<|va q q q q q<|on0<|Sq.n<|W.ret<|Sq.r ?_
         obtain rfl := Option.some.inj h
         exact Fin.r q (.cons (.tmp _ _ q) .nil) q
        ·have h := bif_f h hc
         refine W.skip<|Sq.n<|⟨(), h, has_mk ⟨q, q, q, q, q, trivial⟩ ⟨q, trivial⟩ trivial q⟩
    ·rintro ⟨⟩ h
     change s_19_j6 n v0 v2 v105 v107  = some r at h
     unfold s_19_j6 at h
     change W _ _ (⟨[(2, .pv (.i v2)), (3, .box 3 0), (9, .pv (.sl (List.map cBounds v105.1))), (10, .pv (.i v105.2)), (11, .pv (.b v107))], [(3, 27, [.pv (.sl (List.map cAcid v0.acids)), .pv (.i v0.known), .pv (.i v0.hours), .pv (.sl (List.map eI v0.adds)), .pv (.sl (List.map cStrip v0.strips)), .pv (.sl (List.map cBatch v0.batches))])], []⟩ : Env) _
     refine W.seq<|W.seq<|W.region<|ov (g_loadA q q q q q ag_27 sz_27 q q) q<|vm q q q q q ?_
     obtain ⟨v115, e115, h⟩ := bind_some h
     refine ov (g_call q q q ca_27 q (c_27 _ _ _ e115)) q<|va q q q q q<|on0<|Sq.n<|W.seq<|W.region<|vm q q q q q<|ov (g_neq q q q q q) q<|on0<|Sq.n<|W.cond (b := (!decide (v115 = 0))) q (fun hc => ?_) (fun hc => ?_)
     ·have h := bif_t h hc
      refine W.seq<|W.region<|vm q q q q q<|vm q q q q q<|ov (g_eql q q q q q) q<|vm q q q q q<|Ops.split 88 q (fun hb => ?_) (fun hb => ?_)
      ·have h := bif_t h hb
       refine on q q q<|vm q q q q q<|on q q q<|ov (g_lenM (l := v105.1) (enc := cBounds) q ul_63 q q q) q<|on q q q<|ov (g_eql q q q q q) q<|vt q q q q q q<|vm q q q q q<|Ops.split 93 q (fun hb => ?_) (fun hb => ?_)
       ·have h := bif_t h hb
        refine on q q q ?_
        obtain ⟨v116, e116, h⟩ := bind_some h
        refine ov (g_call q q q ca_24 q (c_24 _  e116)) q<|vt q q q q q q<|va q q q q q<|on0<|Sq.n<|W.ret<|Sq.r ?_
        obtain rfl := Option.some.inj h
        exact Fin.r q (.cons (.tmp _ _ q) .nil) q
       ·have h := bif_f h hb
        refine o2 q q q q q q<|vf q q q q q q<|va q q q q q<|on0<|Sq.n<|W.ret<|Sq.r ?_
        obtain rfl := Option.some.inj h
        exact Fin.r q (.cons (.tmp _ _ q) .nil) q
      ·have h := bif_f h hb
       refine o2 q q q q q q<|o2 q q q q q q<|o2 q q q q q q<|vf q q q q q q<|vm q q q q q<|o2 q q q q q q<|vf q q q q q q<|va q q q q q<|on0<|Sq.n<|W.ret<|Sq.r ?_
       obtain rfl := Option.some.inj h
       exact Fin.r q (.cons (.tmp _ _ q) .nil) q
     ·have h := bif_f h hc
      refine W.skip<|Sq.n<|W.seq<|W.region<|vm q q q q q<|ov (g_eql q q q q q) q<|vm q q q q q<|Ops.split 98 q (fun hb => ?_) (fun hb => ?_)
      ·have h := bif_t h hb
       refine on q q q<|vm q q q q q<|on q q q<|ov (g_loadA q q q q q ag_27 sz_27 q q) q<|on q q q<|vm q q q q q<|on q q q ?_
       obtain ⟨v117, e117, h⟩ := bind_some h
       refine ov (g_call q q q ca_77 q (c_77 _ _ _ e117)) q<|on q q q ?_
       obtain ⟨v118, e118, h⟩ := bind_some h
       refine ov (g_call q q q ca_76 q (c_76 _ _ _ e118)) q<|vt q q q q q q<|vm q q q q q<|Ops.split 105 q (fun hb => ?_) (fun hb => ?_)
       ·have h := bif_t h hb
        refine on q q q ?_
        obtain ⟨v119, e119, h⟩ := bind_some h
        refine ov (g_call q q q ca_24 q (c_24 _  e119)) q<|vt q q q q q q<|va q q q q q<|on0<|Sq.n<|W.ret ?_
        obtain rfl := Option.some.inj h
        exact Fin.r q (.cons (.tmp _ _ q) .nil) q
       ·have h := bif_f h hb
        refine o2 q q q q q q<|vf q q q q q q<|va q q q q q<|on0<|Sq.n<|W.ret ?_
        obtain rfl := Option.some.inj h
        exact Fin.r q (.cons (.tmp _ _ q) .nil) q
      ·have h := bif_f h hb
       refine o2 q q q q q q<|o2 q q q q q q<|o2 q q q q q q<|o2 q q q q q q<|o2 q q q q q q<|vf q q q q q q<|vm q q q q q<|o2 q q q q q q<|vf q q q q q q<|va q q q q q<|on0<|Sq.n<|W.ret ?_
       obtain rfl := Option.some.inj h
       exact Fin.r q (.cons (.tmp _ _ q) .nil) q
end Go.Proofs.YtohmhlkdgfcaeaaGreatDoor
namespace Go.Proofs.YtohmhlkdgfcaeaaGreatDoor
open Go Go.RowKit
theorem loop_same {α : Type} [DecidableEq α] (l m : List α) (L : Nat → Int → Option Bool) (h : ∀ (k i : Nat), L (k + 1) (i : Int) = bif decide ((i : Int) < ((l.length : Nat) : Int)) then (ix l (i : Int)).bind (fun x => (ix m (i : Int)).bind fun y => bif !decide (x = y) then some false else L k (wr ((i : Int) + 1))) else some true)
  (hlen : l.length = m.length) (hl : l.length ≤ 1000) {n : Nat} (hn : l.length < n) : L n 0 = some (decide (l = m)) := by
 have h1 := loop_list l (fun k i (_ : Unit) => L k i) (fun i x s K => (ix m (i : Int)).bind fun y => bif !decide (x = y) then some false else K s) (fun _ => some true) (fun k i s => h k i) (by omega) n 0 () (by omega) (by omega)
 rw [show ((0 : Nat) : Int) = 0 from rfl] at h1
 rw [h1]
 have key : ∀ (r : List α) (i : Nat), l.drop i = r → fc (σ := Unit) (fun i x s K => (ix m (i : Int)).bind fun y => bif !decide (x = y) then some false else K s) (fun _ => some true) i r () = some (decide (r = m.drop i)) := by
  intro r
  induction r with
  | nil =>
   intro i hi
   have : l.length ≤ i := List.drop_eq_nil_iff.1 hi
   rw [List.drop_eq_nil_of_le (by omega)]
   simp [fc]
  | cons x r ih =>
   intro i hi
   have hil : i < l.length := by
    rcases Nat.lt_or_ge i l.length with h | h
    ·exact h
    ·rw [List.drop_eq_nil_of_le h] at hi; cases hi
   have hr : l.drop (i + 1) = r := by
    rw [List.drop_eq_getElem_cons hil] at hi
    cases hi; rfl
   rw [fc, ix_at (List.getElem?_eq_getElem (show i < m.length by omega)), Option.bind_some, List.drop_eq_getElem_cons (show i < m.length by omega), ih (i + 1) hr]
   generalize List.drop (i + 1) m = q
   generalize m[i] = y
   by_cases hx : x = y
   ·rw [decide_eq_true hx, Bool.not_true, cond_false]
    subst hx
    simp
   ·rw [decide_eq_false hx, Bool.not_false, cond_true]
    simp [hx]
 rw [List.drop_zero]
 simpa using key l 0 rfl
theorem loop_app {α β γ : Type} (l : List α) (f : Nat → α → Option β) (g : α → β) (hf : ∀ i x, l[i]? = some x → f i x = some (g x)) (L : Nat → Int → List β → Option γ) (fin : List β → Option γ)
  (h : ∀ (k i : Nat) (s : List β), L (k + 1) (i : Int) s = bif decide ((i : Int) < ((l.length : Nat) : Int)) then (ix l (i : Int)).bind (fun x => (f i x).bind fun y => (app s [y]).bind fun s' => L k (wr ((i : Int) + 1)) s') else fin s)
  (hl : l.length ≤ 1000) {n : Nat} (hn : l.length < n) : L n 0 [] = fin (l.map g) := by
 have h1 := loop_list l L (fun i x s K => (f i x).bind fun y => (app s [y]).bind fun s' => K s') fin h (by omega) n 0 [] (by omega) (by omega)
 rw [show ((0 : Nat) : Int) = 0 from rfl] at h1
 rw [h1]
 have key : ∀ (r : List α) (i : Nat) (s : List β), l.drop i = r → s.length ≤ i → fc (fun i x s K => (f i x).bind fun y => (app s [y]).bind fun s' => K s') fin i r s = fin (s ++ r.map g) := by
  intro r
  induction r with
  | nil => intro i s _ _; simp [fc]
  | cons x r ih =>
   intro i s hi hs
   have hil : i < l.length := by
    rcases Nat.lt_or_ge i l.length with h | h
    ·exact h
    ·rw [List.drop_eq_nil_of_le h] at hi; cases hi
   rw [List.drop_eq_getElem_cons hil] at hi
   obtain ⟨hx, hr⟩ := List.cons.inj hi
   rw [fc, hf i x (by rw [List.getElem?_eq_getElem hil, hx]), Option.bind_some, app_of (by simp; omega), Option.bind_some, ih (i + 1) _ hr (by simp; omega)]
   simp
 rw [List.drop_zero]
 simpa using key l 0 [] (by simp) (by simp)
theorem p_74 (n : Nat) (hn : 100 ≤ n) (l m : List State) (hl : l.length ≤ 50) : s_74 n l m = some (decide (l = m)) := by
 unfold s_74
 by_cases hlen : l.length = m.length
 ·rw [show decide (((l.length : Nat) : Int) = ((m.length : Nat) : Int)) = true from decide_eq_true (by omega), Bool.not_true, cond_false]
  exact loop_same l m (s_74_l1 l m) (fun k i => by rw [s_74_l1]) hlen (by omega) (by omega)
 ·rw [show decide (((l.length : Nat) : Int) = ((m.length : Nat) : Int)) = false from decide_eq_false (by omega), Bool.not_false, cond_true, decide_eq_false (fun h => hlen (by rw [h]))]
theorem p_76 (n : Nat) (hn : 100 ≤ n) (l m : List Bounds) (hl : l.length ≤ 50) : s_76 n l m = some (decide (l = m)) := by
 unfold s_76
 by_cases hlen : l.length = m.length
 ·rw [show decide (((l.length : Nat) : Int) = ((m.length : Nat) : Int)) = true from decide_eq_true (by omega), Bool.not_true, cond_false]
  exact loop_same l m (s_76_l1 l m) (fun k i => by rw [s_76_l1]) hlen (by omega) (by omega)
 ·rw [show decide (((l.length : Nat) : Int) = ((m.length : Nat) : Int)) = false from decide_eq_false (by omega), Bool.not_false, cond_true, decide_eq_false (fun h => hlen (by rw [h]))]
def sizedB (d : Drum) (tr : Truth) : Bool := inb tr.acid 0 (wr (((d.acids.length : Nat) : Int) - 1)) && decide (((tr.strength.length : Nat) : Int) = d.hours)
def stren (tr : Truth) (h : Nat) : Int := tr.strength.getD h 0
def chS (d : Drum) (a : Acid) (tr : Truth) : Nat → Span
 | 0 => start a (addAt d.adds 0)
 | h + 1 => aft a (addAt d.adds (h + 1)) ⟨stren tr h, stren tr h⟩
def chB (d : Drum) (a : Acid) (tr : Truth) (h : Nat) : Bool := inb (stren tr h) (chS d a tr h).low (chS d a tr h).high
def stB (tr : Truth) (s : Strip) : Bool := inb (stren tr s.hour.toNat) (s.seen - s.off) (s.seen + s.off)
def trAcid (d : Drum) (tr : Truth) : Acid := acidAt d tr.acid.toNat
def fitB (d : Drum) (tr : Truth) : Bool := hasB d.known tr.acid.toNat && ((List.range (hrs d)).all (chB d (trAcid d tr) tr) && d.strips.all (stB tr))
section
variable {n : Nat} {d : Drum} {tr : Truth}
theorem p_44 : s_44 n d tr = some (sizedB d tr) := by
 unfold s_44 sizedB
 rw [p_103, Option.bind_some]
 cases inb tr.acid 0 (wr (((d.acids.length : Nat) : Int) - 1)) <;> rfl
theorem p_116 : s_116 n d tr = some (sizedB d tr) := by
 unfold s_116 sizedB
 rw [p_87, Option.bind_some]
 cases inb tr.acid 0 (wr (((d.acids.length : Nat) : Int) - 1)) <;> rfl
theorem stren_at {h : Nat} (hh : h < tr.strength.length) : ix tr.strength (h : Int) = some (stren tr h) := by
 rw [ix_at (List.getElem?_eq_getElem hh), stren, List.getD_eq_getElem?_getD, List.getElem?_eq_getElem hh]; rfl
theorem sized_iff (hd : d.ok) : sizedB d tr = true ↔ (0 ≤ tr.acid ∧ tr.acid.toNat < d.acids.length) ∧ tr.strength.length = hrs d := by
 have hacl := hd.acl
 have hH := hrs_eq hd
 unfold sizedB
 rw [wr_of (by omega)]
 simp only [Bool.and_eq_true, inb_iff, decide_eq_true_eq]
 omega
theorem chS_le (hd : d.ok) (ha : (trAcid d tr).ok) : ∀ (h : Nat), (∀ i, i < h → chB d (trAcid d tr) tr i = true) → 0 ≤ (chS d (trAcid d tr) tr h).low ∧ (chS d (trAcid d tr) tr h).high ≤ 100 + 100 * (h + 1) := by
 intro h
 obtain ⟨h1, h2⟩ := ha
 simp only [Span.ok] at h1 h2
 induction h with
 | zero =>
  intro _
  have := addAt_le hd.ad 0
  simp only [chS, start]
  omega
 | succ h ih =>
  intro hc
  have h3 := ih (fun i hi => hc i (by omega))
  have h4 := inb_iff.1 (hc h (by omega))
  have := addAt_le hd.ad (h + 1)
  simp only [chS, aft]
  push_cast
  omega
theorem stren_le (hd : d.ok) (ha : (trAcid d tr).ok) (h : Nat) (hc : ∀ i, i < h + 1 → chB d (trAcid d tr) tr i = true) : 0 ≤ stren tr h ∧ stren tr h ≤ 100 + 100 * (h + 1) := by
 have h3 := chS_le hd ha h (fun i hi => hc i (by omega))
 have h4 := inb_iff.1 (hc h (by omega))
 omega
theorem p_45_l5 (hd : d.ok) (hn : 100 ≤ n) (hs : tr.strength.length = hrs d) : s_45_l5 n d tr n 0 = some (d.strips.all (stB tr)) := by
 have hst := hd.stl
 have hH := hrs_eq hd
 rw [loop_all d.strips (s_45_l5 n d tr) (stB tr) (some true) (fun k i => ?_) (by omega) (by omega)]
 ·cases d.strips.all (stB tr) <;> rfl
 ·rw [s_45_l5]
  by_cases hi : i < d.strips.length
  ·obtain ⟨q1, q2, q3⟩ := hd.st _ (List.getElem_mem hi)
   have e : ix tr.strength d.strips[i].hour = some (stren tr d.strips[i].hour.toNat) := by
    have := stren_at (tr := tr) (h := d.strips[i].hour.toNat) (by omega)
    rwa [show ((d.strips[i].hour.toNat : Nat) : Int) = d.strips[i].hour by omega] at this
   simp only [ix_at (List.getElem?_eq_getElem hi), Option.bind_some, e, p_103]
   rw [wr_of (x := d.strips[i].seen - d.strips[i].off) (by omega), wr_of (x := d.strips[i].seen + d.strips[i].off) (by omega)]
   unfold stB
   cases inb (stren tr d.strips[i].hour.toNat) (d.strips[i].seen - d.strips[i].off) (d.strips[i].seen + d.strips[i].off) <;> rfl
  ·have e1 : decide ((i : Int) < ((d.strips.length : Nat) : Int)) = false := decide_eq_false (by omega)
   rw [e1, cond_false, cond_false]
theorem p_95st (hd : d.ok) (hn : 100 ≤ n) (hs : tr.strength.length = hrs d) : s_95 n d.strips (fun z0 => s_165 n z0 tr) = some (!d.strips.all (stB tr)) := by
 have hst := hd.stl
 have hH := hrs_eq hd
 rw [p_95 hn d.strips (by omega) _ (fun s => !stB tr s) (fun s hs' => ?_), any_not]
 obtain ⟨q1, q2, q3⟩ := hd.st s hs'
 have e : ix tr.strength s.hour = some (stren tr s.hour.toNat) := by
  have := stren_at (tr := tr) (h := s.hour.toNat) (by omega)
  rwa [show ((s.hour.toNat : Nat) : Int) = s.hour by omega] at this
 unfold s_165
 rw [e, Option.bind_some, p_87, Option.bind_some, wr_of (x := s.seen - s.off) (by omega), wr_of (x := s.seen + s.off) (by omega)]
 rfl
theorem p_45 (hd : d.ok) (hn : 100 ≤ n) (hsz : sizedB d tr = true) : s_45 n d tr = some (fitB d tr) := by
 obtain ⟨⟨h1, h2⟩, h3⟩ := (sized_iff hd).1 hsz
 have hkn := hd.kn
 have hacl := hd.acl
 have hhr := hrs_le hd
 have hH := hrs_eq hd
 have hpw := (pow_bound (i := d.acids.length) (by omega)).2
 have hac : tr.acid = ((tr.acid.toNat : Nat) : Int) := by omega
 have ha : (trAcid d tr).ok := acidAt_ok hd h2
 have key : ∀ (r m k : Nat), m + r = hrs d → r < k → (∀ i, i < m → chB d (trAcid d tr) tr i = true) → s_45_l1 n d tr (trAcid d tr) k (m : Int) = some ((List.range' m r).all (chB d (trAcid d tr) tr) && d.strips.all (stB tr)) := by
  intro r
  induction r with
  | zero =>
   intro m k hm hk hc
   obtain ⟨k, rfl⟩ : ∃ k', k = k' + 1 := ⟨k - 1, by omega⟩
   rw [s_45_l1, decide_eq_false (by omega), cond_false, p_45_l5 hd hn h3]
   rfl
  | succ r ih =>
   intro m k hm hk hc
   obtain ⟨k, rfl⟩ : ∃ k', k = k' + 1 := ⟨k - 1, by omega⟩
   have hj : ∀ s, s = chS d (trAcid d tr) tr m → s_45_j4 n (s_45_l1 n d tr (trAcid d tr) k) tr (m : Int) s = some ((List.range' m (r + 1)).all (chB d (trAcid d tr) tr) && d.strips.all (stB tr)) := by
    intro s hs
    unfold s_45_j4
    rw [stren_at (by omega), Option.bind_some, p_103, Option.bind_some, hs, List.range'_succ, List.all_cons]
    have hcb : inb (stren tr m) (chS d (trAcid d tr) tr m).low (chS d (trAcid d tr) tr m).high = chB d (trAcid d tr) tr m := rfl
    rw [hcb]
    rcases Bool.eq_false_or_eq_true (chB d (trAcid d tr) tr m) with hb | hb
    ·rw [hb, wr_of (by omega)]
     have := ih (m + 1) k (by omega) (by omega) (fun i hi => by
      by_cases e : i = m
      ·subst e; exact hb
      ·exact hc i (by omega))
     push_cast at this
     simp only [Bool.not_true, cond_false, Bool.true_and]
     exact this
    ·rw [hb]; rfl
   rw [s_45_l1, decide_eq_true (by omega), cond_true, show ix d.adds 0 = some (addAt d.adds 0) from add_at hd (h := 0) (by omega)]
   simp only [Option.bind_some]
   cases m with
   | zero =>
    rw [decide_eq_false (by omega), cond_false]
    refine hj _ ?_
    have := addAt_le hd.ad 0
    obtain ⟨q1, q2⟩ := ha
    simp only [Span.ok] at q1 q2
    rw [wr_of (by omega), wr_of (by omega)]
    rfl
   | succ m =>
    have e1 : wr (((m + 1 : Nat) : Int) - 1) = (m : Int) := by rw [wr_of (by omega)]; omega
    have hsm := stren_le hd ha m hc
    rw [decide_eq_true (by omega), cond_true, add_at hd (h := m + 1) (by omega), e1, stren_at (by omega)]
    simp only [Option.bind_some]
    rw [p_115 ha (addAt_le hd.ad (m + 1)) (by simp only [Span.small]; omega), Option.bind_some]
    exact hj _ rfl
 have hx : ix d.acids tr.acid = some (trAcid d tr) := by
  have := ix_at (acidAt_get h2)
  rw [← hac] at this
  exact this
 have hk := key (hrs d) 0 n (by omega) (by omega) (fun i hi => by omega)
 rw [← List.range_eq_range'] at hk
 unfold s_45 fitB
 have h72 := p_72 (n := n) hn (set := d.known) (i := tr.acid.toNat) (by omega) (by omega) (by omega)
 rw [← hac] at h72
 rw [h72, Option.bind_some, hx, Option.bind_some]
 cases hasB d.known tr.acid.toNat
 ·rfl
 ·exact hk
theorem p_117 (hd : d.ok) (hn : 100 ≤ n) (hsz : sizedB d tr = true) : s_117 n d tr = some (fitB d tr) := by
 obtain ⟨⟨h1, h2⟩, h3⟩ := (sized_iff hd).1 hsz
 have hkn := hd.kn
 have hacl := hd.acl
 have hhr := hrs_le hd
 have hH := hrs_eq hd
 have hpw4 : (2 : Int) ^ d.acids.length ≤ 16 := by
  have : (2 : Nat) ^ d.acids.length ≤ 2 ^ 4 := Nat.pow_le_pow_right (by omega) hacl.2
  exact_mod_cast this
 have hac : tr.acid = ((tr.acid.toNat : Nat) : Int) := by omega
 have ha : (trAcid d tr).ok := acidAt_ok hd h2
 have key : ∀ (r m k : Nat), m + r = hrs d → r < k → (∀ i, i < m → chB d (trAcid d tr) tr i = true) → s_117_l1 n d tr (trAcid d tr) k (m : Int) = some ((List.range' m r).all (chB d (trAcid d tr) tr) && d.strips.all (stB tr)) := by
  intro r
  induction r with
  | zero =>
   intro m k hm hk hc
   obtain ⟨k, rfl⟩ : ∃ k', k = k' + 1 := ⟨k - 1, by omega⟩
   rw [s_117_l1, decide_eq_false (by omega), cond_false, p_95st hd hn h3, Option.bind_some, Bool.not_not]
   rfl
  | succ r ih =>
   intro m k hm hk hc
   obtain ⟨k, rfl⟩ : ∃ k', k = k' + 1 := ⟨k - 1, by omega⟩
   have hj : ∀ lo hi, wr (lo + addAt d.adds m) = (chS d (trAcid d tr) tr m).low → wr (hi + addAt d.adds m) = (chS d (trAcid d tr) tr m).high → s_117_j4 n (s_117_l1 n d tr (trAcid d tr) k) d (m : Int) (stren tr m) lo hi = some ((List.range' m (r + 1)).all (chB d (trAcid d tr) tr) && d.strips.all (stB tr)) := by
    intro lo hi e1 e2
    unfold s_117_j4
    rw [add_at hd (h := m) (by omega)]
    simp only [Option.bind_some]
    rw [p_87, Option.bind_some, e1, e2, List.range'_succ, List.all_cons]
    have hcb : inb (stren tr m) (chS d (trAcid d tr) tr m).low (chS d (trAcid d tr) tr m).high = chB d (trAcid d tr) tr m := rfl
    rw [hcb]
    rcases Bool.eq_false_or_eq_true (chB d (trAcid d tr) tr m) with hb | hb
    ·rw [hb, wr_of (by omega)]
     have := ih (m + 1) k (by omega) (by omega) (fun i hi => by
      by_cases e : i = m
      ·subst e; exact hb
      ·exact hc i (by omega))
     push_cast at this
     simp only [Bool.not_true, cond_false, Bool.true_and]
     exact this
    ·rw [hb]; rfl
   rw [s_117_l1, decide_eq_true (by omega), cond_true, stren_at (by omega), Option.bind_some]
   cases m with
   | zero =>
    rw [decide_eq_false (by omega), cond_false]
    have := addAt_le hd.ad 0
    obtain ⟨q1, q2⟩ := ha
    simp only [Span.ok] at q1 q2
    exact hj _ _ (wr_of (by omega)) (wr_of (by omega))
   | succ m =>
    have e1 : wr (((m + 1 : Nat) : Int) - 1) = (m : Int) := by rw [wr_of (by omega)]; omega
    have hsm := stren_le hd ha m hc
    have h115 := p_115 (n := n) ha (addAt_le hd.ad (m + 1)) (s := ⟨stren tr m, stren tr m⟩) (by simp only [Span.small]; omega)
    have h116 := Option.some.inj h115
    rw [decide_eq_true (by omega), cond_true, e1, stren_at (by omega), Option.bind_some]
    exact hj _ _ (congrArg Span.low h116) (congrArg Span.high h116)
 have hx : ix d.acids tr.acid = some (trAcid d tr) := by
  have := ix_at (acidAt_get h2)
  rw [← hac] at this
  exact this
 have hk := key (hrs d) 0 n (by omega) (by omega) (fun i hi => by omega)
 rw [← List.range_eq_range'] at hk
 unfold s_117 fitB
 have h145 := p_145 (n := n) (set := d.known) (i := tr.acid.toNat) (by omega) (by omega) (by omega)
 rw [← hac] at h145
 rw [h145, Option.bind_some, hx, Option.bind_some]
 cases hasB d.known tr.acid.toNat
 ·rfl
 ·exact hk
end
end Go.Proofs.YtohmhlkdgfcaeaaGreatDoor
namespace Go.Proofs.YtohmhlkdgfcaeaaGreatDoor
open Go Go.RowKit
section
variable {n : Nat} {d : Drum} {tr : Truth}
theorem fit_stren (hd : d.ok) (hsz : sizedB d tr = true) (hf : fitB d tr = true) {h : Nat} (hh : h < hrs d) : 0 ≤ stren tr h ∧ stren tr h ≤ 1300 := by
 obtain ⟨⟨h1, h2⟩, h3⟩ := (sized_iff hd).1 hsz
 have hhr := hrs_le hd
 simp only [fitB, Bool.and_eq_true, List.all_eq_true, List.mem_range] at hf
 have := stren_le hd (acidAt_ok hd h2) (tr := tr) h (fun i hi => hf.2.1 i (by omega))
 omega
def runL (d : Drum) (tr : Truth) (t : Nat) : List State := d.batches.map fun b => stateAt b (stren tr) t
def bndL (d : Drum) (t : Nat) : List Bounds := d.batches.map fun b => bnds d b t
theorem p_75 (hd : d.ok) (hn : 100 ≤ n) (hsz : sizedB d tr = true) (hf : fitB d tr = true) {t : Nat} (ht : t ≤ hrs d) : s_75 n d tr (t : Int) = some (runL d tr t) := by
 have hbt := hd.btl
 have hhr := hrs_le hd
 obtain ⟨⟨h1, h2⟩, h3⟩ := (sized_iff hd).1 hsz
 unfold s_75
 exact loop_app d.batches (fun _ b => s_140 n b tr.strength (t : Int)) (fun b => stateAt b (stren tr) t) (fun i b hb => p_140 (hd.bt b (List.mem_of_getElem? hb)) hn (by omega) (fun h hh => by
  rw [stren, List.getD_eq_getElem?_getD, List.getElem?_eq_getElem (by omega)]; rfl) (fun h hh => by have := fit_stren hd hsz hf (show h < hrs d by omega); omega)) (s_75_l1 n d tr (t : Int)) (fun s => some s) (fun k i s => by rw [s_75_l1]) (by omega) (by omega)
theorem p_47l (hd : d.ok) (hn : 100 ≤ n) (hsz : sizedB d tr = true) (hf : fitB d tr = true) {t : Nat} (ht : t ≤ hrs d) : s_47_l3 n d tr (t : Int) n 0 [] = some (runL d tr t, 0) := by
 have hbt := hd.btl
 have hhr := hrs_le hd
 obtain ⟨⟨h1, h2⟩, h3⟩ := (sized_iff hd).1 hsz
 exact loop_app d.batches (fun _ b => s_118 n b (t : Int) (fun z0 => s_119 n z0 tr)) (fun b => stateAt b (stren tr) t) (fun i b hb => p_118 (hd.bt b (List.mem_of_getElem? hb)) hn (by omega) (fun h hh => by
  unfold s_119; rw [stren_at (by omega)]; rfl) (fun h hh => by have := fit_stren hd hsz hf (show h < hrs d by omega); omega)) (s_47_l3 n d tr (t : Int)) (fun s => some (s, 0)) (fun k i s => by rw [s_47_l3]) (by omega) (by omega)
theorem p_77 (hd : d.ok) (hn : 100 ≤ n) (hne : idx d ≠ []) {t : Nat} (ht : t ≤ hrs d) : s_77 n d (t : Int) = some (bndL d t) := by
 have hbt := hd.btl
 unfold s_77
 exact loop_app d.batches (fun i _ => s_94 n d (i : Int) (t : Int)) (fun b => bnds d b t) (fun i b hb => p_94 hd hn hb hne ht) (s_77_l1 n d (t : Int)) (fun s => some s) (fun k i s => by
  rw [s_77_l1]
  by_cases hi : i < d.batches.length
  ·rw [ix_at (List.getElem?_eq_getElem hi)]; rfl
  ·have e1 : decide ((i : Int) < ((d.batches.length : Nat) : Int)) = false := decide_eq_false (by omega)
   rw [e1, cond_false, cond_false]) (by omega) (by omega)
theorem p_48l (hd : d.ok) (hn : 100 ≤ n) (hne : idx d ≠ []) {t : Nat} (ht : t ≤ hrs d) (e : Int) : s_48_l1 n d (t : Int) (filL d, e) n 0 [] = some (bndL d t, 0) := by
 have hbt := hd.btl
 exact loop_app d.batches (fun _ b => s_120 n (filL d) b (t : Int)) (fun b => bnds d b t) (fun i b hb => p_120 hd hn (hd.bt b (List.mem_of_getElem? hb)) hne ht) (s_48_l1 n d (t : Int) (filL d, e)) (fun s => some (s, 0)) (fun k i s => by rw [s_48_l1]) (by omega) (by omega)
def fineT (d : Drum) (t : Int) : Bool := inb t 0 d.hours
theorem fineT_get (hd : d.ok) {t : Int} (h : fineT d t = true) : ∃ t' : Nat, t = (t' : Int) ∧ t' ≤ hrs d := by
 have hH := hrs_eq hd
 have := inb_iff.1 h
 exact ⟨t.toNat, by omega, by omega⟩
theorem p_48 (hn : 100 ≤ n) (hs : Short d) (t : Int) : s_48 n d t = some (bif decide (err d (fineT d t) = 0) then (bndL d t.toNat, 0) else ([], err d (fineT d t))) := by
 unfold s_48
 rw [p_87, Option.bind_some, p_84 hn hs, Option.bind_some]
 show (bif !decide (err d (fineT d t) = 0) then _ else _) = _
 by_cases he : err d (fineT d t) = 0
 ·obtain ⟨h1, h2, h3⟩ := err_zero he
  have hd := okD_iff.1 h1
  obtain ⟨t', ht, ht'⟩ := fineT_get hd h2
  rw [decide_eq_true he, Bool.not_true, cond_false, cond_true]
  have e1 : err d (inb t 0 d.hours) = 0 := he
  rw [e1]
  simp only [decide_true, cond_true]
  have e2 : t.toNat = t' := by omega
  rw [ht, p_48l hd hn h3 ht']
  rfl
 ·rw [decide_eq_false he, Bool.not_false, cond_true, cond_false]
  rfl
def runOk (d : Drum) (tr : Truth) (t : Int) : Bool := okD d && (sizedB d tr && (fitB d tr && fineT d t))
theorem p_47 (hn : 100 ≤ n) (hs : Short d) (t : Int) : s_47 n d tr t = some (bif runOk d tr t then (runL d tr t.toNat, 0) else ([], 2)) := by
 unfold s_47 runOk s_47_j1
 rw [p_104 hn hs, Option.bind_some]
 cases hok : okD d with
 | false => rfl
 | true =>
  have hd := okD_iff.1 hok
  rw [p_116, Option.bind_some]
  cases hsz : sizedB d tr with
  | false => rfl
  | true =>
   rw [p_117 hd hn hsz, Option.bind_some]
   cases hf : fitB d tr with
   | false => rfl
   | true =>
    rw [p_87, Option.bind_some]
    show (bif !true then _ else bif !true then _ else bif !true then _ else bif !fineT d t then _ else _) = _
    cases ht : fineT d t with
    | false => rfl
    | true =>
     obtain ⟨t', ht1, ht'⟩ := fineT_get hd ht
     simp only [Bool.not_true, cond_false, Bool.and_self, cond_true]
     rw [ht1, p_47l hd hn hsz hf ht']
     rfl
theorem law_19 (d : Drum) (tr : Truth) (t : Int) : s_19 1000 d tr t = some true := by
 unfold s_19
 rw [p_23, Option.bind_some]
 have out : s_19_j1 1000 d tr t true = some true := by unfold s_19_j1; rw [cond_true, p_24, Option.bind_some]
 cases hsh : shortB d with
 | false => simp only [Bool.not_false, cond_true]; exact out
 | true =>
  simp only [Bool.not_true, cond_false]
  cases decide (15 < ((List.length tr.strength : Nat) : Int)) with
  | true => exact out
  | false =>
   have hs := shortB_iff.1 hsh
   have hn : 100 ≤ 1000 := by omega
   have h8 := hs.e
   have last : ∀ (v : List Bounds × Int) (b : Bool), b = (okD d && fineT d t) → v = (bif decide (err d (fineT d t) = 0) then (bndL d t.toNat, 0) else ([], err d (fineT d t))) → s_19_j6 1000 d t v b = some true := by
    intro v b hb hv
    have he1 : err d b = err d (fineT d t) := by subst hb; unfold err; cases okD d <;> rfl
    unfold s_19_j6
    rw [p_27 hn hs, Option.bind_some, he1]
    by_cases he : err d (fineT d t) = 0
    ·obtain ⟨h1, h2, h3⟩ := err_zero he
     have hd := okD_iff.1 h1
     obtain ⟨t', ht, ht'⟩ := fineT_get hd h2
     rw [decide_eq_true he, cond_true] at hv
     rw [decide_eq_true he, Bool.not_true, cond_false, hv]
     simp only [decide_true, cond_true]
     have e2 : t.toNat = t' := by omega
     have e77 := p_77 hd hn h3 ht'
     rw [← ht] at e77
     rw [e77, Option.bind_some, e2, p_76 1000 hn _ _ (by simp [bndL]; omega), Option.bind_some, decide_eq_true rfl, p_24, Option.bind_some, cond_true]
    ·rw [decide_eq_false he, cond_false] at hv
     rw [decide_eq_false he, Bool.not_false, cond_true, hv]
     simp [p_24]
   have mid : ∀ (v : List State × Int) (w : List Bounds × Int) (b : Bool), b = (okD d && fineT d t) → v = (bif runOk d tr t then (runL d tr t.toNat, 0) else ([], 2)) → w = (bif decide (err d (fineT d t) = 0) then (bndL d t.toNat, 0) else ([], err d (fineT d t))) → s_19_j2 1000 d tr t v w b = some true := by
    intro v w b hb hv hw
    have hlast := last w b hb hw
    have no : runOk d tr t = false → s_19_j3 1000 d tr t v w b true = some true := by
     intro h
     rw [h, cond_false] at hv
     subst hv
     unfold s_19_j3 s_19_j4
     simp only [decide_true, Bool.not_true, cond_false, cond_true]
     exact hlast
    unfold s_19_j2
    cases hbb : b with
    | false =>
     rw [hbb] at hb no
     refine no ?_
     unfold runOk
     cases h1 : okD d <;> cases h2 : fineT d t <;> rw [h1, h2] at hb <;> simp at hb ⊢
    | true =>
     rw [hbb] at hb no hlast
     have h12 : okD d = true ∧ fineT d t = true := by cases h1 : okD d <;> cases h2 : fineT d t <;> rw [h1, h2] at hb <;> simp at hb ⊢
     have hd := okD_iff.1 h12.1
     simp only [Bool.not_true, cond_false, p_44, Option.bind_some]
     cases hsz : sizedB d tr with
     | false =>
      simp only [Bool.not_false, cond_true]
      exact no (by unfold runOk; rw [hsz]; simp)
     | true =>
      simp only [Bool.not_true, cond_false, p_45 hd hn hsz, Option.bind_some]
      cases hf : fitB d tr with
      | false =>
       simp only [Bool.not_false]
       exact no (by unfold runOk; rw [hf]; simp)
      | true =>
       simp only [Bool.not_true]
       have hr : runOk d tr t = true := by unfold runOk; rw [h12.1, h12.2, hsz, hf]; rfl
       rw [hr, cond_true] at hv
       obtain ⟨t', ht, ht'⟩ := fineT_get hd h12.2
       have e75 := p_75 hd hn hsz hf ht'
       rw [← ht] at e75
       have e2 : t.toNat = t' := by omega
       unfold s_19_j3 s_19_j5
       rw [cond_false, hv]
       simp only [decide_true, Bool.not_true, cond_false, e75, Option.bind_some, e2]
       rw [p_74 1000 hn _ _ (by simp [runL]; omega), Option.bind_some, decide_eq_true rfl, Bool.not_true, cond_false]
       exact hlast
   unfold s_19_j1
   simp only [cond_false, p_47 hn hs, p_48 hn hs, p_39 hn hs, Option.bind_some]
   cases hok : okD d with
   | false => exact mid _ _ false (by rw [hok]; rfl) rfl rfl
   | true =>
    rw [cond_true]
    have e : fineT d t = (decide (0 ≤ t) && decide (t ≤ d.hours)) := rfl
    by_cases h0 : 0 ≤ t
    ·rw [decide_eq_true h0, cond_true]
     exact mid _ _ _ (by rw [hok, e, decide_eq_true h0]; rfl) rfl rfl
    ·rw [decide_eq_false h0, cond_false]
     exact mid _ _ _ (by rw [hok, e, decide_eq_false h0]; rfl) rfl rfl
end
end Go.Proofs.YtohmhlkdgfcaeaaGreatDoor
namespace Go.Proofs.YtohmhlkdgfcaeaaGreatDoor
open Go Go.RowKit
section
variable {α : Type} (lt : α → α → Bool)
def least : α → List α → α
 | x, [] => x
 | x, y :: r => least (bif lt y x then y else x) r
end
end Go.Proofs.YtohmhlkdgfcaeaaGreatDoor
namespace Go.Proofs.YtohmhlkdgfcaeaaGreatDoor
open Go Go.RowKit
def rn : Int → List Int → Int
 | c, [] => c
 | c, x :: r => rn (max c (x + 1)) r
def rgB : Int → List Int → Bool
 | _, [] => true
 | c, x :: r => decide (x ≤ c) && rgB (max c (x + 1)) r
theorem rgB_app : ∀ (l : List Int) (c x : Int), rgB c (l ++ [x]) = (rgB c l && decide (x ≤ rn c l)) := by
 intro l
 induction l with
 | nil =>
  intro c x
  show (decide (x ≤ c) && true) = (true && decide (x ≤ c))
  rw [Bool.and_true, Bool.true_and]
 | cons y r ih => intro c x; rw [List.cons_append, rgB, ih, rgB, rn, Bool.and_assoc]
end Go.Proofs.YtohmhlkdgfcaeaaGreatDoor
namespace Go.Proofs.YtohmhlkdgfcaeaaGreatDoor
open Go Go.RowKit
structure Way (l : List Int) : Prop where
 rg : rgB 0 l = true
 nn : ∀ x ∈ l, 0 ≤ x
theorem Way.nil : Way [] := ⟨rfl, by simp⟩
theorem Way.step {l : List Int} (h : Way l) {x : Nat} (hx : (x : Int) ≤ rn 0 l) : Way (l ++ [(x : Int)]) :=
 ⟨by rw [rgB_app, h.rg, decide_eq_true hx]; rfl, fun y hy => by
  rcases List.mem_append.1 hy with hy | hy
  ·exact h.nn y hy
  ·obtain rfl := List.mem_singleton.1 hy; omega⟩
end Go.Proofs.YtohmhlkdgfcaeaaGreatDoor
namespace Go.Proofs.YtohmhlkdgfcaeaaGreatDoor
open Go Go.RowKit Go.ChangeShapes Go.WideShapes
set_option maxRecDepth 100000
theorem drumRuns_lifted (os : Os) (started : os.Started) (H : Type) (enc : TypeId × Value → H) :
  ReturnsInHanded {} Tryz.checked os 19 .any (fun w args => (Rows.drumRunsSpec.pre enc Tryz.prog Tryz.f19 [] false w args ∧ laidMetH Tryz.prog Rows.drumRunsRow.laid w) ∧ sizedMet enc Tryz.prog Tryz.f19 (OpenSpec.ofChange Rows.drumRunsSpec) false w args)
   (Rows.drumRunsSpec.post enc Tryz.prog Tryz.f19 false true false false) :=
 law_row (s := Rows.drumRunsSpec) (enc := enc) started #[.agg #[.slice none 0 0, .int .i64 0, .int .i64 0, .slice none 0 0, .slice none 0 0, .slice none 0 0], .agg #[.int .i64 0, .slice none 0 0], .int .i64 0] (by kernel_rfl) Tryz.func19 (by kernel_rfl) (by kernel_rfl) (by kernel_rfl) rfl
   (by
    rw [Tryz.params19]
    have h : ∀ t ∈ ([27, 54, 3] : List Nat), t ∈ [3, 9, 23, 27, 54, 92] := by decide
    exact fun t ht => parT t (h t ht)) rfl
   (by
    rw [Tryz.params19]
    intro ds h
    match ds, h with
    | [d0, d1, d2], _ => rfl)
   (by
    rw [Tryz.params19]
    intro W base args ds p hval hA
    obtain ⟨args⟩ := args
    obtain ⟨v0, vs0, d0, ds0, p0, q0, e0, rfl, rfl, h0, r0⟩ := trodAll_cons hA
    have e0 : args = _ := e0; subst e0
    obtain ⟨v1, vs1, d1, ds1, p1, q1, e1, rfl, rfl, h1, r1⟩ := trodAll_cons r0
    subst e1
    obtain ⟨v2, vs2, d2, ds2, p2, q2, e2, rfl, rfl, h2, r2⟩ := trodAll_cons r1
    subst e2
    obtain ⟨rfl, rfl, rfl⟩ := trodAll_nil r2
    obtain ⟨x0, z0⟩ := rd_drum (hval 0 27 v0 rfl rfl) h0
    obtain ⟨x1, z1⟩ := rd_truth (hval 1 54 v1 rfl rfl) h1
    obtain ⟨x2, z2⟩ := rd_int (hval 2 3 v2 rfl rfl)
    refine ⟨rfl, [.agg (cDrum x0), .agg (cTruth x1), .i x2], ⟨rfl, ?_⟩, c_19 1000 x0 x1 x2 (law_19 x0 x1 x2)⟩
    intro j c u hc hu
    match j, hc, hu with
    | 0, hc, hu => cases hc; cases hu; exact z0
    | 1, hc, hu => cases hc; cases hu; exact z1
    | 2, hc, hu => cases hc; cases hu; exact z2)
theorem drumRuns_facts : factsA Tryz.prog Tryz.f19 Rows.drumRunsSpec Rows.drumRunsRow = true := by kernel_rfl
theorem drumRuns_road0 : (Rows.drumRunsRow.inPlace == Tryz.prog.inPlace 19) = true := by kernel_rfl
theorem drumRuns_road1 : (Rows.drumRunsRow.unfollowed == Tryz.prog.unfollowed 19) = true := by kernel_rfl
theorem drumRuns_road2 : (Rows.drumRunsRow.recurses == Tryz.prog.recurses 19) = true := by kernel_rfl
theorem drumRuns_road3 : (Rows.drumRunsRow.named == Tryz.prog.varsNamed 19) = true := by kernel_rfl
theorem drumRuns_row : Rows.DrumRunsSaid :=
 OpenClaim.holds_of_wide 19 Tryz.f19 rfl rfl rfl rfl rfl rfl rfl ⟨rfl, rfl, rfl, rfl, rfl⟩ rfl rfl rfl rfl rfl (by as_aux_lemma => kernel_rfl) Tryz.func19 (joined_of drumRuns_facts drumRuns_road0 drumRuns_road1 drumRuns_road2 drumRuns_road3)
  (of_decide_eq_true (by as_aux_lemma => kernel_rfl)) (by unfold Func.isWrapper; rw [if_neg (of_decide_eq_false (by as_aux_lemma => kernel_rfl))]; exact ⟨rfl, rfl⟩)
  (fun os started H enc _ => drumRuns_lifted os started H enc)
theorem drumRuns_card : Rows.DrumRunsCardSaid :=
 Claim7.holds_tied_plain_at .later [] [.data, .data, .data, .data, .pinned] true (true, "263524fd91af563947b647e8709e73ef988cdef21cccd4074f632dc410392126") true drumRuns_row (fun _ h => by cases h) (by as_aux_lemma => kernel_rfl) (fun _ h => by cases h) drumRuns_row_tie rfl ⟨rfl, rfl⟩ mainK rfl
  (fun f fn hf hfn => by
   obtain rfl : f = 19 := Option.some.inj ((show Tryz.prog.funcNamed "nacre/nacrelaw03.DrumRuns" = some 19 by as_aux_lemma => kernel_rfl).symm.trans hf) |>.symm
   obtain rfl : fn = Tryz.f19 := (Option.some.inj (Tryz.func19.symm.trans hfn)).symm
   exact ⟨looksK, fun j t ht => by
    rw [Tryz.params19] at ht
    have hm : t ∈ [27, 54, 3] := by simpa using Array.mem_of_getElem? ht
    have h : ∀ t ∈ ([27, 54, 3] : List Nat), t ∈ [3, 9, 23, 27, 54, 92] := by decide
    exact standK t (h t hm)⟩)
  (by as_aux_lemma => kernel_rfl)
#print axioms drumRuns_card
end Go.Proofs.YtohmhlkdgfcaeaaGreatDoor
