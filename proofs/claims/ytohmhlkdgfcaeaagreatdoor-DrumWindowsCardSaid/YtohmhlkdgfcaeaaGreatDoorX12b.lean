/- DrumWindows: the program tells the window of all batches of any drum, and the batches that must be named, or the errors, as the reference does. For every input that can be read as data, the tables of Go's library being as their text lays them: the call returns true, and each argument reads behind it as before. -/
import Derived.KernelRfl
import Derived.Test.YtohmhlkdgfcaeaaGreatDoorTie
import Derived.Test.YtohmhlkdgfcaeaaGreatDoorCards
import Derived.Test.YtohmhlkdgfcaeaaGreatDoorX12a
set_option linter.unusedVariables false
set_option linter.unusedSimpArgs false
namespace Go.Proofs.YtohmhlkdgfcaeaaGreatDoor
open Go Go.RowKit
def Err {α : Type} (o : Option (Except Value α)) : Prop := ∃ v, isRule v = true ∧ o = some (.error v)
theorem p_188 (n : Nat) (h : Int) {x y : Span} (hc : (cap x y).ne) : s_188 n h x y = some (.ok (cap x y)) := by
 unfold s_188
 have e : decide ((min x.high y.high) < (max x.low y.low)) = false := decide_eq_false (by simp only [Span.ne, cap] at hc; omega)
 rw [e]; rfl
theorem p_188e (n : Nat) (h : Int) {x y : Span} (hc : ¬ (cap x y).ne) : s_188 n h x y = some (.error (.iface 175 (.agg #[.int .i64 h]))) := by
 unfold s_188
 have e : decide ((min x.high y.high) < (max x.low y.low)) = true := decide_eq_true (by simp only [Span.ne, cap] at hc; omega)
 rw [e]; rfl
theorem capL_cap (l : List Span) : ∀ (s t : Span), capL (cap s t) l = cap (capL s l) t := by
 induction l with
 | nil => intro s t; rfl
 | cons u r ih =>
  intro s t
  show capL (cap (cap s t) u) r = cap (capL (cap s u) r) t
  rw [cap_comm, ih]
def full : Span := ⟨0, 1300⟩
theorem cap_full {s : Span} (h : 0 ≤ s.low ∧ s.high ≤ 1300) : cap full s = s := by
 obtain ⟨h1, h2⟩ := h
 ext
 ·simp only [cap, full]; omega
 ·simp only [cap, full]; omega
theorem capL_full {l : List Span} {s : Span} (h : 0 ≤ s.low ∧ s.high ≤ 1300) : cap (capL full l) s = capL s l := by
 rw [← capL_cap, cap_full h]
theorem ne_left {x y : Span} (h : (cap x y).ne) : x.ne := by simp only [Span.ne, cap] at *; omega
theorem capL_ne {l : List Span} : ∀ {s : Span}, (capL s l).ne → s.ne := by
 induction l with
 | nil => intro s h; exact h
 | cons t r ih => intro s h; exact ne_left (ih (s := cap s t) h)
section
variable {n : Nat} {d : Drum} {a : Acid} {H : Nat}
def lst (H : Nat) (c : Nat → Span) : List Span := (List.range H).map c
theorem lst_get {c : Nat → Span} {h : Nat} (hh : h < H) : (lst H c)[h]? = some (c h) := by
 unfold lst; rw [List.getElem?_map, List.getElem?_range hh]; rfl
theorem lst_set {c : Nat → Span} {m : Nat} {s : Span} : (lst H c).set m s = lst H (fun h => if h = m then s else c h) := by
 apply List.ext_getElem?
 intro i
 rw [List.getElem?_set]
 by_cases hi : i < H
 ·rw [lst_get hi, lst_get hi]
  by_cases hm : m = i
  ·subst hm
   rw [if_pos rfl, if_pos (by unfold lst; simpa using hi), if_pos rfl]
  ·rw [if_neg hm, if_neg (fun e => hm e.symm)]
 ·have e : ∀ c : Nat → Span, (lst H c)[i]? = none := fun c => by unfold lst; simp; omega
  rw [e, e]
  split
  ·rw [if_neg (by unfold lst; simp; omega)]
  ·rfl
theorem lst_congr {c c' : Nat → Span} (h : ∀ i, i < H → c i = c' i) : lst H c = lst H c' := by
 unfold lst
 exact List.map_congr_left (fun i hi => h i (by simpa using hi))
theorem p_173_strips (hd : d.ok) (hn : 100 ≤ n) (hH : d.hours = (H : Int)) (i : Int) (fin : List Span → Option (Except Value Filled)) (hfin : ∀ s, (ix s 0).bind (fun v120 => (ix d.adds 0).bind fun v121 => (ix d.adds 0).bind fun v122 =>
   (s_188 n 0 v120 (Span.mk (wr (a.strength.low + v121)) (wr (a.strength.high + v122)))).bind fun v123 => Except.casesOn (motive := fun _ => Option (Except Value (Filled))) v123 (fun p => some (.error p)) (fun v124 => (ix s 0).bind fun v125 => s_173_l2 n d i a n 1 (sts s 0 v124))) = fin s) :
  ((∀ h, h < H → (capL full (stripsAt d.strips h)).ne) → s_173_l1 n d i a n 0 (lst H (fun _ => full)) = fin (lst H (fun h => capL full (stripsAt d.strips h)))) ∧
  (¬ (∀ h, h < H → (capL full (stripsAt d.strips h)).ne) → Err (s_173_l1 n d i a n 0 (lst H (fun _ => full)))) := by
 have hst := hd.stl
 have h1 := loop_list d.strips (s_173_l1 n d i a) (fun _ x s K => (ix s x.hour).bind fun v => (s_188 n x.hour v x.span).bind fun r => Except.casesOn (motive := fun _ => Option (Except Value (Filled))) r (fun p => some (.error p)) (fun v' => (ix s x.hour).bind fun _ => K (sts s x.hour v')))
  fin (fun k j s => by
   rw [s_173_l1, hfin]
   by_cases hj : j < d.strips.length
   ·have hok := hd.st _ (List.getElem_mem hj)
    simp only [ix_at (List.getElem?_eq_getElem hj), Option.bind_some]
    obtain ⟨q1, q2, q3⟩ := hok
    rw [wr_of (x := d.strips[j].seen - d.strips[j].off) (by omega), wr_of (x := d.strips[j].seen + d.strips[j].off) (by omega)]
    rfl
   ·have e1 : decide ((j : Int) < ((d.strips.length : Nat) : Int)) = false := decide_eq_false (by omega)
    rw [e1, cond_false, cond_false]) (by omega) n 0 (lst H (fun _ => full)) (by omega) (by omega)
 rw [List.drop_zero, show ((0 : Nat) : Int) = 0 from rfl] at h1
 rw [h1]
 clear h1
 have key : ∀ (l : List Strip) (j : Nat) (c : Nat → Span), (∀ s ∈ l, s.ok d.hours) → (∀ h, h < H → (c h).ne) →
   ((∀ h, h < H → (capL (c h) (stripsAt l h)).ne) → fc (fun _ x s K => (ix s x.hour).bind fun v => (s_188 n x.hour v x.span).bind fun r => Except.casesOn (motive := fun _ => Option (Except Value (Filled))) r (fun p => some (.error p)) (fun v' => (ix s x.hour).bind fun _ => K (sts s x.hour v'))) fin j l (lst H c) = fin (lst H (fun h => capL (c h) (stripsAt l h)))) ∧
   (¬ (∀ h, h < H → (capL (c h) (stripsAt l h)).ne) → Err (fc (fun _ x s K => (ix s x.hour).bind fun v => (s_188 n x.hour v x.span).bind fun r => Except.casesOn (motive := fun _ => Option (Except Value (Filled))) r (fun p => some (.error p)) (fun v' => (ix s x.hour).bind fun _ => K (sts s x.hour v'))) fin j l (lst H c))) := by
  intro l
  induction l with
  | nil =>
   intro j c _ hc
   exact ⟨fun _ => rfl, fun h => absurd hc h⟩
  | cons x r ih =>
   intro j c hok hc
   obtain ⟨⟨q1, q2⟩, _⟩ := hok x List.mem_cons_self
   obtain ⟨m, hm⟩ := Int.eq_ofNat_of_zero_le q1
   have hmH : m < H := by omega
   simp only [fc]
   rw [hm, ix_at (lst_get hmH)]
   simp only [Option.bind_some]
   have hcap : ∀ h, capL (c h) (stripsAt (x :: r) h) = capL (if h = m then cap (c m) x.span else c h) (stripsAt r h) := by
    intro h
    rw [stripsAt_cons, hm]
    by_cases hh : h = m
    ·subst hh
     rw [if_pos rfl, if_pos rfl]; rfl
    ·rw [if_neg (by omega), if_neg hh]
   by_cases hx : (cap (c m) x.span).ne
   ·rw [p_188 n m hx]
    simp only [Option.bind_some]
    have hset : sts (lst H c) (m : Int) (cap (c m) x.span) = lst H (fun h => if h = m then cap (c m) x.span else c h) := lst_set
    rw [hset]
    have := ih (j + 1) (fun h => if h = m then cap (c m) x.span else c h) (fun s hs => hok s (List.mem_cons_of_mem _ hs)) (fun h hh => by
     by_cases e : h = m
     ·simp only [e, if_true]; exact hx
     ·simp only [e, if_false]; exact hc h hh)
    simp only [hcap]
    exact this
   ·rw [p_188e n m hx]
    constructor
    ·intro hall
     refine absurd ?_ hx
     have := hall m hmH
     rw [hcap, if_pos rfl] at this
     exact capL_ne this
    ·intro _
     exact ⟨_, rfl, rfl⟩
 exact key d.strips 0 (fun _ => full) hd.st (fun h _ => by simp [Span.ne, full])
def mixS (d : Drum) (a : Acid) (m : Nat) : Nat → Span := fun h => if h < m then fw d.adds d.strips a h else capL full (stripsAt d.strips h)
theorem aft_full (hd : d.ok) (ha : a.ok) {h : Nat} (hh : h + 1 < 12) : 0 ≤ (aft a (addAt d.adds (h + 1)) (fw d.adds d.strips a h)).low ∧ (aft a (addAt d.adds (h + 1)) (fw d.adds d.strips a h)).high ≤ 1300 := by
 have h1 := fw_low (st := d.strips) ha hd.ad h
 have h2 := addAt_le hd.ad (h + 1)
 obtain ⟨h3, h4⟩ := ha
 simp only [aft, Span.ok] at *
 omega
theorem p_173_l3 (hd : d.ok) (ha : a.ok) (hH : d.hours = (H : Int)) (hp : Poss d.adds d.strips a H) (i : Int) : ∀ (m k : Nat), m < k → m ≤ H - 1 → s_173_l3 n d i a k (m : Int) (mix d a H m) = some (.ok ⟨d, i, bdL d a H⟩) := by
 have hhr := hd.hr
 intro m
 induction m with
 | zero =>
  intro k hk hm
  obtain ⟨k, rfl⟩ : ∃ k', k = k' + 1 := ⟨k - 1, by omega⟩
  rw [s_173_l3, decide_eq_false (by omega), cond_false, mix_zero]
 | succ m ih =>
  intro k hk hm
  obtain ⟨k, rfl⟩ : ∃ k', k = k' + 1 := ⟨k - 1, by omega⟩
  have g1 := ix_at (mix_get (d := d) (a := a) (H := H) (m := m + 1) (h := m) (by omega))
  have g2 := ix_at (mix_get (d := d) (a := a) (H := H) (m := m + 1) (h := m + 1) (by omega))
  rw [if_pos (by omega)] at g1
  rw [if_neg (by omega)] at g2
  have e1 : wr (((m + 1 : Nat) : Int) - 1) = (m : Int) := by rw [wr_of (by omega)]; omega
  have hb := bd_small hd ha (by omega) hp (show m + 1 < H by omega)
  have hadd := addAt_le hd.ad (m + 1)
  have hok := (bd_ok ha hd.ad hp (show m < H by omega)).1
  rw [bd_step (ad := d.adds) (st := d.strips) (a := a) (show m + 1 < H by omega)] at hok
  have hset : sts (mix d a H (m + 1)) (m : Int) (bd d.adds d.strips a H m) = mix d a H m := mix_step (by omega)
  have key : ∀ low, low = (bef a (addAt d.adds (m + 1)) (bd d.adds d.strips a H (m + 1))).low → s_173_j6 n (s_173_l3 n d i a k) a ((m + 1 : Nat) : Int) (mix d a H (m + 1)) (bd d.adds d.strips a H (m + 1)) (addAt d.adds (m + 1)) low = some (.ok ⟨d, i, bdL d a H⟩) := by
   intro low hl
   have hhi : wr (wr ((bd d.adds d.strips a H (m + 1)).high - addAt d.adds (m + 1)) + a.fall.high) = (bef a (addAt d.adds (m + 1)) (bd d.adds d.strips a H (m + 1))).high := by
    obtain ⟨h3, h4⟩ := ha
    simp only [Span.small, Span.ok] at hb h3 h4
    rw [wr_of (x := _ - _) (by omega), wr_of (by omega)]
    rfl
   unfold s_173_j6
   rw [hhi, hl, e1, g1]
   simp only [Option.bind_some]
   rw [p_188 n m hok]
   simp only [Option.bind_some]
   rw [← bd_step (ad := d.adds) (st := d.strips) (a := a) (show m + 1 < H by omega), hset]
   exact ih k (by omega) (by omega)
  rw [s_173_l3, decide_eq_true (by omega), cond_true, g2, Option.bind_some, add_at hd (h := m + 1) (by omega), Option.bind_some]
  obtain ⟨h3, h4⟩ := ha
  simp only [Span.small, Span.ok] at hb h3 h4
  by_cases hc : addAt d.adds (m + 1) < (bd d.adds d.strips a H (m + 1)).low
  ·rw [decide_eq_true hc, cond_true]
   refine key _ ?_
   rw [wr_of (x := _ - _) (by omega), wr_of (by omega)]
   simp only [bef]
   rw [if_pos hc]
  ·rw [decide_eq_false hc, cond_false]
   refine key _ ?_
   simp only [bef]
   rw [if_neg hc]
theorem p_173_l2 (hd : d.ok) (hn : 100 ≤ n) (ha : a.ok) (hH : d.hours = (H : Int)) (i : Int) : ∀ (r m k : Nat), m + 1 + r = H → r < k → (∀ h, h < m + 1 → (fw d.adds d.strips a h).ne) →
  (Poss d.adds d.strips a H → s_173_l2 n d i a k ((m + 1 : Nat) : Int) (lst H (mixS d a (m + 1))) = some (.ok ⟨d, i, bdL d a H⟩)) ∧ (¬ Poss d.adds d.strips a H → Err (s_173_l2 n d i a k ((m + 1 : Nat) : Int) (lst H (mixS d a (m + 1))))) := by
 have hhr := hd.hr
 intro r
 induction r with
 | zero =>
  intro m k hm hk hne
  obtain ⟨k, rfl⟩ : ∃ k', k = k' + 1 := ⟨k - 1, by omega⟩
  have hm' : H = m + 1 := by omega
  subst hm'
  refine ⟨fun hp => ?_, fun hp => absurd hne hp⟩
  rw [s_173_l2, decide_eq_false (by omega), cond_false, hH]
  have := p_173_l3 (n := n) hd ha hH hp i m n (by omega) (by omega)
  have e1 : wr (((m + 1 : Nat) : Int) - 1) = (m : Int) := by rw [wr_of (by omega)]; omega
  rw [e1]
  have e2 : lst (m + 1) (mixS d a (m + 1)) = mix d a (m + 1) m := by
   unfold mix lst
   apply List.map_congr_left
   intro h hh
   rw [List.mem_range] at hh
   unfold mixS
   rw [if_pos hh]
   by_cases h1 : h < m
   ·rw [if_pos h1]
   ·have : h = m := by omega
    subst this
    rw [if_neg h1]
    exact (bd_last (ad := d.adds) (st := d.strips) (a := a) (H := h + 1) (by omega)).symm
  rw [e2]
  exact this
 | succ r ih =>
  intro m k hm hk hne
  obtain ⟨k, rfl⟩ : ∃ k', k = k' + 1 := ⟨k - 1, by omega⟩
  have g0 : ix (lst H (mixS d a (m + 1))) (m : Int) = some (fw d.adds d.strips a m) := by
   rw [ix_at (lst_get (by omega))]; unfold mixS; rw [if_pos (by omega)]
  have g1 : ix (lst H (mixS d a (m + 1))) ((m + 1 : Nat) : Int) = some (capL full (stripsAt d.strips (m + 1))) := by
   rw [ix_at (lst_get (by omega))]; unfold mixS; rw [if_neg (by omega)]
  have e1 : wr (((m + 1 : Nat) : Int) - 1) = (m : Int) := by rw [wr_of (by omega)]; omega
  have hsm := fw_small hd ha (show m < 12 by omega) (by
    rcases Nat.eq_zero_or_pos m with h | h
    ·exact .inl h
    ·exact .inr (hne (m - 1) (by omega)))
  have hadd := addAt_le hd.ad (m + 1)
  have haft : Span.mk (wr ((max 0 (wr ((fw d.adds d.strips a m).low - a.fall.high))) + addAt d.adds (m + 1))) (wr ((max 0 (wr ((fw d.adds d.strips a m).high - a.fall.low))) + addAt d.adds (m + 1))) = aft a (addAt d.adds (m + 1)) (fw d.adds d.strips a m) :=
   Option.some.inj (p_115 (n := n) ha hadd hsm)
  have hfw : cap (capL full (stripsAt d.strips (m + 1))) (aft a (addAt d.adds (m + 1)) (fw d.adds d.strips a m)) = fw d.adds d.strips a (m + 1) := capL_full (aft_full hd ha (by omega))
  rw [s_173_l2, decide_eq_true (by omega), cond_true, e1, g0, Option.bind_some, add_at hd (h := m + 1) (by omega), Option.bind_some, g1, Option.bind_some, haft]
  by_cases hf : (fw d.adds d.strips a (m + 1)).ne
  ·rw [p_188 n _ (by rw [hfw]; exact hf), hfw]
   simp only [Option.bind_some]
   have hset : sts (lst H (mixS d a (m + 1))) ((m + 1 : Nat) : Int) (fw d.adds d.strips a (m + 1)) = lst H (mixS d a (m + 1 + 1)) := by
    refine (lst_set (m := m + 1)).trans (lst_congr (fun h _ => ?_))
    unfold mixS
    by_cases e : h = m + 1
    ·subst e; rw [if_pos rfl, if_pos (by omega)]
    ·rw [if_neg e]
     by_cases h1 : h < m + 1
     ·rw [if_pos h1, if_pos (by omega)]
     ·rw [if_neg h1, if_neg (by omega)]
   rw [hset, wr_of (by omega)]
   have := ih (m + 1) k (by omega) (by omega) (fun h hh => by
    by_cases e : h = m + 1
    ·subst e; exact hf
    ·exact hne h (by omega))
   exact_mod_cast this
  ·rw [p_188e n _ (by rw [hfw]; exact hf)]
   exact ⟨fun hp => absurd (hp (m + 1) (by omega)) hf, fun _ => ⟨_, rfl, rfl⟩⟩
theorem p_173 (hd : d.ok) (hn : 100 ≤ n) {i : Nat} (hi : d.acids[i]? = some a) :
  (Poss d.adds d.strips a d.hours.toNat → s_173 n d i = some (.ok ⟨d, i, bdL d a d.hours.toNat⟩)) ∧ (¬ Poss d.adds d.strips a d.hours.toNat → Err (s_173 n d i)) := by
 have hhr := hd.hr
 have ha := hd.ac a (List.mem_of_getElem? hi)
 obtain ⟨H, hH⟩ := Int.eq_ofNat_of_zero_le (show 0 ≤ d.hours by omega)
 have hH' : d.hours.toNat = H := by omega
 rw [hH']
 unfold s_173
 rw [ix_at hi, Option.bind_some]
 have e187 : s_187 n [Span.mk 0 1300] d.hours = some (lst H (fun _ => full)) := by
  unfold s_187
  rw [decide_eq_true hhr.1, decide_eq_true hhr.2]
  simp only [Bool.and_self, cond_true, hH']
  refine congrArg some ?_
  unfold lst full
  apply List.ext_getElem?
  intro j
  simp [List.getElem?_replicate, List.getElem?_range]
  by_cases hj : j < H <;> simp [hj]
 rw [e187, Option.bind_some]
 obtain ⟨k1, k2⟩ := p_173_strips (n := n) (a := a) hd hn hH i _ (fun s => rfl)
 have hst0 : 0 ≤ (start a (addAt d.adds 0)).low ∧ (start a (addAt d.adds 0)).high ≤ 1300 := by
  have := addAt_le hd.ad 0
  obtain ⟨h3, h4⟩ := ha
  simp only [start, Span.ok] at *
  omega
 have hsub : ∀ h, h < H → (fw d.adds d.strips a h).ne → (capL full (stripsAt d.strips h)).ne := by
  intro h hh hf
  cases h with
  | zero => exact ne_left (y := start a (addAt d.adds 0)) (by rw [capL_full hst0]; exact hf)
  | succ h => exact ne_left (y := aft a (addAt d.adds (h + 1)) (fw d.adds d.strips a h)) (by rw [capL_full (aft_full hd ha (by omega))]; exact hf)
 by_cases hall : ∀ h, h < H → (capL full (stripsAt d.strips h)).ne
 ·rw [k1 hall]
  have g0 : ix (lst H (fun h => capL full (stripsAt d.strips h))) 0 = some (capL full (stripsAt d.strips 0)) := ix_at (lst_get (c := fun h => capL full (stripsAt d.strips h)) (h := 0) (by omega))
  have ga : ix d.adds 0 = some (addAt d.adds 0) := add_at hd (h := 0) (by omega)
  have hs0 : Span.mk (wr (a.strength.low + addAt d.adds 0)) (wr (a.strength.high + addAt d.adds 0)) = start a (addAt d.adds 0) := by
   have := addAt_le hd.ad 0
   obtain ⟨h3, h4⟩ := ha
   simp only [Span.ok] at h3 h4
   rw [wr_of (by omega), wr_of (by omega)]; rfl
  have hfw : cap (capL full (stripsAt d.strips 0)) (start a (addAt d.adds 0)) = fw d.adds d.strips a 0 := capL_full hst0
  simp only [g0, ga, Option.bind_some, hs0]
  by_cases hf : (fw d.adds d.strips a 0).ne
  ·rw [p_188 n _ (by rw [hfw]; exact hf), hfw]
   simp only [Option.bind_some]
   have hset : sts (lst H (fun h => capL full (stripsAt d.strips h))) 0 (fw d.adds d.strips a 0) = lst H (mixS d a (0 + 1)) := by
    refine (lst_set (m := 0)).trans (lst_congr (fun h _ => ?_))
    unfold mixS
    by_cases e : h = 0
    ·subst e; rw [if_pos rfl, if_pos (by omega)]
    ·rw [if_neg e, if_neg (by omega)]
   rw [hset]
   exact p_173_l2 (n := n) hd hn ha hH i (H - 1) 0 n (by omega) (by omega) (fun h hh => by
    have : h = 0 := by omega
    subst this; exact hf)
  ·rw [p_188e n _ (by rw [hfw]; exact hf)]
   exact ⟨fun hp => absurd (hp 0 (by omega)) hf, fun _ => ⟨_, rfl, rfl⟩⟩
 ·exact ⟨fun hp => absurd (fun h hh => hsub h hh (hp h hh)) hall, fun _ => k2 hall⟩
end
end Go.Proofs.YtohmhlkdgfcaeaaGreatDoor
namespace Go.Proofs.YtohmhlkdgfcaeaaGreatDoor
open Go Go.RowKit
def acidAt (d : Drum) (i : Nat) : Acid := d.acids.getD i default
def hrs (d : Drum) : Nat := d.hours.toNat
def PossI (d : Drum) (i : Nat) : Bool := hasB d.known i && decide (Poss d.adds d.strips (acidAt d i) (hrs d))
def bdI (d : Drum) (i : Nat) : List Span := bdL d (acidAt d i) (hrs d)
def idx (d : Drum) : List Nat := (List.range d.acids.length).filter (PossI d)
section
variable {n : Nat} {d : Drum}
theorem acidAt_get {i : Nat} (hi : i < d.acids.length) : d.acids[i]? = some (acidAt d i) := by
 unfold acidAt
 rw [List.getD_eq_getElem?_getD, List.getElem?_eq_getElem hi]; rfl
theorem acidAt_ok (hd : d.ok) {i : Nat} (hi : i < d.acids.length) : (acidAt d i).ok := hd.ac _ (List.mem_of_getElem? (acidAt_get hi))
theorem hrs_eq (hd : d.ok) : d.hours = (hrs d : Int) := by have := hd.hr; unfold hrs; omega
theorem hrs_le (hd : d.ok) : 1 ≤ hrs d ∧ hrs d ≤ 12 := by have := hd.hr; unfold hrs; omega
theorem q_90 (hd : d.ok) (hn : 100 ≤ n) {i : Nat} (hi : i < d.acids.length) : s_90 n d (i : Int) = some (bif PossI d i then (bdI d i, true) else ([], false)) := by
 rw [p_90 hd hn (acidAt_get hi)]
 unfold PossI bdI hrs
 by_cases h1 : hasB d.known i = true <;> by_cases h2 : Poss d.adds d.strips (acidAt d i) d.hours.toNat <;> simp [h1, h2]
theorem q_173 (hd : d.ok) (hn : 100 ≤ n) {i : Nat} (hi : i < d.acids.length) : (Poss d.adds d.strips (acidAt d i) (hrs d) → s_173 n d i = some (.ok ⟨d, i, bdI d i⟩)) ∧ (¬ Poss d.adds d.strips (acidAt d i) (hrs d) → Err (s_173 n d i)) :=
 p_173 hd hn (acidAt_get hi)
theorem app_of {α : Type} {l l2 : List α} (h : l.length + l2.length ≤ 1000000) : app l l2 = some (l ++ l2) := by
 unfold app; rw [decide_eq_true h]; rfl
def intL (l : List Nat) : List Int := l.map fun (j : Nat) => (j : Int)
theorem p_80 (hd : d.ok) (hn : 100 ≤ n) : s_80 n d = some (intL (idx d)) := by
 have hl := hd.acl
 have h1 := loop_nat ((d.acids.length : Nat) : Int) (s_80_l1 n d) (fun i s K => (s_90 n d i).bind fun v => bif v.2 then (app s [i]).bind fun s' => K s' else K s) (fun s => some s) (fun k i s => by rw [s_80_l1]) (by omega) d.acids.length n 0 [] (by omega) (by omega) (by omega)
 unfold s_80
 rw [h1]
 have key : ∀ (r i : Nat) (s : List Int), i + r = d.acids.length → s.length ≤ i → fn ((d.acids.length : Nat) : Int) (fun i s K => (s_90 n d i).bind fun v => bif v.2 then (app s [i]).bind fun s' => K s' else K s) (fun s => some s) r (i : Int) s = some (s ++ intL ((List.range' i r).filter (PossI d))) := by
  intro r
  induction r with
  | zero => intro i s _ _; simp [fn, intL]
  | succ r ih =>
   intro i s hi hs
   have hc : ((i : Int) + 1) = ((i + 1 : Nat) : Int) := by push_cast; rfl
   simp only [fn]
   rw [q_90 hd hn (by omega), Option.bind_some, List.range'_succ, List.filter_cons, hc]
   cases hp : PossI d i with
   | false => simp only [cond_false]; rw [ih (i + 1) s (by omega) (by omega)]; rfl
   | true =>
    simp only [cond_true]
    rw [app_of (by simp; omega), Option.bind_some, ih (i + 1) _ (by omega) (by simp; omega)]
    simp [intL]
 have := key d.acids.length 0 [] (by omega) (by simp)
 rw [← List.range_eq_range'] at this
 exact this
theorem p_89 (hd : d.ok) (hn : 100 ≤ n) : s_89 n d = some (!(idx d).isEmpty) := by
 unfold s_89
 rw [p_80 hd hn, Option.bind_some]
 cases h : idx d with
 | nil => rfl
 | cons x r => simp [intL]
def err (d : Drum) (fine : Bool) : Int := bif !okD d || !fine then 2 else bif (idx d).isEmpty then 7 else 0
theorem p_27 (hn : 100 ≤ n) (hs : Short d) (fine : Bool) : s_27 n d fine = some (err d fine) := by
 unfold s_27 err s_27_j1
 rw [p_39 hn hs, Option.bind_some]
 cases hok : okD d with
 | false => rfl
 | true =>
  rw [p_89 (okD_iff.1 hok) hn]
  cases fine
  ·rfl
  ·cases (idx d).isEmpty <;> rfl
def filL (d : Drum) : List Filled := (idx d).map fun (i : Nat) => ⟨d, (i : Int), bdI d i⟩
theorem p_171 (hd : d.ok) (hn : 100 ≤ n) : s_171 n d n 0 [] = some (filL d) := by
 have hl := hd.acl
 have hkn := hd.kn
 have hpw := (pow_bound (i := d.acids.length) (by omega)).2
 have hpw4 : (2 : Int) ^ d.acids.length ≤ 16 := by
  have : (2 : Nat) ^ d.acids.length ≤ 2 ^ 4 := Nat.pow_le_pow_right (by omega) hl.2
  exact_mod_cast this
 have h1 := loop_nat ((d.acids.length : Nat) : Int) (s_171 n d) (fun i s K => (s_145 n d.known i).bind fun b => bif !b then K s else (s_173 n d i).bind fun r => match r with
     | .error v => bif isRule v then K s else none
     | .ok f => (app s [f]).bind fun l' => K l') (fun s => some s) (fun k i s => by rw [s_171]; rfl) (by omega) d.acids.length n 0 [] (by omega) (by omega) (by omega)
 rw [h1]
 have key : ∀ (r i : Nat) (s : List Filled), i + r = d.acids.length → s.length ≤ i → fn ((d.acids.length : Nat) : Int) (fun i s K => (s_145 n d.known i).bind fun b => bif !b then K s else (s_173 n d i).bind fun r => match r with
     | .error v => bif isRule v then K s else none
     | .ok f => (app s [f]).bind fun l' => K l') (fun s => some s) r (i : Int) s = some (s ++ ((List.range' i r).filter (PossI d)).map fun (i : Nat) => (⟨d, (i : Int), bdI d i⟩ : Filled)) := by
  intro r
  induction r with
  | zero => intro i s _ _; simp [fn]
  | succ r ih =>
   intro i s hi hs
   have hc : ((i : Int) + 1) = ((i + 1 : Nat) : Int) := by push_cast; rfl
   simp only [fn]
   rw [p_145 (by omega) (by omega) (by omega), Option.bind_some, List.range'_succ, List.filter_cons, hc]
   cases hp : hasB d.known i with
   | false =>
    have : PossI d i = false := by unfold PossI; rw [hp]; rfl
    rw [this]
    simp only [Bool.not_false, cond_true]
    rw [ih (i + 1) s (by omega) (by omega)]; rfl
   | true =>
    simp only [Bool.not_true, cond_false]
    obtain ⟨k1, k2⟩ := q_173 (n := n) hd hn (show i < d.acids.length by omega)
    by_cases hpo : Poss d.adds d.strips (acidAt d i) (hrs d)
    ·have : PossI d i = true := by unfold PossI; rw [hp, decide_eq_true hpo]; rfl
     rw [this, k1 hpo]
     simp only [Option.bind_some, if_true]
     rw [app_of (by simp; omega), Option.bind_some, ih (i + 1) _ (by omega) (by simp; omega)]
     simp
    ·have : PossI d i = false := by unfold PossI; rw [hp, decide_eq_false hpo]; rfl
     obtain ⟨v, hv, he⟩ := k2 hpo
     rw [this, he]
     simp only [Option.bind_some, hv, cond_true]
     rw [ih (i + 1) s (by omega) (by omega)]; rfl
 have := key d.acids.length 0 [] (by omega) (by simp)
 rw [← List.range_eq_range'] at this
 exact this
theorem p_84 (hn : 100 ≤ n) (hs : Short d) (fine : Bool) : s_84 n d fine = some (bif decide (err d fine = 0) then filL d else [], err d fine) := by
 unfold s_84 err
 rw [p_104 hn hs, Option.bind_some]
 cases hok : okD d with
 | false => rfl
 | true =>
  cases fine
  ·rfl
  ·simp only [Bool.not_true, Bool.or_self, cond_false]
   rw [p_171 (okD_iff.1 hok) hn, Option.bind_some]
   have : (filL d).isEmpty = (idx d).isEmpty := by unfold filL; cases idx d <;> rfl
   rw [this]
   cases (idx d).isEmpty <;> rfl
end
end Go.Proofs.YtohmhlkdgfcaeaaGreatDoor
namespace Go.Proofs.YtohmhlkdgfcaeaaGreatDoor
open Go Go.RowKit
theorem fc_fold {α σ β : Type} {body : Nat → α → σ → (σ → Option β) → Option β} {fin : σ → Option β} (g : σ → α → σ) : ∀ (l : List α) (i : Nat) (s : σ), (∀ i x s K, x ∈ l → body i x s K = K (g s x)) → fc body fin i l s = fin (l.foldl g s) := by
 intro l
 induction l with
 | nil => intro i s _; rfl
 | cons x r ih =>
  intro i s h
  rw [fc, h i x s _ List.mem_cons_self, ih (i + 1) (g s x) (fun i y s K hy => h i y s K (List.mem_cons_of_mem _ hy))]
  rfl
def bdAt (d : Drum) (i h : Nat) : Span := bd d.adds d.strips (acidAt d i) (hrs d) h
section
variable {n : Nat} {d : Drum}
theorem bdI_lst (i : Nat) : bdI d i = lst (hrs d) (bdAt d i) := rfl
theorem bdI_get {i h : Nat} (hh : h < hrs d) : ix (bdI d i) (h : Int) = some (bdAt d i h) := ix_at (by rw [bdI_lst]; exact lst_get hh)
theorem p_85 {i h : Nat} (hh : h < hrs d) : s_85 n ⟨d, (i : Int), bdI d i⟩ (h : Int) = some (bdAt d i h).low := by unfold s_85; rw [bdI_get hh]; rfl
theorem p_86 {i h : Nat} (hh : h < hrs d) : s_86 n ⟨d, (i : Int), bdI d i⟩ (h : Int) = some (bdAt d i h).high := by unfold s_86; rw [bdI_get hh]; rfl
theorem idx_len (hd : d.ok) : (idx d).length ≤ 4 := by
 have := hd.acl
 have h1 := List.length_filter_le (PossI d) (List.range d.acids.length)
 unfold idx
 rw [List.length_range] at h1
 omega
theorem idx_mem {i : Nat} (h : i ∈ idx d) : i < d.acids.length ∧ PossI d i = true := by
 unfold idx at h
 rw [List.mem_filter, List.mem_range] at h
 exact h
theorem lst_length (m : Nat) (c : Nat → Span) : (lst m c).length = m := by simp [lst]
end
end Go.Proofs.YtohmhlkdgfcaeaaGreatDoor
namespace Go.Proofs.YtohmhlkdgfcaeaaGreatDoor
open Go Go.RowKit
def firstH (p : Nat → Bool) : Nat → Nat → Int
 | 0, _ => -1
 | r + 1, m => bif p m then (m : Int) else firstH p r (m + 1)
end Go.Proofs.YtohmhlkdgfcaeaaGreatDoor
namespace Go.Proofs.YtohmhlkdgfcaeaaGreatDoor
open Go Go.RowKit
def qt (p x : Int) : Int := (x * p).tdiv 100
def cut (p : Int) (g : Nat → Int) : Nat → Int
 | 0 => 0
 | t + 1 => cut p g t + qt p (g t)
def stateAt (b : Batch) (g : Nat → Int) (t : Nat) : State := ⟨max 0 (b.rough - cut b.polish g t), max 0 (b.thick - cut b.eat g t)⟩
theorem qt_le {p x : Int} (hp : 0 ≤ p ∧ p ≤ 100) (hx : 0 ≤ x ∧ x ≤ 5000) : 0 ≤ qt p x ∧ qt p x ≤ 5000 := by
 unfold qt
 have h1 : 0 ≤ x * p := Int.mul_nonneg hx.1 hp.1
 have h2 : x * p ≤ x * 100 := Int.mul_le_mul_of_nonneg_left hp.2 hx.1
 rw [Int.tdiv_eq_ediv_of_nonneg h1]
 omega
theorem p_quo {p x : Int} (hp : 0 ≤ p ∧ p ≤ 100) (hx : 0 ≤ x ∧ x ≤ 5000) : quo .i64 (wr (x * p)) 100 = some (qt p x) := by
 have h1 : 0 ≤ x * p := Int.mul_nonneg hx.1 hp.1
 have h2 : x * p ≤ x * 100 := Int.mul_le_mul_of_nonneg_left hp.2 hx.1
 have h3 := qt_le hp hx
 rw [wr_of (by omega)]
 unfold quo
 rw [show decide ((100 : Int) = 0) = false from rfl, cond_false]
 exact congrArg some (wr_of (by unfold qt at h3; omega))
theorem cut_le {p : Int} {g : Nat → Int} (hp : 0 ≤ p ∧ p ≤ 100) : ∀ (t : Nat), (∀ h, h < t → 0 ≤ g h ∧ g h ≤ 5000) → 0 ≤ cut p g t ∧ cut p g t ≤ 5000 * t := by
 intro t
 induction t with
 | zero => intro _; simp [cut]
 | succ t ih =>
  intro h
  have h1 := ih (fun i hi => h i (by omega))
  have h2 := qt_le hp (h t (by omega))
  rw [cut]
  push_cast
  omega
def lstI (m : Nat) (c : Nat → Int) : List Int := (List.range m).map c
theorem lstI_succ (m : Nat) (c : Nat → Int) : lstI (m + 1) c = lstI m c ++ [c m] := by unfold lstI; rw [List.range_succ, List.map_append]; rfl
theorem lstI_length (m : Nat) (c : Nat → Int) : (lstI m c).length = m := by simp [lstI]
theorem lstI_get {m h : Nat} {c : Nat → Int} (hh : h < m) : (lstI m c)[h]? = some (c h) := by unfold lstI; rw [List.getElem?_map, List.getElem?_range hh]; rfl
section
variable {n : Nat} {d : Drum} {b : Batch} {g : Nat → Int} {t : Nat}
theorem p_166 {p : Int} (hp : 0 ≤ p ∧ p ≤ 100) (hn : 100 ≤ n) (ht : t ≤ 50) (hg : ∀ h, h < t → 0 ≤ g h ∧ g h ≤ 5000) : s_166 n (lstI t (fun h => qt p (g h))) = some (cut p g t) := by
 have key : ∀ (r m k : Nat), m + r = t → r < k → s_166_l1 (lstI t (fun h => qt p (g h))) k (cut p g m) (m : Int) = some (cut p g t) := by
  intro r
  induction r with
  | zero =>
   intro m k hm hk
   obtain ⟨k, rfl⟩ : ∃ k', k = k' + 1 := ⟨k - 1, by omega⟩
   have : m = t := by omega
   subst this
   rw [s_166_l1, decide_eq_false (by rw [lstI_length]; omega), cond_false]
  | succ r ih =>
   intro m k hm hk
   obtain ⟨k, rfl⟩ : ∃ k', k = k' + 1 := ⟨k - 1, by omega⟩
   have h1 := cut_le hp m (fun h hh => hg h (by omega))
   have h2 := qt_le hp (hg m (by omega))
   rw [s_166_l1, decide_eq_true (by rw [lstI_length]; omega), cond_true, ix_at (lstI_get (by omega)), Option.bind_some, wr_of (x := cut p g m + qt p (g m)) (by omega), wr_of (by omega)]
   exact_mod_cast ih (m + 1) k (by omega) (by omega)
 exact key t 0 n (by omega) (by omega)
theorem p_118 (hb : b.ok) (hn : 100 ≤ n) (ht : t ≤ 50) {f : Int → Option Int} (hf : ∀ h, h < t → f (h : Int) = some (g h)) (hg : ∀ h, h < t → 0 ≤ g h ∧ g h ≤ 5000) : s_118 n b (t : Int) f = some (stateAt b g t) := by
 obtain ⟨h1, h2, h3, h4, h5, h6⟩ := hb
 have key : ∀ (r m k : Nat), m + r = t → r < k → s_118_l1 n f b (t : Int) k (m : Int) (lstI m (fun h => qt b.polish (g h))) (lstI m (fun h => qt b.eat (g h))) = some (stateAt b g t) := by
  intro r
  induction r with
  | zero =>
   intro m k hm hk
   obtain ⟨k, rfl⟩ : ∃ k', k = k' + 1 := ⟨k - 1, by omega⟩
   have : m = t := by omega
   subst this
   have c1 := cut_le h5 m hg
   have c2 := cut_le h6 m hg
   rw [s_118_l1, decide_eq_false (by omega), cond_false, p_166 h5 hn ht hg, Option.bind_some, p_166 h6 hn ht hg, Option.bind_some, wr_of (by omega), wr_of (by omega)]
   rfl
  | succ r ih =>
   intro m k hm hk
   obtain ⟨k, rfl⟩ : ∃ k', k = k' + 1 := ⟨k - 1, by omega⟩
   rw [s_118_l1, decide_eq_true (by omega), cond_true, hf m (by omega), Option.bind_some, p_quo h5 (hg m (by omega)), Option.bind_some, app_of (by rw [lstI_length]; simp; omega), Option.bind_some,
    p_quo h6 (hg m (by omega)), Option.bind_some, app_of (by rw [lstI_length]; simp; omega), Option.bind_some, wr_of (by omega)]
   have := ih (m + 1) k (by omega) (by omega)
   rw [lstI_succ, lstI_succ] at this
   exact_mod_cast this
 exact key t 0 n (by omega) (by omega)
theorem p_140 (hb : b.ok) (hn : 100 ≤ n) (ht : t ≤ 50) {l : List Int} (hl : ∀ h, h < t → l[h]? = some (g h)) (hg : ∀ h, h < t → 0 ≤ g h ∧ g h ≤ 5000) : s_140 n b l (t : Int) = some (stateAt b g t) := by
 obtain ⟨h1, h2, h3, h4, h5, h6⟩ := hb
 have key : ∀ (r m k : Nat), m + r = t → r < k → s_140_l1 b l (t : Int) k (b.rough - cut b.polish g m) (b.thick - cut b.eat g m) (m : Int) = some (stateAt b g t) := by
  intro r
  induction r with
  | zero =>
   intro m k hm hk
   obtain ⟨k, rfl⟩ : ∃ k', k = k' + 1 := ⟨k - 1, by omega⟩
   have : m = t := by omega
   subst this
   rw [s_140_l1, decide_eq_false (by omega), cond_false]
   rfl
  | succ r ih =>
   intro m k hm hk
   obtain ⟨k, rfl⟩ : ∃ k', k = k' + 1 := ⟨k - 1, by omega⟩
   have hgm := hg m (by omega)
   have c1 := cut_le h5 m (fun h hh => hg h (by omega))
   have c2 := cut_le h6 m (fun h hh => hg h (by omega))
   have q1 := qt_le h5 hgm
   have q2 := qt_le h6 hgm
   rw [s_140_l1, decide_eq_true (by omega), cond_true, ix_at (hl m (by omega))]
   simp only [Option.bind_some, p_quo h5 hgm, p_quo h6 hgm]
   rw [wr_of (x := b.rough - cut b.polish g m - qt b.polish (g m)) (by omega), wr_of (x := b.thick - cut b.eat g m - qt b.eat (g m)) (by omega), wr_of (by omega)]
   have := ih (m + 1) k (by omega) (by omega)
   rw [show b.rough - cut b.polish g m - qt b.polish (g m) = b.rough - cut b.polish g (m + 1) by rw [cut]; omega, show b.thick - cut b.eat g m - qt b.eat (g m) = b.thick - cut b.eat g (m + 1) by rw [cut]; omega]
   exact_mod_cast this
 have := key t 0 n (by omega) (by omega)
 simpa [cut, s_140] using this
theorem p_73 (hn : 100 ≤ n) {H : Nat} (hH : H ≤ 50) (c : Nat → Span) (hi : Bool) : s_73 n (lst H c) hi = some (lstI H (fun h => bif hi then (c h).high else (c h).low)) := by
 have key : ∀ (r m k : Nat), m + r = H → r < k → s_73_l1 (lst H c) hi k (m : Int) (lstI m (fun h => bif hi then (c h).high else (c h).low)) = some (lstI H (fun h => bif hi then (c h).high else (c h).low)) := by
  intro r
  induction r with
  | zero =>
   intro m k hm hk
   obtain ⟨k, rfl⟩ : ∃ k', k = k' + 1 := ⟨k - 1, by omega⟩
   have : m = H := by omega
   subst this
   rw [s_73_l1, decide_eq_false (by rw [lst_length]; omega), cond_false]
  | succ r ih =>
   intro m k hm hk
   obtain ⟨k, rfl⟩ : ∃ k', k = k' + 1 := ⟨k - 1, by omega⟩
   have := ih (m + 1) k (by omega) (by omega)
   rw [lstI_succ] at this
   have e1 : wr ((m : Int) + 1) = ((m + 1 : Nat) : Int) := by rw [wr_of (by omega)]; push_cast; rfl
   rw [s_73_l1, decide_eq_true (by rw [lst_length]; omega), cond_true, ix_at (lst_get (by omega)), e1]
   cases hi with
   | false =>
    simp only [Option.bind_some, cond_false] at this ⊢
    rw [app_of (by rw [lstI_length]; simp; omega), Option.bind_some]
    exact this
   | true =>
    simp only [Option.bind_some, cond_true] at this ⊢
    rw [app_of (by rw [lstI_length]; simp; omega), Option.bind_some]
    exact this
 exact key H 0 n (by omega) (by omega)
def loS (d : Drum) (b : Batch) (i t : Nat) : State := stateAt b (fun h => (bdAt d i h).low) t
def hiS (d : Drum) (b : Batch) (i t : Nat) : State := stateAt b (fun h => (bdAt d i h).high) t
def bOf (d : Drum) (b : Batch) (t i : Nat) : Bounds := ⟨⟨(hiS d b i t).rough, (loS d b i t).rough⟩, ⟨(hiS d b i t).thick, (loS d b i t).thick⟩⟩
def updB (x y : Bounds) : Bounds := ⟨⟨min x.rough.low y.rough.low, max x.rough.high y.rough.high⟩, ⟨min x.thick.low y.thick.low, max x.thick.high y.thick.high⟩⟩
def bnds (d : Drum) (b : Batch) (t : Nat) : Bounds := (idx d).foldl (fun s i => updB s (bOf d b t i)) (bOf d b t ((idx d).headD 0))
theorem updB_self (x : Bounds) : updB x x = x := by
 unfold updB
 ext <;> simp only <;> omega
theorem bdAt_pos (hd : d.ok) {i h : Nat} (hi : i ∈ idx d) (hh : h < hrs d) : 0 ≤ (bdAt d i h).low ∧ (bdAt d i h).low ≤ (bdAt d i h).high ∧ (bdAt d i h).high ≤ 1300 := by
 obtain ⟨m1, m2⟩ := idx_mem hi
 have hhr := hrs_le hd
 unfold PossI at m2
 simp only [Bool.and_eq_true, decide_eq_true_eq] at m2
 have h1 := fw_low (st := d.strips) (acidAt_ok hd m1) hd.ad h
 have h2 := bd_ok (acidAt_ok hd m1) hd.ad m2.2 hh
 simp only [Span.ne] at h2
 unfold bdAt
 omega
theorem p_118lo (hd : d.ok) (hn : 100 ≤ n) (hb : b.ok) {i : Nat} (hi : i ∈ idx d) (ht : t ≤ hrs d) : s_118 n b (t : Int) (fun z => s_85 n ⟨d, (i : Int), bdI d i⟩ z) = some (loS d b i t) := by
 have hhr := hrs_le hd
 exact p_118 hb hn (by omega) (fun h hh => p_85 (by omega)) (fun h hh => by have := bdAt_pos hd hi (show h < hrs d by omega); omega)
theorem p_118hi (hd : d.ok) (hn : 100 ≤ n) (hb : b.ok) {i : Nat} (hi : i ∈ idx d) (ht : t ≤ hrs d) : s_118 n b (t : Int) (fun z => s_86 n ⟨d, (i : Int), bdI d i⟩ z) = some (hiS d b i t) := by
 have hhr := hrs_le hd
 exact p_118 hb hn (by omega) (fun h hh => p_86 (by omega)) (fun h hh => by have := bdAt_pos hd hi (show h < hrs d by omega); omega)
theorem p_140lo (hd : d.ok) (hn : 100 ≤ n) (hb : b.ok) {i : Nat} (hi : i ∈ idx d) (ht : t ≤ hrs d) : s_140 n b (lstI (hrs d) (fun h => (bdAt d i h).low)) (t : Int) = some (loS d b i t) := by
 have hhr := hrs_le hd
 exact p_140 hb hn (by omega) (fun h hh => lstI_get (by omega)) (fun h hh => by have := bdAt_pos hd hi (show h < hrs d by omega); omega)
theorem p_140hi (hd : d.ok) (hn : 100 ≤ n) (hb : b.ok) {i : Nat} (hi : i ∈ idx d) (ht : t ≤ hrs d) : s_140 n b (lstI (hrs d) (fun h => (bdAt d i h).high)) (t : Int) = some (hiS d b i t) := by
 have hhr := hrs_le hd
 exact p_140 hb hn (by omega) (fun h hh => lstI_get (by omega)) (fun h hh => by have := bdAt_pos hd hi (show h < hrs d by omega); omega)
theorem p_120 (hd : d.ok) (hn : 100 ≤ n) (hb : b.ok) (hne : idx d ≠ []) (ht : t ≤ hrs d) : s_120 n (filL d) b (t : Int) = some (bnds d b t) := by
 have hil := idx_len hd
 obtain ⟨i0, r0, hi0⟩ : ∃ i r, idx d = i :: r := by
  cases h : idx d with
  | nil => exact absurd h hne
  | cons i r => exact ⟨i, r, rfl⟩
 have hfl : (filL d).length = (idx d).length := by simp [filL]
 have rest : ∀ (r : List Nat) (p k : Nat) (x : Bounds), (idx d).drop p = r → 0 < p → p ≤ (idx d).length → (idx d).length < k + p → s_120_l1 n (filL d) b (t : Int) k (p : Int) x = some (r.foldl (fun s i => updB s (bOf d b t i)) x) := by
  intro r
  induction r with
  | nil =>
   intro p k x hr hp hp2 hk
   have hpl : (idx d).length ≤ p := List.drop_eq_nil_iff.1 hr
   obtain ⟨k, rfl⟩ : ∃ k', k = k' + 1 := ⟨k - 1, by omega⟩
   rw [s_120_l1, decide_eq_false (by omega), cond_false]
   rfl
  | cons j r ih =>
   intro p k x hr hp hp2 hk
   have hpl : p < (idx d).length := by
    rcases Nat.lt_or_ge p (idx d).length with h | h
    ·exact h
    ·rw [List.drop_eq_nil_of_le h] at hr; cases hr
   obtain ⟨k, rfl⟩ : ∃ k', k = k' + 1 := ⟨k - 1, by omega⟩
   rw [List.drop_eq_getElem_cons hpl] at hr
   obtain ⟨hj, hr2⟩ := List.cons.inj hr
   have hjm : j ∈ idx d := by rw [← hj]; exact List.getElem_mem hpl
   have gx : ix (filL d) (p : Int) = some ⟨d, (j : Int), bdI d j⟩ := ix_at (by unfold filL; rw [List.getElem?_map, List.getElem?_eq_getElem hpl, hj]; rfl)
   rw [s_120_l1, decide_eq_true (by omega), cond_true, gx, Option.bind_some, p_118lo hd hn hb hjm ht, Option.bind_some, p_118hi hd hn hb hjm ht, Option.bind_some, decide_eq_false (by omega), cond_false, wr_of (by omega)]
   exact_mod_cast ih (p + 1) k _ hr2 (by omega) (by omega) (by omega)
 obtain ⟨n', hn'⟩ : ∃ n', n = n' + 1 := ⟨n - 1, by omega⟩
 have him : i0 ∈ idx d := by rw [hi0]; exact List.mem_cons_self
 have g0 : ix (filL d) 0 = some ⟨d, (i0 : Int), bdI d i0⟩ := ix_at (i := 0) (by unfold filL; rw [hi0]; rfl)
 have h0 : s_120_l1 n (filL d) b (t : Int) (n' + 1) 0 (Bounds.mk (Span.mk 0 0) (Span.mk 0 0)) = s_120_l1 n (filL d) b (t : Int) n' 1 (bOf d b t i0) := by
  rw [s_120_l1, decide_eq_true (by rw [hfl, hi0]; simp), cond_true, g0, Option.bind_some, p_118lo hd hn hb him ht, Option.bind_some, p_118hi hd hn hb him ht, Option.bind_some]
  rfl
 unfold s_120
 rw [show s_120_l1 n (filL d) b (t : Int) n 0 (Bounds.mk (Span.mk 0 0) (Span.mk 0 0)) = s_120_l1 n (filL d) b (t : Int) (n' + 1) 0 (Bounds.mk (Span.mk 0 0) (Span.mk 0 0)) by rw [hn'], h0]
 have h1 := rest r0 1 n' (bOf d b t i0) (by rw [hi0]; rfl) (by omega) (by rw [hi0]; simp) (by omega)
 rw [show ((1 : Nat) : Int) = 1 from rfl] at h1
 rw [h1]
 unfold bnds
 rw [hi0]
 simp only [List.headD_cons, List.foldl_cons, updB_self]
theorem p_94 (hd : d.ok) (hn : 100 ≤ n) {j : Nat} (hj : d.batches[j]? = some b) (hne : idx d ≠ []) (ht : t ≤ hrs d) : s_94 n d (j : Int) (t : Int) = some (bnds d b t) := by
 have hil := idx_len hd
 have hhr := hrs_le hd
 have hb := hd.bt b (List.mem_of_getElem? hj)
 obtain ⟨i0, r0, hi0⟩ : ∃ i r, idx d = i :: r := by
  cases h : idx d with
  | nil => exact absurd h hne
  | cons i r => exact ⟨i, r, rfl⟩
 have hfl : (intL (idx d)).length = (idx d).length := by simp [intL]
 have step : ∀ (p k : Nat) (x : Bounds) (i : Nat), (idx d)[p]? = some i → s_94_l1 n d (j : Int) (t : Int) (intL (idx d)) (k + 1) (p : Int) x = s_94_l1 n d (j : Int) (t : Int) (intL (idx d)) k ((p : Int) + 1) (updB (bif decide ((p : Int) = 0) then bOf d b t i else x) (bOf d b t i)) := by
  intro p k x i hi
  have hpl := (List.getElem?_eq_some_iff.1 hi).1
  have him : i ∈ idx d := List.mem_of_getElem? hi
  obtain ⟨m1, m2⟩ := idx_mem him
  have gx : ix (intL (idx d)) (p : Int) = some (i : Int) := ix_at (by unfold intL; rw [List.getElem?_map, hi]; rfl)
  have e1 : s_73 n (bdI d i) false = some (lstI (hrs d) (fun h => (bdAt d i h).low)) := p_73 hn (by omega) (bdAt d i) false
  have e2 : s_73 n (bdI d i) true = some (lstI (hrs d) (fun h => (bdAt d i h).high)) := p_73 hn (by omega) (bdAt d i) true
  rw [s_94_l1, decide_eq_true (by omega), cond_true, gx, Option.bind_some, q_90 hd hn m1, m2]
  simp only [Option.bind_some, cond_true, ix_at hj, e1, e2, p_140lo hd hn hb him ht, p_140hi hd hn hb him ht]
  unfold s_94_j4
  rw [wr_of (by omega)]
  cases decide ((p : Int) = 0) <;> rfl
 have rest : ∀ (r : List Nat) (p k : Nat) (x : Bounds), (idx d).drop p = r → 0 < p → p ≤ (idx d).length → (idx d).length < k + p → s_94_l1 n d (j : Int) (t : Int) (intL (idx d)) k (p : Int) x = some (r.foldl (fun s i => updB s (bOf d b t i)) x) := by
  intro r
  induction r with
  | nil =>
   intro p k x hr hp hp2 hk
   have hpl : (idx d).length ≤ p := List.drop_eq_nil_iff.1 hr
   obtain ⟨k, rfl⟩ : ∃ k', k = k' + 1 := ⟨k - 1, by omega⟩
   rw [s_94_l1, decide_eq_false (by omega), cond_false]
   rfl
  | cons q r ih =>
   intro p k x hr hp hp2 hk
   have hpl : p < (idx d).length := by
    rcases Nat.lt_or_ge p (idx d).length with h | h
    ·exact h
    ·rw [List.drop_eq_nil_of_le h] at hr; cases hr
   obtain ⟨k, rfl⟩ : ∃ k', k = k' + 1 := ⟨k - 1, by omega⟩
   rw [List.drop_eq_getElem_cons hpl] at hr
   obtain ⟨hq, hr2⟩ := List.cons.inj hr
   rw [step p k x q (by rw [List.getElem?_eq_getElem hpl, hq]), decide_eq_false (by omega), cond_false]
   exact_mod_cast ih (p + 1) k _ hr2 (by omega) (by omega) (by omega)
 obtain ⟨n', hn'⟩ : ∃ n', n = n' + 1 := ⟨n - 1, by omega⟩
 have h0 := step 0 n' (Bounds.mk (Span.mk 0 0) (Span.mk 0 0)) i0 (by rw [hi0]; rfl)
 rw [show decide (((0 : Nat) : Int) = 0) = true from rfl, cond_true, updB_self] at h0
 unfold s_94
 rw [p_80 hd hn, Option.bind_some]
 rw [show s_94_l1 n d (j : Int) (t : Int) (intL (idx d)) n 0 (Bounds.mk (Span.mk 0 0) (Span.mk 0 0)) = s_94_l1 n d (j : Int) (t : Int) (intL (idx d)) (n' + 1) ((0 : Nat) : Int) (Bounds.mk (Span.mk 0 0) (Span.mk 0 0)) by rw [hn']; rfl, h0]
 have h1 := rest r0 1 n' (bOf d b t i0) (by rw [hi0]; rfl) (by omega) (by rw [hi0]; simp) (by omega)
 rw [show (((0 : Nat) : Int) + 1) = ((1 : Nat) : Int) from rfl, h1]
 unfold bnds
 rw [hi0]
 simp only [List.headD_cons, List.foldl_cons, updB_self]
end
end Go.Proofs.YtohmhlkdgfcaeaaGreatDoor
namespace Go.Proofs.YtohmhlkdgfcaeaaGreatDoor
open Go Go.RowKit
def lastH (p : Nat → Bool) : Nat → Int
 | 0 => -1
 | m + 1 => bif p m then (m : Int) else lastH p m
def smP (d : Drum) (b : Batch) (t : Nat) : Bool := decide ((bnds d b t).rough.high ≤ b.goal)
def thP (d : Drum) (b : Batch) (t : Nat) : Bool := decide (b.least ≤ (bnds d b t).thick.low)
section
variable {n : Nat} {d : Drum} {b : Batch}
theorem fil_head (hne : idx d ≠ []) : ∃ i0 : Nat, ix (filL d) 0 = some ⟨d, (i0 : Int), bdI d i0⟩ := by
 obtain ⟨i0, r0, hi0⟩ : ∃ i r, idx d = i :: r := by
  cases h : idx d with
  | nil => exact absurd h hne
  | cons i r => exact ⟨i, r, rfl⟩
 exact ⟨i0, ix_at (i := 0) (by unfold filL; rw [hi0]; rfl)⟩
theorem p_92 (hd : d.ok) (hn : 100 ≤ n) (hb : b.ok) (hne : idx d ≠ []) : s_92 n (filL d) b = some (firstH (smP d b) (hrs d + 1) 0) := by
 have hhr := hrs_le hd
 have hH := hrs_eq hd
 obtain ⟨i0, g0⟩ := fil_head hne
 have key : ∀ (r m k : Nat), m + r = hrs d + 1 → r < k → s_92_l1 n (filL d) b ⟨d, (i0 : Int), bdI d i0⟩ k (m : Int) = some (firstH (smP d b) r m) := by
  intro r
  induction r with
  | zero =>
   intro m k hm hk
   obtain ⟨k, rfl⟩ : ∃ k', k = k' + 1 := ⟨k - 1, by omega⟩
   rw [s_92_l1, wr_of (x := d.hours + 1) (by omega), decide_eq_false (by omega), cond_false]
   rfl
  | succ r ih =>
   intro m k hm hk
   obtain ⟨k, rfl⟩ : ∃ k', k = k' + 1 := ⟨k - 1, by omega⟩
   rw [s_92_l1, wr_of (x := d.hours + 1) (by omega), decide_eq_true (by omega), cond_true, p_120 hd hn hb hne (by omega), Option.bind_some, wr_of (by omega), firstH]
   have := ih (m + 1) k (by omega) (by omega)
   push_cast at this
   rw [this]
   show (bif smP d b m then _ else _) = _
   cases smP d b m <;> rfl
 unfold s_92
 rw [g0, Option.bind_some]
 exact key (hrs d + 1) 0 n (by omega) (by omega)
theorem p_93 (hd : d.ok) (hn : 100 ≤ n) (hb : b.ok) (hne : idx d ≠ []) : s_93 n (filL d) b = some (lastH (thP d b) (hrs d + 1)) := by
 have hhr := hrs_le hd
 have hH := hrs_eq hd
 obtain ⟨i0, g0⟩ := fil_head hne
 have key : ∀ (m k : Nat), m ≤ hrs d + 1 → m < k → s_93_l1 n (filL d) b k ((m : Int) - 1) = some (lastH (thP d b) m) := by
  intro m
  induction m with
  | zero =>
   intro k hm hk
   obtain ⟨k, rfl⟩ : ∃ k', k = k' + 1 := ⟨k - 1, by omega⟩
   rw [s_93_l1, decide_eq_false (by omega), cond_false]
   rfl
  | succ m ih =>
   intro k hm hk
   obtain ⟨k, rfl⟩ : ∃ k', k = k' + 1 := ⟨k - 1, by omega⟩
   have e0 : (((m + 1 : Nat) : Int) - 1) = (m : Int) := by omega
   rw [s_93_l1, e0, decide_eq_true (by omega), cond_true, p_120 hd hn hb hne (by omega), Option.bind_some, wr_of (by omega), lastH, ih k (by omega) (by omega)]
   show (bif thP d b m then _ else _) = _
   cases thP d b m <;> rfl
 unfold s_93
 rw [g0, Option.bind_some]
 have := key (hrs d + 1) n (by omega) (by omega)
 rw [show (((hrs d + 1 : Nat) : Int) - 1) = d.hours by omega] at this
 exact this
theorem p_33 (hd : d.ok) (hn : 100 ≤ n) {j : Nat} (hj : d.batches[j]? = some b) (hne : idx d ≠ []) : s_33 n d (j : Int) = some (firstH (smP d b) (hrs d + 1) 0) := by
 have hhr := hrs_le hd
 have hH := hrs_eq hd
 have key : ∀ (r m k : Nat), m + r = hrs d + 1 → r < k → s_33_l1 n d (j : Int) k (m : Int) = some (firstH (smP d b) r m) := by
  intro r
  induction r with
  | zero =>
   intro m k hm hk
   obtain ⟨k, rfl⟩ : ∃ k', k = k' + 1 := ⟨k - 1, by omega⟩
   rw [s_33_l1, decide_eq_false (by omega), cond_false]
   rfl
  | succ r ih =>
   intro m k hm hk
   obtain ⟨k, rfl⟩ : ∃ k', k = k' + 1 := ⟨k - 1, by omega⟩
   rw [s_33_l1, decide_eq_true (by omega), cond_true, p_94 hd hn hj hne (by omega), Option.bind_some, ix_at hj, Option.bind_some, wr_of (by omega), firstH]
   have := ih (m + 1) k (by omega) (by omega)
   push_cast at this
   rw [this]
   show (bif smP d b m then _ else _) = _
   cases smP d b m <;> rfl
 unfold s_33
 exact key (hrs d + 1) 0 n (by omega) (by omega)
theorem p_34 (hd : d.ok) (hn : 100 ≤ n) {j : Nat} (hj : d.batches[j]? = some b) (hne : idx d ≠ []) : s_34 n d (j : Int) = some (lastH (thP d b) (hrs d + 1)) := by
 have hhr := hrs_le hd
 have hH := hrs_eq hd
 have key : ∀ (m k : Nat), m ≤ hrs d + 1 → m < k → s_34_l1 n d (j : Int) k ((m : Int) - 1) = some (lastH (thP d b) m) := by
  intro m
  induction m with
  | zero =>
   intro k hm hk
   obtain ⟨k, rfl⟩ : ∃ k', k = k' + 1 := ⟨k - 1, by omega⟩
   rw [s_34_l1, decide_eq_false (by omega), cond_false]
   rfl
  | succ m ih =>
   intro k hm hk
   obtain ⟨k, rfl⟩ : ∃ k', k = k' + 1 := ⟨k - 1, by omega⟩
   have e0 : (((m + 1 : Nat) : Int) - 1) = (m : Int) := by omega
   rw [s_34_l1, e0, decide_eq_true (by omega), cond_true, p_94 hd hn hj hne (by omega), Option.bind_some, ix_at hj, Option.bind_some, wr_of (by omega), lastH, ih k (by omega) (by omega)]
   show (bif thP d b m then _ else _) = _
   cases thP d b m <;> rfl
 unfold s_34
 have := key (hrs d + 1) n (by omega) (by omega)
 rw [show (((hrs d + 1 : Nat) : Int) - 1) = d.hours by omega] at this
 exact this
theorem err_zero {fine : Bool} (he : err d fine = 0) : okD d = true ∧ fine = true ∧ idx d ≠ [] := by
 unfold err at he
 cases h : okD d <;> cases h2 : fine <;> rw [h, h2] at he <;> simp at he
 refine ⟨rfl, rfl, fun h3 => ?_⟩
 rw [h3] at he
 simp at he
end
end Go.Proofs.YtohmhlkdgfcaeaaGreatDoor
namespace Go.Proofs.YtohmhlkdgfcaeaaGreatDoor
open Go Go.RowKit
theorem loop_same {α : Type} [DecidableEq α] (l m : List α) (L : Nat → Int → Option Bool) (h : ∀ (k i : Nat), L (k + 1) (i : Int) = bif decide ((i : Int) < ((l.length : Nat) : Int)) then (ix l (i : Int)).bind (fun x => (ix m (i : Int)).bind fun y => bif !decide (x = y) then some false else L k (wr ((i : Int) + 1))) else some true)
  (hlen : l.length = m.length) (hl : l.length ≤ 1000) {n : Nat} (hn : l.length < n) : L n 0 = some (decide (l = m)) := by
 have h1 := loop_list l (fun k i (_ : Unit) => L k i) (fun i x s K => (ix m (i : Int)).bind fun y => bif !decide (x = y) then some false else K s) (fun _ => some true) (fun k i s => h k i) (by omega) n 0 () (by omega) (by omega)
 rw [show ((0 : Nat) : Int) = 0 from rfl] at h1
 rw [h1]
 have key : ∀ (r : List α) (i : Nat), l.drop i = r → fc (σ := Unit) (fun i x s K => (ix m (i : Int)).bind fun y => bif !decide (x = y) then some false else K s) (fun _ => some true) i r () = some (decide (r = m.drop i)) := by
  intro r
  induction r with
  | nil =>
   intro i hi
   have : l.length ≤ i := List.drop_eq_nil_iff.1 hi
   rw [List.drop_eq_nil_of_le (by omega)]
   simp [fc]
  | cons x r ih =>
   intro i hi
   have hil : i < l.length := by
    rcases Nat.lt_or_ge i l.length with h | h
    ·exact h
    ·rw [List.drop_eq_nil_of_le h] at hi; cases hi
   have hr : l.drop (i + 1) = r := by
    rw [List.drop_eq_getElem_cons hil] at hi
    cases hi; rfl
   rw [fc, ix_at (List.getElem?_eq_getElem (show i < m.length by omega)), Option.bind_some, List.drop_eq_getElem_cons (show i < m.length by omega), ih (i + 1) hr]
   generalize List.drop (i + 1) m = q
   generalize m[i] = y
   by_cases hx : x = y
   ·rw [decide_eq_true hx, Bool.not_true, cond_false]
    subst hx
    simp
   ·rw [decide_eq_false hx, Bool.not_false, cond_true]
    simp [hx]
 rw [List.drop_zero]
 simpa using key l 0 rfl
theorem loop_app {α β γ : Type} (l : List α) (f : Nat → α → Option β) (g : α → β) (hf : ∀ i x, l[i]? = some x → f i x = some (g x)) (L : Nat → Int → List β → Option γ) (fin : List β → Option γ)
  (h : ∀ (k i : Nat) (s : List β), L (k + 1) (i : Int) s = bif decide ((i : Int) < ((l.length : Nat) : Int)) then (ix l (i : Int)).bind (fun x => (f i x).bind fun y => (app s [y]).bind fun s' => L k (wr ((i : Int) + 1)) s') else fin s)
  (hl : l.length ≤ 1000) {n : Nat} (hn : l.length < n) : L n 0 [] = fin (l.map g) := by
 have h1 := loop_list l L (fun i x s K => (f i x).bind fun y => (app s [y]).bind fun s' => K s') fin h (by omega) n 0 [] (by omega) (by omega)
 rw [show ((0 : Nat) : Int) = 0 from rfl] at h1
 rw [h1]
 have key : ∀ (r : List α) (i : Nat) (s : List β), l.drop i = r → s.length ≤ i → fc (fun i x s K => (f i x).bind fun y => (app s [y]).bind fun s' => K s') fin i r s = fin (s ++ r.map g) := by
  intro r
  induction r with
  | nil => intro i s _ _; simp [fc]
  | cons x r ih =>
   intro i s hi hs
   have hil : i < l.length := by
    rcases Nat.lt_or_ge i l.length with h | h
    ·exact h
    ·rw [List.drop_eq_nil_of_le h] at hi; cases hi
   rw [List.drop_eq_getElem_cons hil] at hi
   obtain ⟨hx, hr⟩ := List.cons.inj hi
   rw [fc, hf i x (by rw [List.getElem?_eq_getElem hil, hx]), Option.bind_some, app_of (by simp; omega), Option.bind_some, ih (i + 1) _ hr (by simp; omega)]
   simp
 rw [List.drop_zero]
 simpa using key l 0 [] (by simp) (by simp)
theorem p_58 (n : Nat) (hn : 100 ≤ n) (l m : List Int) (hl : l.length ≤ 50) : s_58 n l m = some (decide (l = m)) := by
 unfold s_58
 by_cases hlen : l.length = m.length
 ·rw [show decide (((l.length : Nat) : Int) = ((m.length : Nat) : Int)) = true from decide_eq_true (by omega), Bool.not_true, cond_false]
  exact loop_same l m (s_58_l1 l m) (fun k i => by rw [s_58_l1]) hlen (by omega) (by omega)
 ·rw [show decide (((l.length : Nat) : Int) = ((m.length : Nat) : Int)) = false from decide_eq_false (by omega), Bool.not_false, cond_true, decide_eq_false (fun h => hlen (by rw [h]))]
end Go.Proofs.YtohmhlkdgfcaeaaGreatDoor
namespace Go.Proofs.YtohmhlkdgfcaeaaGreatDoor
open Go Go.RowKit
def winP (d : Drum) (b : Batch) : Span := bif decide (firstH (smP d b) (hrs d + 1) 0 < 0) then ⟨1, 0⟩ else ⟨firstH (smP d b) (hrs d + 1) 0, lastH (thP d b) (hrs d + 1)⟩
def winR (d : Drum) (b : Batch) : Span :=
 bif decide (firstH (smP d b) (hrs d + 1) 0 < 0) || (decide (lastH (thP d b) (hrs d + 1) < 0) || decide (lastH (thP d b) (hrs d + 1) < firstH (smP d b) (hrs d + 1) 0)) then ⟨1, 0⟩ else ⟨firstH (smP d b) (hrs d + 1) 0, lastH (thP d b) (hrs d + 1)⟩
def wsP (d : Drum) : List Span := d.batches.map (winP d)
def wsR (d : Drum) : List Span := d.batches.map (winR d)
section
variable {n : Nat} {d : Drum}
theorem p_98 (hd : d.ok) (hn : 100 ≤ n) (hne : idx d ≠ []) : s_98 n d (filL d) = some ⟨wsP d⟩ := by
 have hbt := hd.btl
 unfold s_98
 refine loop_app d.batches (fun _ b => (s_92 n (filL d) b).bind fun v124 => (s_93 n (filL d) b).bind fun v125 => bif decide (v124 < 0) then s_144 n else some (Span.mk v124 v125)) (winP d) (fun i b hb => ?_) (s_98_l1 n d (filL d)) (fun s => some (Windows.mk s)) (fun k i s => ?_) (by omega) (by omega)
 ·have hb' := hd.bt b (List.mem_of_getElem? hb)
  rw [p_92 hd hn hb' hne, Option.bind_some, p_93 hd hn hb' hne, Option.bind_some]
  unfold winP s_144
  cases decide (firstH (smP d b) (hrs d + 1) 0 < 0) <;> rfl
 ·rw [s_98_l1]
  by_cases hi : i < d.batches.length
  ·have hb' := hd.bt _ (List.getElem_mem hi)
   rw [ix_at (List.getElem?_eq_getElem hi), Option.bind_some, Option.bind_some, p_92 hd hn hb' hne, Option.bind_some, Option.bind_some, p_93 hd hn hb' hne, Option.bind_some, Option.bind_some]
   unfold s_144 s_98_j5
   cases decide (firstH (smP d d.batches[i]) (hrs d + 1) 0 < 0) <;> rfl
  ·have e1 : decide ((i : Int) < ((d.batches.length : Nat) : Int)) = false := decide_eq_false (by omega)
   rw [e1, cond_false, cond_false]
theorem p_55 (hd : d.ok) (hn : 100 ≤ n) (hne : idx d ≠ []) : s_55 n d = some (wsR d) := by
 have hbt := hd.btl
 unfold s_55
 refine loop_app d.batches (fun _ b => some (winR d b)) (winR d) (fun i b hb => rfl) (s_55_l1 n d) (fun s => some s) (fun k i s => ?_) (by omega) (by omega)
 rw [s_55_l1]
 by_cases hi : i < d.batches.length
 ·have hb := List.getElem?_eq_getElem hi
  rw [ix_at hb, Option.bind_some, p_33 hd hn hb hne, Option.bind_some, p_34 hd hn hb hne, Option.bind_some, Option.bind_some]
  unfold s_55_j8 s_55_j9 winR
  cases decide (firstH (smP d d.batches[i]) (hrs d + 1) 0 < 0) <;> cases decide (lastH (thP d d.batches[i]) (hrs d + 1) < 0) <;> cases decide (lastH (thP d d.batches[i]) (hrs d + 1) < firstH (smP d d.batches[i]) (hrs d + 1) 0) <;> rfl
 ·have e1 : decide ((i : Int) < ((d.batches.length : Nat) : Int)) = false := decide_eq_false (by omega)
  rw [e1, cond_false, cond_false]
theorem p_100 (n : Nat) (w : List Span) (hw : w.length ≤ 6) : s_100 n ⟨w⟩ = some (2 ^ w.length - 1) := by
 have hpv := pow_bound (i := w.length) hw
 unfold s_100
 have hshl : shl .i64 1 ((List.length w : Nat) : Int) = some (2 ^ w.length) := by
  unfold shl
  rw [show decide ((0 : Int) ≤ ((List.length w : Nat) : Int)) = true from decide_eq_true (by omega), cond_true]
  have hm : min ((List.length w : Nat) : Int).toNat IntKind.i64.bits = w.length := by
   show min w.length 64 = w.length
   omega
  rw [hm, Int.one_mul]
  exact congrArg some (wr_of (by omega))
 rw [hshl, Option.bind_some, wr_of (by omega)]
theorem hasB_full : ∀ m, m < 6 → ∀ i, i < m → hasB (2 ^ m - 1) i = true := by decide
end
end Go.Proofs.YtohmhlkdgfcaeaaGreatDoor
namespace Go.Proofs.YtohmhlkdgfcaeaaGreatDoor
open Go Go.RowKit
def pickF (set : Int) : Nat → List Span → List Span
 | _, [] => []
 | i, s :: r => if hasB set i = true then s :: pickF set (i + 1) r else pickF set (i + 1) r
def com (w : List Span) (set : Int) : Span := capL ⟨0, 12⟩ (pickF set 0 w)
theorem and_one6 : ∀ x : Nat, x < 64 → bits .and .i64 (x : Int) 1 = (x : Int) % 2 := by decide
section
variable {n : Nat} {d : Drum} {b : Batch}
theorem p_145w {set : Int} {i : Nat} (hi : i ≤ 6) (h0 : 0 ≤ set) (h1 : set ≤ 63) : s_145 n set i = some (hasB set i) := by
 unfold s_145
 have hp := pow_bound hi
 have e1 : shr .i64 set (i : Int) = some (set / 2 ^ i) := by
  unfold shr
  rw [show decide ((0 : Int) ≤ (i : Int)) = true from decide_eq_true (by omega), cond_true]
  have hm : min ((i : Nat) : Int).toNat IntKind.i64.bits = i := by
   show min i 64 = i
   omega
  rw [hm, Int.fdiv_eq_ediv_of_nonneg _ (by omega)]
 rw [e1, Option.bind_some, hasB]
 have h3 : 0 ≤ set / 2 ^ i := Int.ediv_nonneg h0 (by omega)
 have h4 : set / 2 ^ i ≤ set := Int.ediv_le_self _ h0
 obtain ⟨x, hx⟩ := Int.eq_ofNat_of_zero_le h3
 rw [hx, and_one6 x (by omega)]
theorem common_pick (set : Int) : ∀ (w : List Span) (i : Nat) (o : Span), commonFrom (w.map spanP) set i (o.low, o.high) = spanP (capL o (pickF set i w)) := by
 intro w
 induction w with
 | nil => intro i o; rfl
 | cons s r ih =>
  intro i o
  have e : setHas set i = hasB set i := by
   unfold setHas hasB
   rw [Bool.eq_iff_iff]
   simp
  rw [List.map_cons, commonFrom, e, pickF]
  by_cases h : hasB set i = true
  ·rw [if_pos h, if_pos h]
   exact ih (i + 1) (cap o s)
  ·rw [if_neg h, if_neg h]
   exact ih (i + 1) o
theorem p_102 (hn : 100 ≤ n) (w : List Span) (hw : w.length ≤ 6) {set : Int} (h0 : 0 ≤ set) (h1 : set ≤ 63) : s_102 n ⟨w⟩ set = some (com w set) := by
 have e : s_102m n ⟨w⟩ set = some (com w set) := by
  unfold s_102m
  have h1 := loop_list w (s_102m_l1 n ⟨w⟩ set) (fun i x s K => bif hasB set i then K (cap s x) else K s) (fun s => some s) (fun k i s => by
   rw [s_102m_l1]
   by_cases hi : i < w.length
   ·rw [ix_at (List.getElem?_eq_getElem hi), Option.bind_some, Option.bind_some, p_145w (by omega) h0 h1, Option.bind_some]
    rfl
   ·have e1 : decide ((i : Int) < ((w.length : Nat) : Int)) = false := decide_eq_false (by omega)
    simp only [e1, cond_false]) (by omega) n 0 ⟨0, 12⟩ (by omega) (by omega)
  rw [show ((0 : Nat) : Int) = 0 from rfl, List.drop_zero] at h1
  rw [h1]
  have key : ∀ (l : List Span) (i : Nat) (s : Span), fc (fun i x s K => bif hasB set i then K (cap s x) else K s) (fun s => some s) i l s = some (capL s (pickF set i l)) := by
   intro l
   induction l with
   | nil => intro i s; rfl
   | cons x r ih =>
    intro i s
    rw [fc, pickF]
    by_cases h : hasB set i = true
    ·rw [h, cond_true, if_pos rfl, ih]; rfl
    ·have h' : hasB set i = false := by simpa using h
     rw [h', cond_false, if_neg (by simp), ih]
  exact key w 0 _
 unfold s_102
 rw [e, Option.bind_some]
 have hc := common_pick set w 0 ⟨0, 12⟩
 have hcm : commonOf (w.map spanP) set = spanP (com w set) := hc
 simp only [hcm, decide_true, cond_true]
theorem p_99 (hn : 100 ≤ n) (w : List Span) (hw : w.length ≤ 6) {set : Int} (h0 : 0 ≤ set) (h1 : set ≤ 63) : s_99 n ⟨w⟩ set = some (decide (com w set).ne) := by
 unfold s_99
 rw [p_102 hn w hw h0 h1]
 rfl
theorem pickF_full : ∀ (w : List Span) (m i : Nat), m < 6 → i + w.length = m → pickF (2 ^ m - 1) i w = w := by
 intro w
 induction w with
 | nil => intro m i _ _; rfl
 | cons s r ih =>
  intro m i hm hi
  simp only [List.length_cons] at hi
  rw [pickF, if_pos (hasB_full m hm i (by omega)), ih m (i + 1) hm (by omega)]
theorem com_full (w : List Span) (hw : w.length < 6) : com w (2 ^ w.length - 1) = comm w := by
 unfold com comm
 rw [pickF_full w w.length 0 hw (by omega)]
theorem wsP_len : (wsP d).length = d.batches.length := by simp [wsP]
theorem p_46 (hn : 100 ≤ n) (hs : Short d) : s_46 n d = some (bif decide (err d true = 0) then (bif decide (comm (wsP d)).ne then (comm (wsP d), 0) else (⟨0, 0⟩, 5)) else (⟨0, 0⟩, err d true)) := by
 unfold s_46
 rw [p_84 hn hs, Option.bind_some]
 by_cases he : err d true = 0
 ·obtain ⟨h1, _, hne⟩ := err_zero he
  have hd := okD_iff.1 h1
  have hbt := hd.btl
  have hl : (wsP d).length ≤ 6 := by rw [wsP_len]; omega
  have hpv := pow_bound (i := (wsP d).length) hl
  simp only [he, decide_true, Bool.not_true, cond_false, cond_true]
  rw [p_98 hd hn hne, Option.bind_some, p_100 n _ hl, Option.bind_some, p_99 hn _ hl (by omega) (by omega), Option.bind_some, Option.bind_some, p_102 hn _ hl (by omega) (by omega), Option.bind_some, com_full _ (by rw [wsP_len]; omega)]
  cases decide (comm (wsP d)).ne <;> rfl
 ·simp only [decide_eq_false he, Bool.not_false, cond_true, cond_false]
end
end Go.Proofs.YtohmhlkdgfcaeaaGreatDoor
namespace Go.Proofs.YtohmhlkdgfcaeaaGreatDoor
open Go Go.RowKit
section
variable {n : Nat} {d : Drum} {tr : Truth}
theorem mem_ne {s : Span} {x : Int} (h : s.mem x) : s.ne := by unfold Span.mem Span.ne at *; omega
end
end Go.Proofs.YtohmhlkdgfcaeaaGreatDoor
namespace Go.Proofs.YtohmhlkdgfcaeaaGreatDoor
open Go Go.RowKit
section
variable {n : Nat} {d : Drum} {v : Nat} {x : Int}
theorem p_62 (hn : 100 ≤ n) (w : List Span) (hw : w.length ≤ 50) : s_62 n w [] 0 = some (comm w) := by
 unfold s_62
 have h1 := loop_list w (s_62_l1 n w [] 0) (fun i x s K => K (cap s x)) (fun s => some s) (fun k i s => by
  rw [s_62_l1]
  by_cases hi : i < w.length
  ·unfold s_62_j4
   simp only [ix_at (List.getElem?_eq_getElem hi), Option.bind_some, p_138, List.length_nil]
   rfl
  ·have e1 : decide ((i : Int) < ((w.length : Nat) : Int)) = false := decide_eq_false (by omega)
   rw [e1, cond_false, cond_false]) (by omega) n 0 ⟨0, 12⟩ (by omega) (by omega)
 rw [show ((0 : Nat) : Int) = 0 from rfl, List.drop_zero] at h1
 rw [h1, fc_fold (fun s x => cap s x) _ _ _ (fun _ _ _ _ _ => rfl)]
 rfl
end
end Go.Proofs.YtohmhlkdgfcaeaaGreatDoor
namespace Go.Proofs.YtohmhlkdgfcaeaaGreatDoor
open Go Go.RowKit
set_option maxRecDepth 4000
attribute [local irreducible] W Ops GS GSG
def s_12_j1 (n : Nat) (v0 : Drum) (v104 : ((List Int) × Int)) (v109 : Bool) : Option (Bool) := bif v109 then ( some (false) ) else ( bif (decide (v104.2 = 0)) then ( (s_63 n v0).bind fun v110 => (s_58 n v104.1 v110).bind fun v111 => bif v111 then ( (s_24 n ).bind fun v112 => some (v112) ) else ( some (false) ) ) else ( some (false) ) )
def s_12 (n : Nat) (v0 : Drum) : Option (Bool) := (s_23 n v0).bind fun v101 => bif (!v101) then ( (s_24 n ).bind fun v102 => some (v102) ) else ( (s_46 n v0).bind fun v103 => (s_61 n v0).bind fun v104 => (s_27 n v0 true).bind fun v105 => bif (!decide (v105 = 0)) then ( bif (decide (v103.2 = v105)) then ( bif (decide (v103.1 = (Span.mk 0 0))) then ( bif (decide (v104.2 = v105)) then (
 bif (decide ((v104.1.length : Int) = 0)) then ( (s_24 n ).bind fun v106 => some (v106) ) else ( some (false) ) ) else ( some (false) ) ) else ( some (false) ) ) else ( some (false) ) ) else ( (s_55 n v0).bind fun v107 => (s_62 n v107 [] 0).bind fun v108 => bif (decide (v108.high < v108.low)) then ( bif (!decide (v103.2 = 5)) then ( s_12_j1 n v0 v104 true ) else (
 bif (!decide (v103.1 = (Span.mk 0 0))) then ( s_12_j1 n v0 v104 true ) else ( bif (decide (v108.low ≤ v108.high)) then ( bif (!decide (v103.2 = 0)) then ( s_12_j1 n v0 v104 true ) else ( s_12_j1 n v0 v104 (!decide (v103.1 = v108)) ) ) else ( s_12_j1 n v0 v104 false ) ) ) ) else ( bif (decide (v108.low ≤ v108.high)) then ( bif (!decide (v103.2 = 0)) then ( s_12_j1 n v0 v104 true ) else (
 s_12_j1 n v0 v104 (!decide (v103.1 = v108)) ) ) else ( s_12_j1 n v0 v104 false ) ) ) )
theorem c_12 (n : Nat) (v0 : Drum) {r : (Bool)} (h : s_12 n v0 = some r) :
  Fun Tryz.prog 12 [.agg (cDrum v0)] (.ret (.b r)) := by
 unfold s_12 at h
 refine enterW 92 Tryz.func12 q q q ?_
 intro w0 F0
 change W _ _ (Ev [(0, .pv (.agg (cDrum v0)))]) _
 refine W.seq<|W.region<|ob (g_box q q q q q) q q<|va q q q q q<|on0<|Sq.n<|W.seq<|W.seq<|W.region<|ov (g_loadA q q q q q ag_27 sz_27 q q) q ?_
 obtain ⟨v101, e101, h⟩ := bind_some h
 refine ov (g_call q q q ca_23 q (c_23 _ _ e101)) q<|ov (g_not q q q q) q<|on0<|Sq.n<|W.cond (b := (!v101)) q (fun hc => ?_) (fun hc => ?_)
 ·have h := bif_t h hc
  refine W.seq<|W.region ?_
  obtain ⟨v102, e102, h⟩ := bind_some h
  refine ov (g_call q q q ca_24 q (c_24 _  e102)) q<|va q q q q q<|on0<|Sq.n<|W.ret<|Sq.r ?_
  obtain rfl := Option.some.inj h
  exact Fin.r q (.cons (.tmp _ _ q) .nil) q
 ·have h := bif_f h hc
  refine W.skip<|Sq.n<|W.seq<|W.region<|ov (g_loadA q q q q q ag_27 sz_27 q q) q ?_
  obtain ⟨v103, e103, h⟩ := bind_some h
  refine ov (g_call q q q ca_46 q (c_46 _ _ e103)) q<|vm q q q q q<|ov (g_extract q q q q q) q<|ov (g_extract q q q q q) q<|ob (g_alloc q q q zr_57) q q<|Ops.step q (s_storeB q q q q q q sz_57 q q)<|va q q q q q<|on0<|Sq.n<|W.seq<|W.region<|ov (g_loadA q q q q q ag_27 sz_27 q q) q ?_
  obtain ⟨v104, e104, h⟩ := bind_some h
  refine ov (g_call q q q ca_61 q (c_61 _ _ e104)) q<|vm q q q q q<|ov (g_extract q q q q q) q<|ov (g_extract q q q q q) q<|va q q q q q<|va q q q q q<|on0<|Sq.n<|W.seq<|W.seq<|W.region<|ov (g_loadA q q q q q ag_27 sz_27 q q) q ?_
  obtain ⟨v105, e105, h⟩ := bind_some h
  refine ov (g_call q q q ca_27 q (c_27 _ _ _ e105)) q<|va q q q q q<|on0<|Sq.n<|W.seq<|W.region<|vm q q q q q<|ov (g_neq q q q q q) q<|on0<|Sq.n<|W.cond (b := (!decide (v105 = 0))) q (fun hc => ?_) (fun hc => ?_)
  ·have h := bif_t h hc
   refine W.seq<|W.region<|vm q q q q q<|vm q q q q q<|ov (g_eql q q q q q) q<|vm q q q q q<|Ops.split 30 q (fun hb => ?_) (fun hb => ?_)
   ·have h := bif_t h hb
    refine on q q q<|ov (g_loadA q q q q q ag_57 sz_57 q q) q<|on q q q<|ov (g_build (cs := (cSpan (Span.mk 0 0))) q q q zr_57 st_57 q q) q<|on q q q<|ov (g_eql_57 (a := v103.1) (b := (Span.mk 0 0)) q q q q q) q<|vt q q q q q q<|vm q q q q q<|Ops.split 35 q (fun hb => ?_) (fun hb => ?_)
    ·have h := bif_t h hb
     refine on q q q<|vm q q q q q<|on q q q<|vm q q q q q<|on q q q<|ov (g_eql q q q q q) q<|vt q q q q q q<|vm q q q q q<|Ops.split 40 q (fun hb => ?_) (fun hb => ?_)
     ·have h := bif_t h hb
      refine on q q q<|vm q q q q q<|on q q q<|ov (g_lenM (l := v104.1) (enc := eI) q ul_23 q q q) q<|on q q q<|ov (g_eql q q q q q) q<|vt q q q q q q<|vm q q q q q<|Ops.split 45 q (fun hb => ?_) (fun hb => ?_)
      ·have h := bif_t h hb
       refine on q q q ?_
       obtain ⟨v106, e106, h⟩ := bind_some h
       refine ov (g_call q q q ca_24 q (c_24 _  e106)) q<|vt q q q q q q<|va q q q q q<|on0<|Sq.n<|W.ret<|Sq.r ?_
       obtain rfl := Option.some.inj h
       exact Fin.r q (.cons (.tmp _ _ q) .nil) q
      ·have h := bif_f h hb
       refine o2 q q q q q q<|vf q q q q q q<|va q q q q q<|on0<|Sq.n<|W.ret<|Sq.r ?_
       obtain rfl := Option.some.inj h
       exact Fin.r q (.cons (.tmp _ _ q) .nil) q
     ·have h := bif_f h hb
      refine o2 q q q q q q<|o2 q q q q q q<|o2 q q q q q q<|vf q q q q q q<|vm q q q q q<|o2 q q q q q q<|vf q q q q q q<|va q q q q q<|on0<|Sq.n<|W.ret<|Sq.r ?_
      obtain rfl := Option.some.inj h
      exact Fin.r q (.cons (.tmp _ _ q) .nil) q
    ·have h := bif_f h hb
     refine o2 q q q q q q<|o2 q q q q q q<|o2 q q q q q q<|vf q q q q q q<|vm q q q q q<|o2 q q q q q q<|o2 q q q q q q<|o2 q q q q q q<|vf q q q q q q<|vm q q q q q<|o2 q q q q q q<|vf q q q q q q<|va q q q q q<|on0<|Sq.n<|W.ret<|Sq.r ?_
     obtain rfl := Option.some.inj h
     exact Fin.r q (.cons (.tmp _ _ q) .nil) q
   ·have h := bif_f h hb
    refine o2 q q q q q q<|o2 q q q q q q<|o2 q q q q q q<|vf q q q q q q<|vm q q q q q<|o2 q q q q q q<|o2 q q q q q q<|o2 q q q q q q<|vf q q q q q q<|vm q q q q q<|o2 q q q q q q<|o2 q q q q q q<|o2 q q q q q q<|vf q q q q q q<|vm q q q q q<|o2 q q q q q q<|vf q q q q q q<|va q q q q q<|on0<|Sq.n<|W.ret<|Sq.r ?_
    obtain rfl := Option.some.inj h
    exact Fin.r q (.cons (.tmp _ _ q) .nil) q
  ·have h := bif_f h hc
   refine W.skip<|Sq.n<|W.seq<|W.region<|ov (g_loadA q q q q q ag_27 sz_27 q q) q ?_
   obtain ⟨v107, e107, h⟩ := bind_some h
   refine ov (g_call q q q ca_55 q (c_55 _ _ e107)) q ?_
   obtain ⟨v108, e108, h⟩ := bind_some h
   refine ov (g_call q q q ca_62 q (Fun.soft (c_62 _ _ _ _ e108) q)) q<|ob (g_alloc q q q zr_57) q q<|Ops.step q (s_storeB q q q q q q sz_57 q q)<|on0<|Sq.n<|W.seq<|W.seqJ (σ := Bool) (fun s => (⟨[(1, .box 1 0), (5, .pv (.sl (List.map eI v104.1))), (6, .pv (.i v104.2)), (80, .pv (.b s))], [(1, 27, [.pv (.sl (List.map cAcid v0.acids)), .pv (.i v0.known), .pv (.i v0.hours), .pv (.sl (List.map eI v0.adds)), .pv (.sl (List.map cStrip v0.strips)), .pv (.sl (List.map cBatch v0.batches))])], []⟩ : Env)) (fun s => s_12_j1 n v0 v104 s = some r) ?_ ?_
   ·refine W.region<|ov (g_fld q q q q fl_57_0) q<|ov (g_load1 q q q q q q ag_3) q<|ov (g_fld q q q q fl_57_1) q<|ov (g_load1 q q q q q q ag_3) q<|ov (g_gtr q q q q q) q<|vm q q q q q<|Ops.split 56 q (fun hb => ?_) (fun hb => ?_)
    ·have h := bif_t h hb
     refine on q q q<|vm q q q q q<|on q q q<|ov (g_neq q q q q q) q<|on q q q<|vm q q q q q<|Ops.split 59 q (fun hb => ?_) (fun hb => ?_)
     ·have h := bif_t h hb
      refine o2 q q q q q q<|o2 q q q q q q<|o2 q q q q q q<|on q q q<|vt q q q q q q<|vt q q q q q q<|vm q q q q q<|o2 q q q q q q<|o2 q q q q q q<|o2 q q q q q q<|o2 q q q q q q<|o2 q q q q q q<|o2 q q q q q q<|o2 q q q q q q<|o2 q q q q q q<|o2 q q q q q q<|o2 q q q q q q<|o2 q q q q q q<|o2 q q q q q q<|o2 q q q q q q<|o2 q q q q q q<|vt q q q q q q<|on0<|Sq.n<|⟨true, h, has_mk ⟨q, q, q, q, trivial⟩ ⟨q, trivial⟩ trivial q⟩
     ·have h := bif_f h hb
      refine on q q q<|ov (g_loadA q q q q q ag_57 sz_57 q q) q<|on q q q<|ov (g_build (cs := (cSpan (Span.mk 0 0))) q q q zr_57 st_57 q q) q<|on q q q<|ov (g_neq_57 (a := v103.1) (b := (Span.mk 0 0)) q q q q q) q<|on q q q<|vf q q q q q q<|vt q q q q q q<|vm q q q q q<|Ops.split 65 q (fun hb => ?_) (fun hb => ?_)
      ·have h := bif_t h hb
       refine o2 q q q q q q<|o2 q q q q q q<|o2 q q q q q q<|o2 q q q q q q<|o2 q q q q q q<|o2 q q q q q q<|o2 q q q q q q<|o2 q q q q q q<|o2 q q q q q q<|o2 q q q q q q<|o2 q q q q q q<|o2 q q q q q q<|o2 q q q q q q<|o2 q q q q q q<|vt q q q q q q<|on0<|Sq.n<|⟨true, h, has_mk ⟨q, q, q, q, trivial⟩ ⟨q, trivial⟩ trivial q⟩
      ·have h := bif_f h hb
       refine on q q q<|ov (g_fld q q q q fl_57_0) q<|on q q q<|ov (g_load1 q q q q q q ag_3) q<|on q q q<|ov (g_fld q q q q fl_57_1) q<|on q q q<|ov (g_load1 q q q q q q ag_3) q<|on q q q<|ov (g_leq q q q q q) q<|on q q q<|vm q q q q q<|Ops.split 71 q (fun hb => ?_) (fun hb => ?_)
       ·have h := bif_t h hb
        refine on q q q<|vm q q q q q<|on q q q<|ov (g_neq q q q q q) q<|on q q q<|vm q q q q q<|Ops.split 74 q (fun hb => ?_) (fun hb => ?_)
        ·have h := bif_t h hb
         refine o2 q q q q q q<|o2 q q q q q q<|o2 q q q q q q<|on q q q<|vt q q q q q q<|on q q q<|vt q q q q q q<|vf q q q q q q<|on0<|Sq.n<|⟨true, h, has_mk ⟨q, q, q, q, trivial⟩ ⟨q, trivial⟩ trivial q⟩
        ·have h := bif_f h hb
         refine on q q q<|ov (g_loadA q q q q q ag_57 sz_57 q q) q<|on q q q<|ov (g_loadA q q q q q ag_57 sz_57 q q) q<|on q q q<|ov (g_neq_57 (a := v103.1) (b := v108) q q q q q) q<|on q q q<|vf q q q q q q<|on q q q<|vt q q q q q q<|vf q q q q q q<|on0<|Sq.n<|⟨(!decide (v103.1 = v108)), h, has_mk ⟨q, q, q, q, trivial⟩ ⟨q, trivial⟩ trivial q⟩
       ·have h := bif_f h hb
        refine o2 q q q q q q<|o2 q q q q q q<|o2 q q q q q q<|o2 q q q q q q<|o2 q q q q q q<|o2 q q q q q q<|o2 q q q q q q<|on q q q<|vf q q q q q q<|vf q q q q q q<|on0<|Sq.n<|⟨false, h, has_mk ⟨q, q, q, q, trivial⟩ ⟨q, trivial⟩ trivial q⟩
    ·have h := bif_f h hb
     refine o2 q q q q q q<|o2 q q q q q q<|o2 q q q q q q<|o2 q q q q q q<|o2 q q q q q q<|o2 q q q q q q<|o2 q q q q q q<|vf q q q q q q<|vm q q q q q<|on q q q<|ov (g_fld q q q q fl_57_0) q<|on q q q<|ov (g_load1 q q q q q q ag_3) q<|on q q q<|ov (g_fld q q q q fl_57_1) q<|on q q q<|ov (g_load1 q q q q q q ag_3) q<|on q q q<|ov (g_leq q q q q q) q<|on q q q<|vm q q q q q<|Ops.split 71 q (fun hb => ?_) (fun hb => ?_)
     ·have h := bif_t h hb
      refine on q q q<|vm q q q q q<|on q q q<|ov (g_neq q q q q q) q<|on q q q<|vm q q q q q<|Ops.split 74 q (fun hb => ?_) (fun hb => ?_)
      ·have h := bif_t h hb
       refine o2 q q q q q q<|o2 q q q q q q<|o2 q q q q q q<|on q q q<|vt q q q q q q<|on q q q<|vt q q q q q q<|vf q q q q q q<|on0<|Sq.n<|⟨true, h, has_mk ⟨q, q, q, q, trivial⟩ ⟨q, trivial⟩ trivial q⟩
      ·have h := bif_f h hb
       refine on q q q<|ov (g_loadA q q q q q ag_57 sz_57 q q) q<|on q q q<|ov (g_loadA q q q q q ag_57 sz_57 q q) q<|on q q q<|ov (g_neq_57 (a := v103.1) (b := v108) q q q q q) q<|on q q q<|vf q q q q q q<|on q q q<|vt q q q q q q<|vf q q q q q q<|on0<|Sq.n<|⟨(!decide (v103.1 = v108)), h, has_mk ⟨q, q, q, q, trivial⟩ ⟨q, trivial⟩ trivial q⟩
     ·have h := bif_f h hb
      refine o2 q q q q q q<|o2 q q q q q q<|o2 q q q q q q<|o2 q q q q q q<|o2 q q q q q q<|o2 q q q q q q<|o2 q q q q q q<|on q q q<|vf q q q q q q<|vf q q q q q q<|on0<|Sq.n<|⟨false, h, has_mk ⟨q, q, q, q, trivial⟩ ⟨q, trivial⟩ trivial q⟩
   ·rintro v109 h
    change s_12_j1 n v0 v104 v109 = some r at h
    unfold s_12_j1 at h
    change W _ _ (⟨[(1, .box 1 0), (5, .pv (.sl (List.map eI v104.1))), (6, .pv (.i v104.2)), (80, .pv (.b v109))], [(1, 27, [.pv (.sl (List.map cAcid v0.acids)), .pv (.i v0.known), .pv (.i v0.hours), .pv (.sl (List.map eI v0.adds)), .pv (.sl (List.map cStrip v0.strips)), .pv (.sl (List.map cBatch v0.batches))])], []⟩ : Env) _
    refine W.cond (b := v109) q (fun hc => ?_) (fun hc => ?_)
    ·have h := bif_t h hc
     refine W.seq<|W.region<|va q q q q q<|on0<|Sq.n<|W.ret<|Sq.r ?_
     obtain rfl := Option.some.inj h
     exact Fin.r q (.cons (.tmp _ _ q) .nil) q
    ·have h := bif_f h hc
     refine W.skip<|Sq.n<|W.seq<|W.region<|vm q q q q q<|ov (g_eql q q q q q) q<|vm q q q q q<|Ops.split 83 q (fun hb => ?_) (fun hb => ?_)
     ·have h := bif_t h hb
      refine on q q q<|vm q q q q q<|on q q q<|ov (g_loadA q q q q q ag_27 sz_27 q q) q<|on q q q ?_
      obtain ⟨v110, e110, h⟩ := bind_some h
      refine ov (g_call q q q ca_63 q (c_63 _ _ e110)) q<|on q q q ?_
      obtain ⟨v111, e111, h⟩ := bind_some h
      refine ov (g_call q q q ca_58 q (c_58 _ _ _ e111)) q<|vt q q q q q q<|vm q q q q q<|Ops.split 89 q (fun hb => ?_) (fun hb => ?_)
      ·have h := bif_t h hb
       refine on q q q ?_
       obtain ⟨v112, e112, h⟩ := bind_some h
       refine ov (g_call q q q ca_24 q (c_24 _  e112)) q<|vt q q q q q q<|va q q q q q<|on0<|Sq.n<|W.ret ?_
       obtain rfl := Option.some.inj h
       exact Fin.r q (.cons (.tmp _ _ q) .nil) q
      ·have h := bif_f h hb
       refine o2 q q q q q q<|vf q q q q q q<|va q q q q q<|on0<|Sq.n<|W.ret ?_
       obtain rfl := Option.some.inj h
       exact Fin.r q (.cons (.tmp _ _ q) .nil) q
     ·have h := bif_f h hb
      refine o2 q q q q q q<|o2 q q q q q q<|o2 q q q q q q<|o2 q q q q q q<|vf q q q q q q<|vm q q q q q<|o2 q q q q q q<|vf q q q q q q<|va q q q q q<|on0<|Sq.n<|W.ret ?_
      obtain rfl := Option.some.inj h
      exact Fin.r q (.cons (.tmp _ _ q) .nil) q
end Go.Proofs.YtohmhlkdgfcaeaaGreatDoor
namespace Go.Proofs.YtohmhlkdgfcaeaaGreatDoor
open Go Go.RowKit
section
variable {d : Drum}
theorem win_eq {b : Batch} (h : (winP d b).ne) : winR d b = winP d b := by
 unfold winR winP at *
 by_cases h1 : firstH (smP d b) (hrs d + 1) 0 < 0
 ·rw [decide_eq_true h1, cond_true] at h
  unfold Span.ne at h
  simp only at h
  omega
 ·rw [decide_eq_false h1, cond_false] at h ⊢
  unfold Span.ne at h
  simp only at h
  rw [decide_eq_false (show ¬ lastH (thP d b) (hrs d + 1) < 0 by omega), decide_eq_false (show ¬ lastH (thP d b) (hrs d + 1) < firstH (smP d b) (hrs d + 1) 0 by omega)]
  rfl
theorem win_ne {b : Batch} : (winR d b).ne ↔ (winP d b).ne := by
 constructor
 ·intro h
  unfold winR winP at *
  by_cases h1 : firstH (smP d b) (hrs d + 1) 0 < 0
  ·rw [decide_eq_true h1, Bool.true_or, cond_true] at h
   unfold Span.ne at h
   simp only at h
   omega
  ·rw [decide_eq_false h1, Bool.false_or] at h
   rw [decide_eq_false h1, cond_false]
   unfold Span.ne
   simp only
   by_cases h2 : lastH (thP d b) (hrs d + 1) < firstH (smP d b) (hrs d + 1) 0
   ·rw [decide_eq_true h2, Bool.or_true, cond_true] at h
    unfold Span.ne at h
    simp only at h
    omega
   ·omega
 ·intro h
  rw [win_eq h]
  exact h
theorem capL_mem_ne {l : List Span} {s : Span} (h : (capL s l).ne) : ∀ t ∈ l, t.ne := fun t ht => mem_ne ((mem_capL.1 (ne_mem h).1).2 t ht)
theorem map_win_eq {l : List Batch} {s : Span} (h : (capL s (l.map (winP d))).ne) : l.map (winR d) = l.map (winP d) :=
 List.map_congr_left (fun b hb => win_eq (capL_mem_ne h _ (List.mem_map_of_mem hb)))
theorem map_win_ne {l : List Batch} {s : Span} : (capL s (l.map (winR d))).ne ↔ (capL s (l.map (winP d))).ne := by
 constructor
 ·intro h
  have e : l.map (winR d) = l.map (winP d) := List.map_congr_left (fun b hb => win_eq (win_ne.1 (capL_mem_ne h _ (List.mem_map_of_mem hb))))
  rw [← e]
  exact h
 ·intro h
  rw [map_win_eq h]
  exact h
end
section
variable {α : Type} (lt : α → α → Bool)
def least : α → List α → α
 | x, [] => x
 | x, y :: r => least (bif lt y x then y else x) r
theorem least_mem : ∀ (l : List α) (x : α), least lt x l = x ∨ least lt x l ∈ l := by
 intro l
 induction l with
 | nil => intro x; exact .inl rfl
 | cons y r ih =>
  intro x
  rw [least]
  cases lt y x
  ·rw [cond_false]
   rcases ih x with h | h
   ·exact .inl h
   ·exact .inr (List.mem_cons_of_mem _ h)
  ·rw [cond_true]
   rcases ih y with h | h
   ·exact .inr (by rw [h]; exact List.mem_cons_self)
   ·exact .inr (List.mem_cons_of_mem _ h)
theorem least_le (htr : ∀ a b c, lt a b = true → lt b c = true → lt a c = true) (htot : ∀ a b, a ≠ b → lt a b = true ∨ lt b a = true) : ∀ (l : List α) (x : α), ∀ y, (y = x ∨ y ∈ l) → y = least lt x l ∨ lt (least lt x l) y = true := by
 intro l
 induction l with
 | nil =>
  intro x y hy
  rcases hy with rfl | hy
  ·exact .inl rfl
  ·cases hy
 | cons z r ih =>
  intro x y hy
  rw [least]
  have hb : ∀ w, (w = x ∨ w = z) → w = (bif lt z x then z else x) ∨ lt (bif lt z x then z else x) w = true := by
   intro w hw
   rcases Bool.eq_false_or_eq_true (lt z x) with hc | hc
   ·rw [hc, cond_true]
    rcases hw with rfl | rfl
    ·exact .inr hc
    ·exact .inl rfl
   ·rw [hc, cond_false]
    rcases hw with rfl | rfl
    ·exact .inl rfl
    ·by_cases e : w = x
     ·exact .inl e
     ·rcases htot w x e with h | h
      ·rw [hc] at h; cases h
      ·exact .inr h
  have key : ∀ w, (w = (bif lt z x then z else x) ∨ lt (bif lt z x then z else x) w = true) → w = least lt (bif lt z x then z else x) r ∨ lt (least lt (bif lt z x then z else x) r) w = true := by
   intro w hw
   have h1 := ih (bif lt z x then z else x) _ (.inl rfl)
   rcases hw with rfl | hw
   ·exact h1
   ·rcases h1 with h1 | h1
    ·rw [← h1]; exact .inr hw
    ·exact .inr (htr _ _ _ h1 hw)
  rcases hy with rfl | hy
  ·exact key _ (hb _ (.inl rfl))
  ·rcases List.mem_cons.1 hy with rfl | hy
   ·exact key _ (hb _ (.inr rfl))
   ·exact ih _ y (.inr hy)
theorem least_head (htr : ∀ a b c, lt a b = true → lt b c = true → lt a c = true) (hir : ∀ a, lt a a = false) (htot : ∀ a b, a ≠ b → lt a b = true ∨ lt b a = true) {x y : α} {l r : List α} (hmem : ∀ z, (z = x ∨ z ∈ l) ↔ (z = y ∨ z ∈ r)) (hs : ∀ z ∈ r, lt y z = true) : least lt x l = y := by
 have h1 := least_le lt htr htot l x y ((hmem y).2 (.inl rfl))
 rcases h1 with h1 | h1
 ·exact h1.symm
 ·exfalso
  have h2 : least lt x l = x ∨ least lt x l ∈ l := least_mem lt l x
  rcases (hmem _).1 h2 with h3 | h3
  ·rw [h3, hir] at h1; cases h1
  ·have := htr _ _ _ (hs _ h3) h1
   rw [hir] at this
   cases this
end
end Go.Proofs.YtohmhlkdgfcaeaaGreatDoor
namespace Go.Proofs.YtohmhlkdgfcaeaaGreatDoor
open Go Go.RowKit
def lexC : List Int → List Int → Int
 | [], [] => 0
 | [], _ :: _ => -1
 | _ :: _, [] => 1
 | x :: r, y :: s => bif decide (x < y) then -1 else bif decide (y < x) then 1 else lexC r s
theorem lexC_refl : ∀ l : List Int, lexC l l = 0 := by
 intro l
 induction l with
 | nil => rfl
 | cons x r ih => rw [lexC, decide_eq_false (by omega), cond_false, cond_false, ih]
theorem lexC_three : ∀ l m : List Int, (lexC l m = -1 ∧ lexC m l = 1) ∨ (lexC l m = 1 ∧ lexC m l = -1) ∨ (l = m ∧ lexC l m = 0) := by
 intro l
 induction l with
 | nil =>
  intro m
  cases m with
  | nil => exact .inr (.inr ⟨rfl, rfl⟩)
  | cons y s => exact .inl ⟨rfl, rfl⟩
 | cons x r ih =>
  intro m
  cases m with
  | nil => exact .inr (.inl ⟨rfl, rfl⟩)
  | cons y s =>
   rw [lexC, lexC]
   by_cases h1 : x < y
   ·rw [decide_eq_true h1, decide_eq_false (show ¬ y < x by omega)]
    exact .inl ⟨rfl, rfl⟩
   ·by_cases h2 : y < x
    ·rw [decide_eq_false h1, decide_eq_true h2]
     exact .inr (.inl ⟨rfl, rfl⟩)
    ·rw [decide_eq_false h1, decide_eq_false h2]
     simp only [cond_false]
     have e : x = y := by omega
     subst e
     rcases ih s with h | h | ⟨h, h3⟩
     ·exact .inl h
     ·exact .inr (.inl h)
     ·subst h; exact .inr (.inr ⟨rfl, h3⟩)
theorem lexC_trans : ∀ l m q : List Int, lexC l m = -1 → lexC m q = -1 → lexC l q = -1 := by
 intro l
 induction l with
 | nil =>
  intro m q h1 h2
  cases m with
  | nil => cases h1
  | cons y s =>
   cases q with
   | nil => cases h2
   | cons z t => rfl
 | cons x r ih =>
  intro m q h1 h2
  cases m with
  | nil => cases h1
  | cons y s =>
   cases q with
   | nil => cases h2
   | cons z t =>
    rw [lexC] at h1 h2 ⊢
    by_cases a1 : x < y
    ·by_cases a2 : z < y
     ·rw [decide_eq_false (show ¬ y < z by omega), decide_eq_true a2] at h2
      cases h2
     ·rw [decide_eq_true (show x < z by omega), cond_true]
    ·rw [decide_eq_false a1, cond_false] at h1
     by_cases a3 : y < x
     ·rw [decide_eq_true a3] at h1; cases h1
     ·rw [decide_eq_false a3, cond_false] at h1
      have e : x = y := by omega
      subst e
      by_cases a4 : x < z
      ·rw [decide_eq_true a4, cond_true]
      ·rw [decide_eq_false a4, cond_false] at h2 ⊢
       by_cases a5 : z < x
       ·rw [decide_eq_true a5] at h2; cases h2
       ·rw [decide_eq_false a5, cond_false] at h2 ⊢
        exact ih s t h1 h2
section
variable {n : Nat}
theorem p_129 (hn : 100 ≤ n) (lt : List Int → List Int → Bool) (f : List Int → List Int → Option Bool) (x : List Int) (l : List (List Int)) (hl : l.length + 1 < n) (hl2 : l.length ≤ 10000) (hf : ∀ y z, (y = x ∨ y ∈ l) → (z = x ∨ z ∈ l) → f y z = some (lt y z)) : s_129 n (x :: l) f = some (least lt x l, true) := by
 unfold s_129
 have h1 := loop_list (x :: l) (fun k i s => s_129_l1 f (x :: l) k s i) (fun i y s K => bif decide ((i : Int) = 0) then K y else (f y s).bind fun b => bif b then K y else K s) (fun s => some (s, true)) (fun k i s => by
  simp only
  rw [s_129_l1]
  by_cases hi : i < (x :: l).length
  ·rw [ix_at (List.getElem?_eq_getElem hi)]
   simp only [Option.bind_some, s_129_j4, cond_true]
   rw [show decide ((0 : Int) < (((x :: l).length : Nat) : Int)) = true from decide_eq_true (by simp)]
  ·have e1 : decide ((i : Int) < (((x :: l).length : Nat) : Int)) = false := decide_eq_false (by omega)
   rw [e1, cond_false, cond_false, show decide ((0 : Int) < (((x :: l).length : Nat) : Int)) = true from decide_eq_true (by simp)]) (by simp; omega) n 0 [] (by simp; omega) (by omega)
 rw [show ((0 : Nat) : Int) = 0 from rfl, List.drop_zero] at h1
 refine h1.trans ?_
 rw [fc, show decide (((0 : Nat) : Int) = 0) = true from rfl, cond_true]
 have key : ∀ (r : List (List Int)) (i : Nat) (s : List Int), 0 < i → (∀ y ∈ r, y ∈ l) → (s = x ∨ s ∈ l) → fc (fun i y s K => bif decide ((i : Int) = 0) then K y else (f y s).bind fun b => bif b then K y else K s) (fun s => some (s, true)) i r s = some (least lt s r, true) := by
  intro r
  induction r with
  | nil => intro i s _ _ _; rfl
  | cons y r ih =>
   intro i s hi hr hs
   have hy := hr y List.mem_cons_self
   rw [fc, decide_eq_false (by omega), cond_false, hf y s (.inr hy) hs, Option.bind_some, least]
   cases lt y s
   ·exact ih (i + 1) s (by omega) (fun z hz => hr z (List.mem_cons_of_mem _ hz)) hs
   ·exact ih (i + 1) y (by omega) (fun z hz => hr z (List.mem_cons_of_mem _ hz)) (.inr hy)
 exact key l 1 x (by omega) (fun y hy => hy) (.inl rfl)
theorem p_169 (x y : Int) : s_169 n x y = some (bif decide (x < y) then -1 else bif decide (y < x) then 1 else 0) := by
 unfold s_169
 have e : ∀ z : Int, s_186 n z = some false := fun z => by unfold s_186; simp
 rw [e, e]
 simp only [Option.bind_some, cond_false]
 cases decide (x < y) <;> cases decide (y < x) <;> rfl
theorem p_133 (hn : 100 ≤ n) (l m : List Int) (hl : l.length ≤ 50) : s_133 n l m = some (lexC l m) := by
 unfold s_133
 have h1 := loop_list l (fun k i (_ : Unit) => s_133_l1 n l m k i) (fun i x s K => bif decide (((m.length : Nat) : Int) ≤ (i : Int)) then some 1 else (ix m (i : Int)).bind fun y => bif decide (x < y) then some (-1) else bif decide (y < x) then some 1 else K s) (fun _ => bif decide (((l.length : Nat) : Int) < ((m.length : Nat) : Int)) then some (-1) else some 0) (fun k i s => by
  simp only
  rw [s_133_l1]
  by_cases hi : i < l.length
  ·rw [ix_at (List.getElem?_eq_getElem hi)]
   simp only [Option.bind_some, p_169]
   congr 2
   congr 1
   funext y
   by_cases h1 : l[i] < y
   ·rw [decide_eq_true h1]; rfl
   ·rw [decide_eq_false h1]
    by_cases h2 : y < l[i]
    ·rw [decide_eq_true h2]; rfl
    ·rw [decide_eq_false h2]; rfl
  ·have e1 : decide ((i : Int) < ((l.length : Nat) : Int)) = false := decide_eq_false (by omega)
   rw [e1, cond_false, cond_false]) (by omega) n 0 () (by omega) (by omega)
 rw [show ((0 : Nat) : Int) = 0 from rfl, List.drop_zero] at h1
 refine h1.trans ?_
 have key : ∀ (r : List Int) (i : Nat), l.drop i = r → i ≤ l.length → i ≤ m.length → fc (σ := Unit) (fun i x s K => bif decide (((m.length : Nat) : Int) ≤ (i : Int)) then some 1 else (ix m (i : Int)).bind fun y => bif decide (x < y) then some (-1) else bif decide (y < x) then some 1 else K s) (fun _ => bif decide (((l.length : Nat) : Int) < ((m.length : Nat) : Int)) then some (-1) else some 0) i r () = some (lexC r (m.drop i)) := by
  intro r
  induction r with
  | nil =>
   intro i hi h2 h3
   have hil : l.length ≤ i := List.drop_eq_nil_iff.1 hi
   rw [fc]
   by_cases h : l.length < m.length
   ·rw [decide_eq_true (by omega), cond_true, List.drop_eq_getElem_cons (show i < m.length by omega)]
    rfl
   ·rw [decide_eq_false (by omega), cond_false, List.drop_eq_nil_of_le (by omega)]
    rfl
  | cons x r ih =>
   intro i hi h2 h3
   have hil : i < l.length := by
    rcases Nat.lt_or_ge i l.length with h | h
    ·exact h
    ·rw [List.drop_eq_nil_of_le h] at hi; cases hi
   have hr : l.drop (i + 1) = r := by
    rw [List.drop_eq_getElem_cons hil] at hi
    cases hi; rfl
   rw [fc]
   by_cases h : i < m.length
   ·rw [decide_eq_false (by omega), cond_false, ix_at (List.getElem?_eq_getElem h), Option.bind_some, List.drop_eq_getElem_cons h, lexC, ih (i + 1) hr (by omega) (by omega)]
    cases decide (x < m[i]) <;> cases decide (m[i] < x) <;> rfl
   ·rw [decide_eq_true (by omega), cond_true, List.drop_eq_nil_of_le (by omega)]
    rfl
 exact key l 0 rfl (by omega) (by omega)
def ltN (a b : List Int) : Bool := decide (a.length < b.length) || (decide (a.length = b.length) && decide (lexC a b = -1))
theorem p_137 (hn : 100 ≤ n) (a b : List Int) (hl : a.length ≤ 50) : s_137 n a b = some (ltN a b) := by
 unfold s_137 ltN
 rw [p_133 hn a b hl, Option.bind_some]
 have e : decide (lexC a b < 0) = decide (lexC a b = -1) := by
  rw [decide_eq_decide]
  rcases lexC_three a b with h | h | h <;> omega
 rw [e]
 by_cases h1 : a.length < b.length
 ·rw [decide_eq_true h1, decide_eq_true (show ((a.length : Nat) : Int) < ((b.length : Nat) : Int) by omega)]; rfl
 ·rw [decide_eq_false h1, decide_eq_false (show ¬ ((a.length : Nat) : Int) < ((b.length : Nat) : Int) by omega)]
  by_cases h2 : a.length = b.length
  ·rw [decide_eq_true h2, decide_eq_true (show ((a.length : Nat) : Int) = ((b.length : Nat) : Int) by omega)]; rfl
  ·rw [decide_eq_false h2, decide_eq_false (show ¬ ((a.length : Nat) : Int) = ((b.length : Nat) : Int) by omega)]; rfl
end
end Go.Proofs.YtohmhlkdgfcaeaaGreatDoor
namespace Go.Proofs.YtohmhlkdgfcaeaaGreatDoor
open Go Go.RowKit
theorem ltN_irr (a : List Int) : ltN a a = false := by
 unfold ltN
 rw [lexC_refl]
 simp
theorem ltN_tot (a b : List Int) (h : a ≠ b) : ltN a b = true ∨ ltN b a = true := by
 unfold ltN
 simp only [Bool.or_eq_true, Bool.and_eq_true, decide_eq_true_eq]
 rcases Nat.lt_trichotomy a.length b.length with h1 | h1 | h1
 ·exact .inl (.inl h1)
 ·rcases lexC_three a b with h2 | h2 | h2
  ·exact .inl (.inr ⟨h1, h2.1⟩)
  ·exact .inr (.inr ⟨h1.symm, h2.2⟩)
  ·exact absurd h2.1 h
 ·exact .inr (.inl h1)
theorem ltN_trans (a b c : List Int) (h : ltN a b = true) (h' : ltN b c = true) : ltN a c = true := by
 unfold ltN at *
 simp only [Bool.or_eq_true, Bool.and_eq_true, decide_eq_true_eq] at *
 rcases h with h | ⟨h, h2⟩
 ·rcases h' with h' | ⟨h', _⟩
  ·exact .inl (by omega)
  ·exact .inl (by omega)
 ·rcases h' with h' | ⟨h', h3⟩
  ·exact .inl (by omega)
  ·exact .inr ⟨by omega, lexC_trans a b c h2 h3⟩
def listsOf (m k : Nat) : List (List Int) := (s_135 1000 0 (m : Int) (k : Int)).getD []
theorem lists_ok : ((List.range 6).all fun m => (List.range (m + 1)).all fun k => (s_135 1000 0 (m : Int) (k : Int)).isSome) = true := by kernel_rfl
theorem p_135 {m k : Nat} (hm : m < 6) (hk : k ≤ m) : s_135 1000 0 (m : Int) (k : Int) = some (listsOf m k) := by
 have h := List.all_eq_true.1 (List.all_eq_true.1 lists_ok m (List.mem_range.2 hm)) k (List.mem_range.2 (by omega))
 obtain ⟨l, hl⟩ := Option.isSome_iff_exists.1 h
 unfold listsOf
 rw [hl]
 rfl
def allLists (m : Nat) : List (List Int) := (List.range (m + 1)).flatMap (listsOf m)
def allSets (m : Nat) : List (List Int) := (List.range (2 ^ m)).map fun (s : Nat) => (s_131 1000 (s : Int)).getD []
def sortedB (lt : List Int → List Int → Bool) : List (List Int) → Bool
 | [] => true
 | x :: r => r.all (lt x) && sortedB lt r
theorem lists_sorted : ((List.range 6).all fun m => sortedB ltN (allLists m)) = true := by kernel_rfl
theorem lists_same : ((List.range 6).all fun m => (allLists m).all (fun l => (allSets m).contains l) && (allSets m).all (fun l => (allLists m).contains l)) = true := by kernel_rfl
theorem sorted_filter (lt : List Int → List Int → Bool) (p : List Int → Bool) : ∀ l : List (List Int), sortedB lt l = true → sortedB lt (l.filter p) = true := by
 intro l
 induction l with
 | nil => intro _; rfl
 | cons x r ih =>
  intro h
  rw [sortedB, Bool.and_eq_true, List.all_eq_true] at h
  rw [List.filter_cons]
  cases p x
  ·exact ih h.2
  ·simp only [if_true]
   rw [sortedB, Bool.and_eq_true, List.all_eq_true]
   exact ⟨fun y hy => h.1 y (List.mem_filter.1 hy).1, ih h.2⟩
theorem lists_mem {m : Nat} (hm : m < 6) (z : List Int) : z ∈ allSets m ↔ z ∈ allLists m := by
 have h := List.all_eq_true.1 lists_same m (List.mem_range.2 hm)
 rw [Bool.and_eq_true, List.all_eq_true, List.all_eq_true] at h
 constructor
 ·intro hz
  have := h.2 z hz
  simpa using this
 ·intro hz
  have := h.1 z hz
  simpa using this
theorem best_filter {m : Nat} (hm : m < 6) (p : List Int → Bool) {x y : List Int} {l r : List (List Int)} (h1 : (allSets m).filter p = x :: l) (h2 : (allLists m).filter p = y :: r) : least ltN x l = y := by
 refine least_head ltN ltN_trans ltN_irr ltN_tot (fun z => ?_) ?_ (r := r)
 ·have e1 : (z = x ∨ z ∈ l) ↔ z ∈ (allSets m).filter p := by rw [h1]; simp
  have e2 : (z = y ∨ z ∈ r) ↔ z ∈ (allLists m).filter p := by rw [h2]; simp
  rw [e1, e2, List.mem_filter, List.mem_filter, lists_mem hm]
 ·have h := sorted_filter ltN p _ (List.all_eq_true.1 lists_sorted m (List.mem_range.2 hm))
  rw [h2, sortedB, Bool.and_eq_true, List.all_eq_true] at h
  exact h.1
end Go.Proofs.YtohmhlkdgfcaeaaGreatDoor
namespace Go.Proofs.YtohmhlkdgfcaeaaGreatDoor
open Go Go.RowKit
def restL {α : Type} (l : List Int) : Nat → List α → List α
 | _, [] => []
 | i, s :: r => bif l.any (fun y => decide (y = (i : Int))) then restL l (i + 1) r else s :: restL l (i + 1) r
theorem restL_map {α β : Type} (f : α → β) (l : List Int) : ∀ (w : List α) (i : Nat), restL l i (w.map f) = (restL l i w).map f := by
 intro w
 induction w with
 | nil => intro i; rfl
 | cons s r ih =>
  intro i
  rw [List.map_cons, restL, restL, ih]
  cases l.any (fun y => decide (y = (i : Int))) <;> rfl
theorem restL_len {α : Type} (l : List Int) : ∀ (w : List α) (i : Nat), (restL l i w).length ≤ w.length := by
 intro w
 induction w with
 | nil => intro i; simp [restL]
 | cons s r ih =>
  intro i
  have := ih (i + 1)
  rw [restL]
  cases l.any (fun y => decide (y = (i : Int)))
  ·simp only [cond_false, List.length_cons]; omega
  ·simp only [cond_true, List.length_cons]; omega
section
variable {n : Nat}
theorem p_170_l5 (hn : 100 ≤ n) (K1 : Int → List Span → Option (List Span)) (w : List Span) (l : List Int) (hl : l.length ≤ 50) {i : Nat} (hi : i < w.length) (hw : w.length ≤ 50) (acc : List Span) (hacc : acc.length ≤ 100) :
  s_170_l5 K1 w l (i : Int) acc n false 0 = bif l.any (fun y => decide (y = (i : Int))) then K1 ((i : Int) + 1) acc else K1 ((i : Int) + 1) (acc ++ [w[i]]) := by
 have h1 := loop_list l (fun k j s => s_170_l5 K1 w l (i : Int) acc k s j) (fun _ y s K => K (s || decide (y = (i : Int)))) (fun s => bif s then K1 ((i : Int) + 1) acc else K1 ((i : Int) + 1) (acc ++ [w[i]])) (fun k j s => by
  simp only
  rw [s_170_l5]
  by_cases hj : j < l.length
  ·have e1 : decide ((j : Int) < ((l.length : Nat) : Int)) = true := decide_eq_true (by omega)
   rw [ix_at (List.getElem?_eq_getElem hj)]
   simp only [Option.bind_some, e1, cond_true]
   cases s with
   | true => rw [cond_true, Bool.true_or]
   | false => rw [cond_false, Bool.false_or]
  ·have e1 : decide ((j : Int) < ((l.length : Nat) : Int)) = false := decide_eq_false (by omega)
   rw [e1, cond_false, cond_false, ix_at (List.getElem?_eq_getElem hi), Option.bind_some, app_of (by simp; omega), Option.bind_some, wr_of (by omega)]
   cases s <;> rfl) (by omega) n 0 false (by omega) (by omega)
 rw [show ((0 : Nat) : Int) = 0 from rfl, List.drop_zero] at h1
 refine h1.trans ?_
 rw [fc_fold (fun s y => s || decide (y = (i : Int))) _ _ _ (fun _ _ _ _ _ => rfl)]
 have hany : ∀ (r : List Int) (s : Bool), r.foldl (fun s y => s || decide (y = (i : Int))) s = (s || r.any (fun y => decide (y = (i : Int)))) := by
  intro r
  induction r with
  | nil => intro s; simp
  | cons y r ih => intro s; rw [List.foldl_cons, ih, List.any_cons, Bool.or_assoc]
 rw [hany, Bool.false_or]
theorem p_170 (hn : 100 ≤ n) (w : List Span) (l : List Int) (hl : l.length ≤ 50) (hw : w.length ≤ 50) : s_170 n w l = some (restL l 0 w) := by
 unfold s_170
 have key : ∀ (r : List Span) (i k : Nat) (acc : List Span), w.drop i = r → i ≤ w.length → w.length < k + i → acc.length ≤ i → s_170_l1 n w l k (i : Int) acc = some (acc ++ restL l i r) := by
  intro r
  induction r with
  | nil =>
   intro i k acc hi h2 hk ha
   have hil : w.length ≤ i := List.drop_eq_nil_iff.1 hi
   obtain ⟨k, rfl⟩ : ∃ k', k = k' + 1 := ⟨k - 1, by omega⟩
   rw [s_170_l1, decide_eq_false (by omega), cond_false]
   simp [restL]
  | cons x r ih =>
   intro i k acc hi h2 hk ha
   have hil : i < w.length := by
    rcases Nat.lt_or_ge i w.length with h | h
    ·exact h
    ·rw [List.drop_eq_nil_of_le h] at hi; cases hi
   obtain ⟨k, rfl⟩ : ∃ k', k = k' + 1 := ⟨k - 1, by omega⟩
   rw [List.drop_eq_getElem_cons hil] at hi
   obtain ⟨hx, hr⟩ := List.cons.inj hi
   rw [s_170_l1, decide_eq_true (by omega), cond_true, p_170_l5 hn _ w l hl hil hw acc (by omega), restL]
   have a1 := ih (i + 1) k acc hr (by omega) (by omega) (by omega)
   have a2 := ih (i + 1) k (acc ++ [w[i]]) hr (by omega) (by omega) (by simp; omega)
   push_cast at a1 a2
   rw [a1, a2, hx]
   cases l.any (fun y => decide (y = (i : Int)))
   ·simp
   ·rfl
 exact key w 0 n [] (by simp) (by omega) (by omega) (by simp)
def namesB (w : List Span) (l : List Int) : Bool := decide (comm (restL l 0 w)).ne
theorem p_139 (hn : 100 ≤ n) (w : List Span) (l : List Int) (hl : l.length ≤ 50) (hw : w.length ≤ 50) : s_139 n w l = some (namesB w l) := by
 have h1 := restL_len l w 0
 unfold s_139
 rw [p_170 hn w l hl hw, Option.bind_some, p_62 hn _ (by omega), Option.bind_some]
 rfl
end
end Go.Proofs.YtohmhlkdgfcaeaaGreatDoor
namespace Go.Proofs.YtohmhlkdgfcaeaaGreatDoor
open Go Go.RowKit
theorem lists_len : ((List.range 6).all fun m => (List.range (m + 1)).all fun k => decide ((listsOf m k).length ≤ 50) && (listsOf m k).all (fun l => decide (l.length ≤ 50))) = true := by kernel_rfl
theorem lists_full : ((List.range 6).all fun m => decide (listsOf m m = [(List.range m).map (fun (i : Nat) => (i : Int))])) = true := by kernel_rfl
theorem lists_len' {m k : Nat} (hm : m < 6) (hk : k ≤ m) : (listsOf m k).length ≤ 50 ∧ ∀ l ∈ listsOf m k, l.length ≤ 50 := by
 have h := List.all_eq_true.1 (List.all_eq_true.1 lists_len m (List.mem_range.2 hm)) k (List.mem_range.2 (by omega))
 rw [Bool.and_eq_true, decide_eq_true_eq, List.all_eq_true] at h
 exact ⟨h.1, fun l hl => of_decide_eq_true (h.2 l hl)⟩
theorem restL_full : ∀ (w : List Span) (m i : Nat), i + w.length ≤ m → restL ((List.range m).map (fun (i : Nat) => (i : Int))) i w = [] := by
 intro w
 induction w with
 | nil => intro m i _; rfl
 | cons s r ih =>
  intro m i h
  simp only [List.length_cons] at h
  have e : ((List.range m).map (fun (i : Nat) => (i : Int))).any (fun y => decide (y = (i : Int))) = true := by
   rw [List.any_eq_true]
   exact ⟨(i : Int), List.mem_map_of_mem (List.mem_range.2 (by omega)), by simp⟩
  rw [restL, e, cond_true, ih m (i + 1) (by omega)]
section
variable {n : Nat}
theorem p_63_l4 (hn : 100 ≤ n) (K1 : Int → Option (List Int)) (w : List Span) (hw : w.length ≤ 50) (c : Int) (ls : List (List Int)) (h1 : ls.length ≤ 50) (h2 : ∀ l ∈ ls, l.length ≤ 50) :
  s_63_l4 n K1 w c ls n 0 = match ls.filter (namesB w) with
   | y :: _ => some y
   | [] => K1 (wr (c + 1)) := by
 have hh := loop_list ls (fun k i (_ : Unit) => s_63_l4 n K1 w c ls k i) (fun _ l s K => (s_139 n w l).bind fun b => bif b then some l else K s) (fun _ => K1 (wr (c + 1))) (fun k i s => by
  simp only
  rw [s_63_l4]
  by_cases hi : i < ls.length
  ·rw [ix_at (List.getElem?_eq_getElem hi)]
   simp only [Option.bind_some]
  ·have e1 : decide ((i : Int) < ((ls.length : Nat) : Int)) = false := decide_eq_false (by omega)
   rw [e1, cond_false, cond_false]) (by omega) n 0 () (by omega) (by omega)
 rw [show ((0 : Nat) : Int) = 0 from rfl, List.drop_zero] at hh
 refine hh.trans ?_
 have key : ∀ (r : List (List Int)) (i : Nat), (∀ l ∈ r, l.length ≤ 50) → fc (σ := Unit) (fun _ l s K => (s_139 n w l).bind fun b => bif b then some l else K s) (fun _ => K1 (wr (c + 1))) i r () = match r.filter (namesB w) with
   | y :: _ => some y
   | [] => K1 (wr (c + 1)) := by
  intro r
  induction r with
  | nil => intro i _; rfl
  | cons l r ih =>
   intro i hr
   rw [fc, p_139 hn w l (hr l List.mem_cons_self) hw, Option.bind_some, List.filter_cons]
   cases namesB w l
   ·rw [cond_false]; exact ih (i + 1) (fun z hz => hr z (List.mem_cons_of_mem _ hz))
   ·rfl
 exact key ls 0 h2
def firstN (w : List Span) : List Int := ((allLists w.length).filter (namesB w)).headD []
theorem p_63w (w : List Span) (hw : w.length < 6) : s_63_l1 1000 w 1000 0 = some (firstN w) ∧ (allLists w.length).filter (namesB w) ≠ [] := by
 have hn : 100 ≤ 1000 := by omega
 have hfull : listsOf w.length w.length = [(List.range w.length).map (fun (i : Nat) => (i : Int))] := of_decide_eq_true (List.all_eq_true.1 lists_full w.length (List.mem_range.2 hw))
 have hnm : namesB w ((List.range w.length).map (fun (i : Nat) => (i : Int))) = true := by
  unfold namesB
  rw [restL_full w w.length 0 (by omega)]
  rfl
 have key : ∀ (r k f : Nat), k + r = w.length → r < f → s_63_l1 1000 w f (k : Int) = some ((((List.range' k (r + 1)).flatMap (listsOf w.length)).filter (namesB w)).headD []) ∧ ((List.range' k (r + 1)).flatMap (listsOf w.length)).filter (namesB w) ≠ [] := by
  intro r
  induction r with
  | zero =>
   intro k f hk hf
   obtain ⟨f, rfl⟩ : ∃ f', f = f' + 1 := ⟨f - 1, by omega⟩
   have hkw : k = w.length := by omega
   subst hkw
   have e : ((List.range' w.length (0 + 1)).flatMap (listsOf w.length)).filter (namesB w) = [(List.range w.length).map (fun (i : Nat) => (i : Int))] := by
    simp only [List.range'_succ, List.range'_zero, List.flatMap_cons, List.flatMap_nil, List.append_nil, hfull]
    rw [List.filter_cons, hnm]
    rfl
   rw [e]
   refine ⟨?_, by simp⟩
   rw [s_63_l1, decide_eq_false (by omega), cond_false, p_135 hw (Nat.le_refl _), Option.bind_some, hfull]
   rfl
  | succ r ih =>
   intro k f hk hf
   obtain ⟨f, rfl⟩ : ∃ f', f = f' + 1 := ⟨f - 1, by omega⟩
   obtain ⟨i1, i2⟩ := ih (k + 1) f (by omega) (by omega)
   obtain ⟨b1, b2⟩ := lists_len' hw (show k ≤ w.length by omega)
   rw [s_63_l1, decide_eq_true (by omega), cond_true, p_135 hw (by omega), Option.bind_some, p_63_l4 hn _ w (by omega) _ _ b1 b2, List.range'_succ, List.flatMap_cons, List.filter_append, wr_of (by omega)]
   cases hfl : (listsOf w.length k).filter (namesB w) with
   | nil =>
    push_cast at i1
    exact ⟨i1, i2⟩
   | cons y s => exact ⟨rfl, by simp⟩
 have := key w.length 0 1000 (by omega) (by omega)
 rw [← List.range_eq_range'] at this
 exact this
end
end Go.Proofs.YtohmhlkdgfcaeaaGreatDoor
namespace Go.Proofs.YtohmhlkdgfcaeaaGreatDoor
open Go Go.RowKit
def memb (s : Nat) : List Int := (s_131 1000 (s : Int)).getD []
def restS (m s : Nat) : Int := bits .andNot .i64 (2 ^ m - 1) (s : Int)
theorem sets_ok : ((List.range 6).all fun m => (List.range (2 ^ m)).all fun s => (s_131 1000 (s : Int)).isSome && (decide ((memb s).length ≤ 50) && (decide (0 ≤ restS m s) && (decide (restS m s ≤ 63) && (List.range m).all fun i => hasB (restS m s) i == !(memb s).any (fun y => decide (y = (i : Int))))))) = true := by kernel_rfl
theorem sets_ok' {m s : Nat} (hm : m < 6) (hs : s < 2 ^ m) : s_131 1000 (s : Int) = some (memb s) ∧ (memb s).length ≤ 50 ∧ (0 ≤ restS m s ∧ restS m s ≤ 63) ∧ ∀ i, i < m → hasB (restS m s) i = !(memb s).any (fun y => decide (y = (i : Int))) := by
 have h := List.all_eq_true.1 (List.all_eq_true.1 sets_ok m (List.mem_range.2 hm)) s (List.mem_range.2 hs)
 simp only [Bool.and_eq_true, decide_eq_true_eq, List.all_eq_true, beq_iff_eq, List.mem_range] at h
 obtain ⟨h1, h2, h3, h4, h5⟩ := h
 obtain ⟨l, hl⟩ := Option.isSome_iff_exists.1 h1
 refine ⟨?_, h2, ⟨h3, h4⟩, h5⟩
 unfold memb
 rw [hl]; rfl
theorem pick_rest {c : Int} {l : List Int} : ∀ (w : List Span) (i : Nat), (∀ j, i ≤ j → j < i + w.length → hasB c j = !l.any (fun y => decide (y = (j : Int)))) → pickF c i w = restL l i w := by
 intro w
 induction w with
 | nil => intro i _; rfl
 | cons s r ih =>
  intro i h
  have h1 := h i (by omega) (by simp)
  have h2 := ih (i + 1) (fun j hj hj2 => h j (by omega) (by simp only [List.length_cons]; omega))
  rw [pickF, restL, h1, h2]
  cases l.any (fun y => decide (y = (i : Int))) <;> rfl
theorem set_names {w : List Span} {s : Nat} (hw : w.length < 6) (hs : s < 2 ^ w.length) : decide (com w (restS w.length s)).ne = namesB w (memb s) := by
 obtain ⟨_, _, _, h⟩ := sets_ok' hw hs
 unfold com namesB comm
 rw [pick_rest w 0 (fun j _ hj => h j (by omega))]
theorem com_zero (w : List Span) : (com w 0).ne := by
 have : ∀ (w : List Span) (i : Nat), pickF 0 i w = [] := by
  intro w
  induction w with
  | nil => intro i; rfl
  | cons s r ih =>
   intro i
   have e : hasB 0 i = false := by unfold hasB; simp
   rw [pickF, e, if_neg (by simp), ih]
 unfold com
 rw [this]
 simp [capL, Span.ne]
theorem p_61_l1 (w : List Span) (hw : w.length < 6) : s_61_l1 1000 ⟨w⟩ (2 ^ w.length - 1) 1000 0 [] = some (firstN w, 0) := by
 have hn : 100 ≤ 1000 := by omega
 have hpv := pow_bound (i := w.length) (by omega)
 have hpw : (2 : Int) ^ w.length = ((2 ^ w.length : Nat) : Int) := by push_cast; rfl
 have hp64 : 2 ^ w.length ≤ 64 := by
  have := Nat.pow_le_pow_right (show 0 < 2 by omega) (show w.length ≤ 6 by omega)
  simpa using this
 have hne := (p_63w w hw).2
 have hfin : (s_129 1000 ((allSets w.length).filter (namesB w)) (fun z0 z1 => s_137 1000 z0 z1)).bind (fun v128 => some (v128.1, (0 : Int))) = some (firstN w, 0) := by
  cases h2 : (allLists w.length).filter (namesB w) with
  | nil => exact absurd h2 hne
  | cons y r =>
   cases h1 : (allSets w.length).filter (namesB w) with
   | nil =>
    have hy : y ∈ (allLists w.length).filter (namesB w) := by rw [h2]; exact List.mem_cons_self
    rw [List.mem_filter, ← lists_mem hw, ← List.mem_filter, h1] at hy
    cases hy
   | cons x l =>
    have hlen : l.length ≤ 100 := by
     have e1 := List.length_filter_le (namesB w) (allSets w.length)
     rw [h1] at e1
     simp only [List.length_cons, allSets, List.length_map, List.length_range] at e1
     omega
    have hall : ∀ z, (z = x ∨ z ∈ l) → z.length ≤ 50 := by
     intro z hz
     have hz : z ∈ (allSets w.length).filter (namesB w) := by rw [h1]; simpa using hz
     have hz := (List.mem_filter.1 hz).1
     unfold allSets at hz
     obtain ⟨s, hs, rfl⟩ := List.mem_map.1 hz
     exact (sets_ok' hw (List.mem_range.1 hs)).2.1
    rw [p_129 hn ltN _ x l (by omega) (by omega) (fun y z hy hz => p_137 hn y z (hall y hy)), Option.bind_some, best_filter hw (namesB w) h1 h2]
    unfold firstN
    rw [h2]
    rfl
 have key : ∀ (r k f : Nat) (acc : List (List Int)), k + r = 2 ^ w.length → r < f → acc.length ≤ k → s_61_l1 1000 ⟨w⟩ (2 ^ w.length - 1) f (k : Int) acc = (s_129 1000 (acc ++ ((List.range' k r).map memb).filter (namesB w)) (fun z0 z1 => s_137 1000 z0 z1)).bind (fun v128 => some (v128.1, (0 : Int))) := by
  intro r
  induction r with
  | zero =>
   intro k f acc hk hf ha
   obtain ⟨f, rfl⟩ : ∃ f', f = f' + 1 := ⟨f - 1, by omega⟩
   rw [s_61_l1, wr_of (by omega), decide_eq_false (by rw [hpw]; omega), cond_false]
   simp
  | succ r ih =>
   intro k f acc hk hf ha
   obtain ⟨f, rfl⟩ : ∃ f', f = f' + 1 := ⟨f - 1, by omega⟩
   have hks : k < 2 ^ w.length := by omega
   obtain ⟨b1, b2, ⟨b3, b4⟩, b5⟩ := sets_ok' hw hks
   have hj : ∀ c : Bool, c = namesB w (memb k) → s_61_j5 1000 (s_61_l1 1000 ⟨w⟩ (2 ^ w.length - 1) f) (k : Int) acc c = (s_129 1000 (acc ++ ((List.range' k (r + 1)).map memb).filter (namesB w)) (fun z0 z1 => s_137 1000 z0 z1)).bind (fun v128 => some (v128.1, (0 : Int))) := by
    intro c hc
    unfold s_61_j5
    rw [wr_of (by omega), List.range'_succ, List.map_cons, List.filter_cons, ← hc]
    have i1 := ih (k + 1) f acc (by omega) (by omega) (by omega)
    have i2 := ih (k + 1) f (acc ++ [memb k]) (by omega) (by omega) (by simp; omega)
    push_cast at i1 i2
    cases c with
    | false => rw [cond_false, i1]; rfl
    | true =>
     rw [cond_true, b1, Option.bind_some, app_of (by simp; omega), Option.bind_some, i2]
     simp
   rw [s_61_l1, wr_of (by omega), decide_eq_true (by rw [hpw]; omega), cond_true, p_100 1000 w (by omega), Option.bind_some]
   show (bif decide (restS w.length k = 0) then _ else (s_99 1000 ⟨w⟩ (restS w.length k)).bind _) = _
   have hsn := set_names hw hks
   by_cases h0 : restS w.length k = 0
   ·rw [decide_eq_true h0, cond_true]
    refine hj _ ?_
    rw [← hsn, h0]
    exact (decide_eq_true (com_zero w)).symm
   ·rw [decide_eq_false h0, cond_false, p_99 hn w (by omega) b3 b4, Option.bind_some]
    exact hj _ hsn
 have := key (2 ^ w.length) 0 1000 [] (by omega) (by omega) (by simp)
 rw [← List.range_eq_range', List.nil_append] at this
 exact this.trans hfin
end Go.Proofs.YtohmhlkdgfcaeaaGreatDoor
namespace Go.Proofs.YtohmhlkdgfcaeaaGreatDoor
open Go Go.RowKit
section
variable {d : Drum}
theorem names_eq (l : List Int) : namesB (wsR d) l = namesB (wsP d) l := by
 unfold namesB wsR wsP comm
 rw [restL_map, restL_map, decide_eq_decide]
 exact map_win_ne
theorem wsR_len : (wsR d).length = d.batches.length := by simp [wsR]
theorem firstN_eq : firstN (wsR d) = firstN (wsP d) := by
 unfold firstN
 rw [wsR_len, wsP_len]
 have : namesB (wsR d) = namesB (wsP d) := funext names_eq
 rw [this]
theorem p_61 (hs : Short d) : s_61 1000 d = some (bif decide (err d true = 0) then (firstN (wsP d), 0) else ([], err d true)) := by
 have hn : 100 ≤ 1000 := by omega
 unfold s_61
 rw [p_84 hn hs, Option.bind_some]
 by_cases he : err d true = 0
 ·obtain ⟨h1, _, hne⟩ := err_zero he
  have hd := okD_iff.1 h1
  have hbt := hd.btl
  have hl : (wsP d).length < 6 := by rw [wsP_len]; omega
  simp only [he, decide_true, Bool.not_true, cond_false, cond_true]
  rw [p_98 hd hn hne, Option.bind_some, p_100 1000 _ (by omega), Option.bind_some, p_61_l1 _ hl]
 ·simp only [decide_eq_false he, Bool.not_false, cond_true, cond_false]
theorem p_63 (hd : d.ok) (hne : idx d ≠ []) : s_63 1000 d = some (firstN (wsP d)) := by
 have hbt := hd.btl
 unfold s_63
 rw [p_55 hd (by omega) hne, Option.bind_some, (p_63w (wsR d) (by rw [wsR_len]; omega)).1, firstN_eq]
theorem firstN_len (hd : d.ok) : (firstN (wsP d)).length ≤ 50 := by
 have hbt := hd.btl
 unfold firstN
 cases h : (allLists (wsP d).length).filter (namesB (wsP d)) with
 | nil => simp
 | cons y r =>
  have hy : y ∈ (allLists (wsP d).length).filter (namesB (wsP d)) := by rw [h]; exact List.mem_cons_self
  have hy := (List.mem_filter.1 hy).1
  unfold allLists at hy
  obtain ⟨k, hk, hy⟩ := List.mem_flatMap.1 hy
  exact (lists_len' (show (wsP d).length < 6 by rw [wsP_len]; omega) (by have := List.mem_range.1 hk; omega)).2 y hy
theorem law_12 (d : Drum) : s_12 1000 d = some true := by
 unfold s_12
 rw [p_23, Option.bind_some]
 have hn : 100 ≤ 1000 := by omega
 cases hsh : shortB d with
 | false => simp only [Bool.not_false, cond_true, p_24, Option.bind_some]
 | true =>
  have hs := shortB_iff.1 hsh
  simp only [Bool.not_true, cond_false, p_46 hn hs, p_61 hs, p_27 hn hs, Option.bind_some]
  by_cases he : err d true = 0
  ·obtain ⟨h1, _, hne⟩ := err_zero he
   have hd := okD_iff.1 h1
   have hbt := hd.btl
   simp only [he, decide_true, Bool.not_true, cond_false, cond_true]
   rw [p_55 hd hn hne, Option.bind_some, p_62 hn _ (by rw [wsR_len]; omega), Option.bind_some]
   have last : ∀ e : Int, e = 0 → s_12_j1 1000 d (firstN (wsP d), e) false = some true := by
    intro e he0
    subst he0
    unfold s_12_j1
    simp only [cond_false, decide_true, cond_true]
    rw [p_63 hd hne, Option.bind_some, p_58 1000 hn _ _ (firstN_len hd), Option.bind_some, decide_eq_true rfl, cond_true, p_24, Option.bind_some]
   have hiff : (comm (wsR d)).ne ↔ (comm (wsP d)).ne := map_win_ne
   by_cases hc : (comm (wsP d)).ne
   ·have e : wsR d = wsP d := map_win_eq hc
    have hc2 := hc
    unfold Span.ne at hc2
    rw [e, decide_eq_true hc, cond_true, decide_eq_false (show ¬ (comm (wsP d)).high < (comm (wsP d)).low by omega), cond_false, decide_eq_true hc2, cond_true]
    simp only [decide_true, Bool.not_true, cond_false]
    exact last 0 rfl
   ·have hc2 : ¬ (comm (wsR d)).ne := fun h => hc (hiff.1 h)
    unfold Span.ne at hc2
    rw [decide_eq_false hc, cond_false, decide_eq_true (show (comm (wsR d)).high < (comm (wsR d)).low by omega), cond_true, decide_eq_false hc2]
    simp only [decide_true, Bool.not_true, cond_false]
    exact last 0 rfl
  ·simp only [decide_eq_false he, Bool.not_false, cond_true, cond_false, decide_true, List.length_nil]
   rw [show decide (((0 : Nat) : Int) = 0) = true from rfl, cond_true, p_24, Option.bind_some]
end
end Go.Proofs.YtohmhlkdgfcaeaaGreatDoor
namespace Go.Proofs.YtohmhlkdgfcaeaaGreatDoor
open Go Go.RowKit
def rn : Int → List Int → Int
 | c, [] => c
 | c, x :: r => rn (max c (x + 1)) r
def rgB : Int → List Int → Bool
 | _, [] => true
 | c, x :: r => decide (x ≤ c) && rgB (max c (x + 1)) r
theorem rgB_app : ∀ (l : List Int) (c x : Int), rgB c (l ++ [x]) = (rgB c l && decide (x ≤ rn c l)) := by
 intro l
 induction l with
 | nil =>
  intro c x
  show (decide (x ≤ c) && true) = (true && decide (x ≤ c))
  rw [Bool.and_true, Bool.true_and]
 | cons y r ih => intro c x; rw [List.cons_append, rgB, ih, rgB, rn, Bool.and_assoc]
end Go.Proofs.YtohmhlkdgfcaeaaGreatDoor
namespace Go.Proofs.YtohmhlkdgfcaeaaGreatDoor
open Go Go.RowKit
structure Way (l : List Int) : Prop where
 rg : rgB 0 l = true
 nn : ∀ x ∈ l, 0 ≤ x
theorem Way.nil : Way [] := ⟨rfl, by simp⟩
theorem Way.step {l : List Int} (h : Way l) {x : Nat} (hx : (x : Int) ≤ rn 0 l) : Way (l ++ [(x : Int)]) :=
 ⟨by rw [rgB_app, h.rg, decide_eq_true hx]; rfl, fun y hy => by
  rcases List.mem_append.1 hy with hy | hy
  ·exact h.nn y hy
  ·obtain rfl := List.mem_singleton.1 hy; omega⟩
end Go.Proofs.YtohmhlkdgfcaeaaGreatDoor
namespace Go.Proofs.YtohmhlkdgfcaeaaGreatDoor
open Go Go.RowKit Go.ChangeShapes Go.WideShapes
set_option maxRecDepth 100000
theorem drumWindows_lifted (os : Os) (started : os.Started) (H : Type) (enc : TypeId × Value → H) :
  ReturnsInHanded {} Tryz.checked os 12 .any (fun w args => (Rows.drumWindowsSpec.pre enc Tryz.prog Tryz.f12 [] false w args ∧ laidMetH Tryz.prog Rows.drumWindowsRow.laid w) ∧ sizedMet enc Tryz.prog Tryz.f12 (OpenSpec.ofChange Rows.drumWindowsSpec) false w args)
   (Rows.drumWindowsSpec.post enc Tryz.prog Tryz.f12 false true false false) :=
 law_row (s := Rows.drumWindowsSpec) (enc := enc) started #[.agg #[.slice none 0 0, .int .i64 0, .int .i64 0, .slice none 0 0, .slice none 0 0, .slice none 0 0]] (by kernel_rfl) Tryz.func12 (by kernel_rfl) (by kernel_rfl) (by kernel_rfl) rfl
   (by
    rw [Tryz.params12]
    have h : ∀ t ∈ ([27] : List Nat), t ∈ [3, 9, 23, 27, 54, 92] := by decide
    exact fun t ht => parT t (h t ht)) rfl
   (by
    rw [Tryz.params12]
    intro ds h
    match ds, h with
    | [d0], _ => rfl)
   (by
    rw [Tryz.params12]
    intro W base args ds p hval hA
    obtain ⟨args⟩ := args
    obtain ⟨v0, vs0, d0, ds0, p0, q0, e0, rfl, rfl, h0, r0⟩ := trodAll_cons hA
    have e0 : args = _ := e0; subst e0
    obtain ⟨rfl, rfl, rfl⟩ := trodAll_nil r0
    obtain ⟨x0, z0⟩ := rd_drum (hval 0 27 v0 rfl rfl) h0
    refine ⟨rfl, [.agg (cDrum x0)], ⟨rfl, ?_⟩, c_12 1000 x0 (law_12 x0)⟩
    intro j c u hc hu
    match j, hc, hu with
    | 0, hc, hu => cases hc; cases hu; exact z0)
theorem drumWindows_facts : factsA Tryz.prog Tryz.f12 Rows.drumWindowsSpec Rows.drumWindowsRow = true := by kernel_rfl
theorem drumWindows_road0 : (Rows.drumWindowsRow.inPlace == Tryz.prog.inPlace 12) = true := by kernel_rfl
theorem drumWindows_road1 : (Rows.drumWindowsRow.unfollowed == Tryz.prog.unfollowed 12) = true := by kernel_rfl
theorem drumWindows_road2 : (Rows.drumWindowsRow.recurses == Tryz.prog.recurses 12) = true := by kernel_rfl
theorem drumWindows_road3 : (Rows.drumWindowsRow.named == Tryz.prog.varsNamed 12) = true := by kernel_rfl
theorem drumWindows_row : Rows.DrumWindowsSaid :=
 OpenClaim.holds_of_wide 12 Tryz.f12 rfl rfl rfl rfl rfl rfl rfl ⟨rfl, rfl, rfl, rfl, rfl⟩ rfl rfl rfl rfl rfl (by as_aux_lemma => kernel_rfl) Tryz.func12 (joined_of drumWindows_facts drumWindows_road0 drumWindows_road1 drumWindows_road2 drumWindows_road3)
  (of_decide_eq_true (by as_aux_lemma => kernel_rfl)) (by unfold Func.isWrapper; rw [if_neg (of_decide_eq_false (by as_aux_lemma => kernel_rfl))]; exact ⟨rfl, rfl⟩)
  (fun os started H enc _ => drumWindows_lifted os started H enc)
theorem drumWindows_card : Rows.DrumWindowsCardSaid :=
 Claim7.holds_tied_plain_at .later [] [.data, .data, .data, .data, .pinned] true (true, "263524fd91af563947b647e8709e73ef988cdef21cccd4074f632dc410392126") true drumWindows_row (fun _ h => by cases h) (by as_aux_lemma => kernel_rfl) (fun _ h => by cases h) drumWindows_row_tie rfl ⟨rfl, rfl⟩ mainK rfl
  (fun f fn hf hfn => by
   obtain rfl : f = 12 := Option.some.inj ((show Tryz.prog.funcNamed "nacre/nacrelaw03.DrumWindows" = some 12 by as_aux_lemma => kernel_rfl).symm.trans hf) |>.symm
   obtain rfl : fn = Tryz.f12 := (Option.some.inj (Tryz.func12.symm.trans hfn)).symm
   exact ⟨looksK, fun j t ht => by
    rw [Tryz.params12] at ht
    have hm : t ∈ [27] := by simpa using Array.mem_of_getElem? ht
    have h : ∀ t ∈ ([27] : List Nat), t ∈ [3, 9, 23, 27, 54, 92] := by decide
    exact standK t (h t hm)⟩)
  (by as_aux_lemma => kernel_rfl)
#print axioms drumWindows_card
end Go.Proofs.YtohmhlkdgfcaeaaGreatDoor
