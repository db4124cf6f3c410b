/- DrumCoulds: the program tells which drums are as defined, what is a truth, and which acids are possible, or the errors, as the reference does. For every input that can be read as data, the tables of Go's library being as their text lays them: the call returns true, and each argument reads behind it as before. -/
import Derived.Test.YtohmhlkdgfcaeaaGreatDoorTie
import Derived.Test.YtohmhlkdgfcaeaaGreatDoorCards
import Derived.Test.YtohmhlkdgfcaeaaGreatDoorX22a
set_option linter.unusedVariables false
set_option linter.unusedSimpArgs false
namespace Go.Proofs.YtohmhlkdgfcaeaaGreatDoor
open Go Go.RowKit
theorem loop_same {α : Type} [DecidableEq α] (l m : List α) (L : Nat → Int → Option Bool) (h : ∀ (k i : Nat), L (k + 1) (i : Int) = bif decide ((i : Int) < ((l.length : Nat) : Int)) then (ix l (i : Int)).bind (fun x => (ix m (i : Int)).bind fun y => bif !decide (x = y) then some false else L k (wr ((i : Int) + 1))) else some true)
  (hlen : l.length = m.length) (hl : l.length ≤ 1000) {n : Nat} (hn : l.length < n) : L n 0 = some (decide (l = m)) := by
 have h1 := loop_list l (fun k i (_ : Unit) => L k i) (fun i x s K => (ix m (i : Int)).bind fun y => bif !decide (x = y) then some false else K s) (fun _ => some true) (fun k i s => h k i) (by omega) n 0 () (by omega) (by omega)
 rw [show ((0 : Nat) : Int) = 0 from rfl] at h1
 rw [h1]
 have key : ∀ (r : List α) (i : Nat), l.drop i = r → fc (σ := Unit) (fun i x s K => (ix m (i : Int)).bind fun y => bif !decide (x = y) then some false else K s) (fun _ => some true) i r () = some (decide (r = m.drop i)) := by
  intro r
  induction r with
  | nil =>
   intro i hi
   have : l.length ≤ i := List.drop_eq_nil_iff.1 hi
   rw [List.drop_eq_nil_of_le (by omega)]
   simp [fc]
  | cons x r ih =>
   intro i hi
   have hil : i < l.length := by
    rcases Nat.lt_or_ge i l.length with h | h
    ·exact h
    ·rw [List.drop_eq_nil_of_le h] at hi; cases hi
   have hr : l.drop (i + 1) = r := by
    rw [List.drop_eq_getElem_cons hil] at hi
    cases hi; rfl
   rw [fc, ix_at (List.getElem?_eq_getElem (show i < m.length by omega)), Option.bind_some, List.drop_eq_getElem_cons (show i < m.length by omega), ih (i + 1) hr]
   generalize List.drop (i + 1) m = q
   generalize m[i] = y
   by_cases hx : x = y
   ·rw [decide_eq_true hx, Bool.not_true, cond_false]
    subst hx
    simp
   ·rw [decide_eq_false hx, Bool.not_false, cond_true]
    simp [hx]
 rw [List.drop_zero]
 simpa using key l 0 rfl
theorem loop_app {α β γ : Type} (l : List α) (f : Nat → α → Option β) (g : α → β) (hf : ∀ i x, l[i]? = some x → f i x = some (g x)) (L : Nat → Int → List β → Option γ) (fin : List β → Option γ)
  (h : ∀ (k i : Nat) (s : List β), L (k + 1) (i : Int) s = bif decide ((i : Int) < ((l.length : Nat) : Int)) then (ix l (i : Int)).bind (fun x => (f i x).bind fun y => (app s [y]).bind fun s' => L k (wr ((i : Int) + 1)) s') else fin s)
  (hl : l.length ≤ 1000) {n : Nat} (hn : l.length < n) : L n 0 [] = fin (l.map g) := by
 have h1 := loop_list l L (fun i x s K => (f i x).bind fun y => (app s [y]).bind fun s' => K s') fin h (by omega) n 0 [] (by omega) (by omega)
 rw [show ((0 : Nat) : Int) = 0 from rfl] at h1
 rw [h1]
 have key : ∀ (r : List α) (i : Nat) (s : List β), l.drop i = r → s.length ≤ i → fc (fun i x s K => (f i x).bind fun y => (app s [y]).bind fun s' => K s') fin i r s = fin (s ++ r.map g) := by
  intro r
  induction r with
  | nil => intro i s _ _; simp [fc]
  | cons x r ih =>
   intro i s hi hs
   have hil : i < l.length := by
    rcases Nat.lt_or_ge i l.length with h | h
    ·exact h
    ·rw [List.drop_eq_nil_of_le h] at hi; cases hi
   rw [List.drop_eq_getElem_cons hil] at hi
   obtain ⟨hx, hr⟩ := List.cons.inj hi
   rw [fc, hf i x (by rw [List.getElem?_eq_getElem hil, hx]), Option.bind_some, app_of (by simp; omega), Option.bind_some, ih (i + 1) _ hr (by simp; omega)]
   simp
 rw [List.drop_zero]
 simpa using key l 0 [] (by simp) (by simp)
theorem p_58 (n : Nat) (hn : 100 ≤ n) (l m : List Int) (hl : l.length ≤ 50) : s_58 n l m = some (decide (l = m)) := by
 unfold s_58
 by_cases hlen : l.length = m.length
 ·rw [show decide (((l.length : Nat) : Int) = ((m.length : Nat) : Int)) = true from decide_eq_true (by omega), Bool.not_true, cond_false]
  exact loop_same l m (s_58_l1 l m) (fun k i => by rw [s_58_l1]) hlen (by omega) (by omega)
 ·rw [show decide (((l.length : Nat) : Int) = ((m.length : Nat) : Int)) = false from decide_eq_false (by omega), Bool.not_false, cond_true, decide_eq_false (fun h => hlen (by rw [h]))]
def sizedB (d : Drum) (tr : Truth) : Bool := inb tr.acid 0 (wr (((d.acids.length : Nat) : Int) - 1)) && decide (((tr.strength.length : Nat) : Int) = d.hours)
def stren (tr : Truth) (h : Nat) : Int := tr.strength.getD h 0
def chS (d : Drum) (a : Acid) (tr : Truth) : Nat → Span
 | 0 => start a (addAt d.adds 0)
 | h + 1 => aft a (addAt d.adds (h + 1)) ⟨stren tr h, stren tr h⟩
def chB (d : Drum) (a : Acid) (tr : Truth) (h : Nat) : Bool := inb (stren tr h) (chS d a tr h).low (chS d a tr h).high
def stB (tr : Truth) (s : Strip) : Bool := inb (stren tr s.hour.toNat) (s.seen - s.off) (s.seen + s.off)
def trAcid (d : Drum) (tr : Truth) : Acid := acidAt d tr.acid.toNat
def fitB (d : Drum) (tr : Truth) : Bool := hasB d.known tr.acid.toNat && ((List.range (hrs d)).all (chB d (trAcid d tr) tr) && d.strips.all (stB tr))
section
variable {n : Nat} {d : Drum} {tr : Truth}
theorem p_44 : s_44 n d tr = some (sizedB d tr) := by
 unfold s_44 sizedB
 rw [p_103, Option.bind_some]
 cases inb tr.acid 0 (wr (((d.acids.length : Nat) : Int) - 1)) <;> rfl
theorem p_116 : s_116 n d tr = some (sizedB d tr) := by
 unfold s_116 sizedB
 rw [p_87, Option.bind_some]
 cases inb tr.acid 0 (wr (((d.acids.length : Nat) : Int) - 1)) <;> rfl
theorem stren_at {h : Nat} (hh : h < tr.strength.length) : ix tr.strength (h : Int) = some (stren tr h) := by
 rw [ix_at (List.getElem?_eq_getElem hh), stren, List.getD_eq_getElem?_getD, List.getElem?_eq_getElem hh]; rfl
theorem sized_iff (hd : d.ok) : sizedB d tr = true ↔ (0 ≤ tr.acid ∧ tr.acid.toNat < d.acids.length) ∧ tr.strength.length = hrs d := by
 have hacl := hd.acl
 have hH := hrs_eq hd
 unfold sizedB
 rw [wr_of (by omega)]
 simp only [Bool.and_eq_true, inb_iff, decide_eq_true_eq]
 omega
theorem chS_le (hd : d.ok) (ha : (trAcid d tr).ok) : ∀ (h : Nat), (∀ i, i < h → chB d (trAcid d tr) tr i = true) → 0 ≤ (chS d (trAcid d tr) tr h).low ∧ (chS d (trAcid d tr) tr h).high ≤ 100 + 100 * (h + 1) := by
 intro h
 obtain ⟨h1, h2⟩ := ha
 simp only [Span.ok] at h1 h2
 induction h with
 | zero =>
  intro _
  have := addAt_le hd.ad 0
  simp only [chS, start]
  omega
 | succ h ih =>
  intro hc
  have h3 := ih (fun i hi => hc i (by omega))
  have h4 := inb_iff.1 (hc h (by omega))
  have := addAt_le hd.ad (h + 1)
  simp only [chS, aft]
  push_cast
  omega
theorem stren_le (hd : d.ok) (ha : (trAcid d tr).ok) (h : Nat) (hc : ∀ i, i < h + 1 → chB d (trAcid d tr) tr i = true) : 0 ≤ stren tr h ∧ stren tr h ≤ 100 + 100 * (h + 1) := by
 have h3 := chS_le hd ha h (fun i hi => hc i (by omega))
 have h4 := inb_iff.1 (hc h (by omega))
 omega
theorem p_45_l5 (hd : d.ok) (hn : 100 ≤ n) (hs : tr.strength.length = hrs d) : s_45_l5 n d tr n 0 = some (d.strips.all (stB tr)) := by
 have hst := hd.stl
 have hH := hrs_eq hd
 rw [loop_all d.strips (s_45_l5 n d tr) (stB tr) (some true) (fun k i => ?_) (by omega) (by omega)]
 ·cases d.strips.all (stB tr) <;> rfl
 ·rw [s_45_l5]
  by_cases hi : i < d.strips.length
  ·obtain ⟨q1, q2, q3⟩ := hd.st _ (List.getElem_mem hi)
   have e : ix tr.strength d.strips[i].hour = some (stren tr d.strips[i].hour.toNat) := by
    have := stren_at (tr := tr) (h := d.strips[i].hour.toNat) (by omega)
    rwa [show ((d.strips[i].hour.toNat : Nat) : Int) = d.strips[i].hour by omega] at this
   simp only [ix_at (List.getElem?_eq_getElem hi), Option.bind_some, e, p_103]
   rw [wr_of (x := d.strips[i].seen - d.strips[i].off) (by omega), wr_of (x := d.strips[i].seen + d.strips[i].off) (by omega)]
   unfold stB
   cases inb (stren tr d.strips[i].hour.toNat) (d.strips[i].seen - d.strips[i].off) (d.strips[i].seen + d.strips[i].off) <;> rfl
  ·have e1 : decide ((i : Int) < ((d.strips.length : Nat) : Int)) = false := decide_eq_false (by omega)
   rw [e1, cond_false, cond_false]
theorem p_95st (hd : d.ok) (hn : 100 ≤ n) (hs : tr.strength.length = hrs d) : s_95 n d.strips (fun z0 => s_165 n z0 tr) = some (!d.strips.all (stB tr)) := by
 have hst := hd.stl
 have hH := hrs_eq hd
 rw [p_95 hn d.strips (by omega) _ (fun s => !stB tr s) (fun s hs' => ?_), any_not]
 obtain ⟨q1, q2, q3⟩ := hd.st s hs'
 have e : ix tr.strength s.hour = some (stren tr s.hour.toNat) := by
  have := stren_at (tr := tr) (h := s.hour.toNat) (by omega)
  rwa [show ((s.hour.toNat : Nat) : Int) = s.hour by omega] at this
 unfold s_165
 rw [e, Option.bind_some, p_87, Option.bind_some, wr_of (x := s.seen - s.off) (by omega), wr_of (x := s.seen + s.off) (by omega)]
 rfl
theorem p_45 (hd : d.ok) (hn : 100 ≤ n) (hsz : sizedB d tr = true) : s_45 n d tr = some (fitB d tr) := by
 obtain ⟨⟨h1, h2⟩, h3⟩ := (sized_iff hd).1 hsz
 have hkn := hd.kn
 have hacl := hd.acl
 have hhr := hrs_le hd
 have hH := hrs_eq hd
 have hpw := (pow_bound (i := d.acids.length) (by omega)).2
 have hac : tr.acid = ((tr.acid.toNat : Nat) : Int) := by omega
 have ha : (trAcid d tr).ok := acidAt_ok hd h2
 have key : ∀ (r m k : Nat), m + r = hrs d → r < k → (∀ i, i < m → chB d (trAcid d tr) tr i = true) → s_45_l1 n d tr (trAcid d tr) k (m : Int) = some ((List.range' m r).all (chB d (trAcid d tr) tr) && d.strips.all (stB tr)) := by
  intro r
  induction r with
  | zero =>
   intro m k hm hk hc
   obtain ⟨k, rfl⟩ : ∃ k', k = k' + 1 := ⟨k - 1, by omega⟩
   rw [s_45_l1, decide_eq_false (by omega), cond_false, p_45_l5 hd hn h3]
   rfl
  | succ r ih =>
   intro m k hm hk hc
   obtain ⟨k, rfl⟩ : ∃ k', k = k' + 1 := ⟨k - 1, by omega⟩
   have hj : ∀ s, s = chS d (trAcid d tr) tr m → s_45_j4 n (s_45_l1 n d tr (trAcid d tr) k) tr (m : Int) s = some ((List.range' m (r + 1)).all (chB d (trAcid d tr) tr) && d.strips.all (stB tr)) := by
    intro s hs
    unfold s_45_j4
    rw [stren_at (by omega), Option.bind_some, p_103, Option.bind_some, hs, List.range'_succ, List.all_cons]
    have hcb : inb (stren tr m) (chS d (trAcid d tr) tr m).low (chS d (trAcid d tr) tr m).high = chB d (trAcid d tr) tr m := rfl
    rw [hcb]
    rcases Bool.eq_false_or_eq_true (chB d (trAcid d tr) tr m) with hb | hb
    ·rw [hb, wr_of (by omega)]
     have := ih (m + 1) k (by omega) (by omega) (fun i hi => by
      by_cases e : i = m
      ·subst e; exact hb
      ·exact hc i (by omega))
     push_cast at this
     simp only [Bool.not_true, cond_false, Bool.true_and]
     exact this
    ·rw [hb]; rfl
   rw [s_45_l1, decide_eq_true (by omega), cond_true, show ix d.adds 0 = some (addAt d.adds 0) from add_at hd (h := 0) (by omega)]
   simp only [Option.bind_some]
   cases m with
   | zero =>
    rw [decide_eq_false (by omega), cond_false]
    refine hj _ ?_
    have := addAt_le hd.ad 0
    obtain ⟨q1, q2⟩ := ha
    simp only [Span.ok] at q1 q2
    rw [wr_of (by omega), wr_of (by omega)]
    rfl
   | succ m =>
    have e1 : wr (((m + 1 : Nat) : Int) - 1) = (m : Int) := by rw [wr_of (by omega)]; omega
    have hsm := stren_le hd ha m hc
    rw [decide_eq_true (by omega), cond_true, add_at hd (h := m + 1) (by omega), e1, stren_at (by omega)]
    simp only [Option.bind_some]
    rw [p_115 ha (addAt_le hd.ad (m + 1)) (by simp only [Span.small]; omega), Option.bind_some]
    exact hj _ rfl
 have hx : ix d.acids tr.acid = some (trAcid d tr) := by
  have := ix_at (acidAt_get h2)
  rw [← hac] at this
  exact this
 have hk := key (hrs d) 0 n (by omega) (by omega) (fun i hi => by omega)
 rw [← List.range_eq_range'] at hk
 unfold s_45 fitB
 have h72 := p_72 (n := n) hn (set := d.known) (i := tr.acid.toNat) (by omega) (by omega) (by omega)
 rw [← hac] at h72
 rw [h72, Option.bind_some, hx, Option.bind_some]
 cases hasB d.known tr.acid.toNat
 ·rfl
 ·exact hk
theorem p_117 (hd : d.ok) (hn : 100 ≤ n) (hsz : sizedB d tr = true) : s_117 n d tr = some (fitB d tr) := by
 obtain ⟨⟨h1, h2⟩, h3⟩ := (sized_iff hd).1 hsz
 have hkn := hd.kn
 have hacl := hd.acl
 have hhr := hrs_le hd
 have hH := hrs_eq hd
 have hpw4 : (2 : Int) ^ d.acids.length ≤ 16 := by
  have : (2 : Nat) ^ d.acids.length ≤ 2 ^ 4 := Nat.pow_le_pow_right (by omega) hacl.2
  exact_mod_cast this
 have hac : tr.acid = ((tr.acid.toNat : Nat) : Int) := by omega
 have ha : (trAcid d tr).ok := acidAt_ok hd h2
 have key : ∀ (r m k : Nat), m + r = hrs d → r < k → (∀ i, i < m → chB d (trAcid d tr) tr i = true) → s_117_l1 n d tr (trAcid d tr) k (m : Int) = some ((List.range' m r).all (chB d (trAcid d tr) tr) && d.strips.all (stB tr)) := by
  intro r
  induction r with
  | zero =>
   intro m k hm hk hc
   obtain ⟨k, rfl⟩ : ∃ k', k = k' + 1 := ⟨k - 1, by omega⟩
   rw [s_117_l1, decide_eq_false (by omega), cond_false, p_95st hd hn h3, Option.bind_some, Bool.not_not]
   rfl
  | succ r ih =>
   intro m k hm hk hc
   obtain ⟨k, rfl⟩ : ∃ k', k = k' + 1 := ⟨k - 1, by omega⟩
   have hj : ∀ lo hi, wr (lo + addAt d.adds m) = (chS d (trAcid d tr) tr m).low → wr (hi + addAt d.adds m) = (chS d (trAcid d tr) tr m).high → s_117_j4 n (s_117_l1 n d tr (trAcid d tr) k) d (m : Int) (stren tr m) lo hi = some ((List.range' m (r + 1)).all (chB d (trAcid d tr) tr) && d.strips.all (stB tr)) := by
    intro lo hi e1 e2
    unfold s_117_j4
    rw [add_at hd (h := m) (by omega)]
    simp only [Option.bind_some]
    rw [p_87, Option.bind_some, e1, e2, List.range'_succ, List.all_cons]
    have hcb : inb (stren tr m) (chS d (trAcid d tr) tr m).low (chS d (trAcid d tr) tr m).high = chB d (trAcid d tr) tr m := rfl
    rw [hcb]
    rcases Bool.eq_false_or_eq_true (chB d (trAcid d tr) tr m) with hb | hb
    ·rw [hb, wr_of (by omega)]
     have := ih (m + 1) k (by omega) (by omega) (fun i hi => by
      by_cases e : i = m
      ·subst e; exact hb
      ·exact hc i (by omega))
     push_cast at this
     simp only [Bool.not_true, cond_false, Bool.true_and]
     exact this
    ·rw [hb]; rfl
   rw [s_117_l1, decide_eq_true (by omega), cond_true, stren_at (by omega), Option.bind_some]
   cases m with
   | zero =>
    rw [decide_eq_false (by omega), cond_false]
    have := addAt_le hd.ad 0
    obtain ⟨q1, q2⟩ := ha
    simp only [Span.ok] at q1 q2
    exact hj _ _ (wr_of (by omega)) (wr_of (by omega))
   | succ m =>
    have e1 : wr (((m + 1 : Nat) : Int) - 1) = (m : Int) := by rw [wr_of (by omega)]; omega
    have hsm := stren_le hd ha m hc
    have h115 := p_115 (n := n) ha (addAt_le hd.ad (m + 1)) (s := ⟨stren tr m, stren tr m⟩) (by simp only [Span.small]; omega)
    have h116 := Option.some.inj h115
    rw [decide_eq_true (by omega), cond_true, e1, stren_at (by omega), Option.bind_some]
    exact hj _ _ (congrArg Span.low h116) (congrArg Span.high h116)
 have hx : ix d.acids tr.acid = some (trAcid d tr) := by
  have := ix_at (acidAt_get h2)
  rw [← hac] at this
  exact this
 have hk := key (hrs d) 0 n (by omega) (by omega) (fun i hi => by omega)
 rw [← List.range_eq_range'] at hk
 unfold s_117 fitB
 have h145 := p_145 (n := n) (set := d.known) (i := tr.acid.toNat) (by omega) (by omega) (by omega)
 rw [← hac] at h145
 rw [h145, Option.bind_some, hx, Option.bind_some]
 cases hasB d.known tr.acid.toNat
 ·rfl
 ·exact hk
theorem p_69 (hn : 100 ≤ n) (hs : Short d) : s_69 n d = some (bif decide (err d true = 0) then intL (idx d) else [], err d true) := by
 unfold s_69
 rw [p_84 hn hs, Option.bind_some]
 have key : ∀ (l : List Filled) (e : Int), l.length ≤ 50 → s_69_l1 (l, e) n 0 [] = some (l.map (·.acid), e) := by
  intro l e hl
  exact loop_app l (fun _ x => some x.acid) (·.acid) (fun _ _ _ => rfl) (s_69_l1 (l, e)) (fun s => some (s, e)) (fun k i s => by rw [s_69_l1]; rfl) (by omega) (by omega)
 by_cases he : err d true = 0
 ·have hd := okD_iff.1 (err_zero he).1
  have hil := idx_len hd
  rw [decide_eq_true he, cond_true, cond_true, key _ _ (by simp [filL]; omega)]
  have : (filL d).map (·.acid) = intL (idx d) := by unfold filL intL; rw [List.map_map]; rfl
  rw [this]
 ·rw [decide_eq_false he, cond_false, cond_false, key _ _ (by simp)]
  rfl
theorem p_79 (hn : 100 ≤ n) (hs : Short d) : s_79 n d = some (bif okD d then 0 else 2) := by
 unfold s_79
 rw [p_104 hn hs, Option.bind_some]
 cases okD d <;> rfl
theorem p_68 (hn : 100 ≤ n) (hs : Short d) : s_68 n d tr = some (bif okD d && sizedB d tr then (fitB d tr, 0) else (false, 2)) := by
 unfold s_68 s_68_j1
 rw [p_104 hn hs, Option.bind_some]
 cases hok : okD d with
 | false => rfl
 | true =>
  rw [p_116, Option.bind_some]
  cases hsz : sizedB d tr with
  | false => rfl
  | true => rw [p_117 (okD_iff.1 hok) hn hsz]; rfl
theorem law_22 (d : Drum) (tr : Truth) : s_22 1000 d tr = some true := by
 unfold s_22
 rw [p_23, Option.bind_some]
 have out : s_22_j1 1000 d tr true = some true := by unfold s_22_j1; rw [cond_true, p_24, Option.bind_some]
 cases hsh : shortB d with
 | false => simp only [Bool.not_false, cond_true]; exact out
 | true =>
  simp only [Bool.not_true, cond_false]
  cases decide (15 < ((List.length tr.strength : Nat) : Int)) with
  | true => exact out
  | false =>
   have hs := shortB_iff.1 hsh
   have hn : 100 ≤ 1000 := by omega
   unfold s_22_j1
   simp only [cond_false, p_79 hn hs, p_68 hn hs, p_69 hn hs, p_39 hn hs, Option.bind_some]
   cases hok : okD d with
   | false =>
    have he : err d true = 2 := by unfold err; rw [hok]; rfl
    simp [he, p_24]
   | true =>
    have hd := okD_iff.1 hok
    have hil := idx_len hd
    have last : s_22_j4 1000 d (bif decide (err d true = 0) then intL (idx d) else [], err d true) = some true := by
     unfold s_22_j4
     rw [p_80 hd hn, Option.bind_some]
     cases hx : idx d with
     | nil =>
      have he : err d true = 7 := by unfold err; rw [hok, hx]; rfl
      simp [he, intL, p_24]
     | cons i r =>
      have he : err d true = 0 := by unfold err; rw [hok, hx]; rfl
      rw [he, decide_eq_false (by simp [intL]; omega), cond_false]
      simp only [decide_true, cond_true]
      rw [p_58 1000 hn _ _ (by rw [hx] at hil; simp [intL] at hil ⊢; omega), Option.bind_some, decide_eq_true rfl, p_24]
      rfl
    simp only [Bool.not_true, cond_false, cond_true, decide_true, Bool.true_and, p_44, Option.bind_some]
    cases hsz : sizedB d tr with
    | false =>
     simp only [Bool.not_false, cond_true, cond_false, decide_true, Bool.not_true]
     exact last
    | true =>
     simp only [Bool.not_true, cond_true, cond_false, decide_true, p_45 hd hn hsz, Option.bind_some]
     unfold s_22_j3
     cases fitB d tr <;> exact last
end
end Go.Proofs.YtohmhlkdgfcaeaaGreatDoor
namespace Go.Proofs.YtohmhlkdgfcaeaaGreatDoor
open Go Go.RowKit
section
variable {α : Type} (lt : α → α → Bool)
def least : α → List α → α
 | x, [] => x
 | x, y :: r => least (bif lt y x then y else x) r
end
end Go.Proofs.YtohmhlkdgfcaeaaGreatDoor
namespace Go.Proofs.YtohmhlkdgfcaeaaGreatDoor
open Go Go.RowKit
def rn : Int → List Int → Int
 | c, [] => c
 | c, x :: r => rn (max c (x + 1)) r
def rgB : Int → List Int → Bool
 | _, [] => true
 | c, x :: r => decide (x ≤ c) && rgB (max c (x + 1)) r
theorem rgB_app : ∀ (l : List Int) (c x : Int), rgB c (l ++ [x]) = (rgB c l && decide (x ≤ rn c l)) := by
 intro l
 induction l with
 | nil =>
  intro c x
  show (decide (x ≤ c) && true) = (true && decide (x ≤ c))
  rw [Bool.and_true, Bool.true_and]
 | cons y r ih => intro c x; rw [List.cons_append, rgB, ih, rgB, rn, Bool.and_assoc]
end Go.Proofs.YtohmhlkdgfcaeaaGreatDoor
namespace Go.Proofs.YtohmhlkdgfcaeaaGreatDoor
open Go Go.RowKit
structure Way (l : List Int) : Prop where
 rg : rgB 0 l = true
 nn : ∀ x ∈ l, 0 ≤ x
theorem Way.nil : Way [] := ⟨rfl, by simp⟩
theorem Way.step {l : List Int} (h : Way l) {x : Nat} (hx : (x : Int) ≤ rn 0 l) : Way (l ++ [(x : Int)]) :=
 ⟨by rw [rgB_app, h.rg, decide_eq_true hx]; rfl, fun y hy => by
  rcases List.mem_append.1 hy with hy | hy
  ·exact h.nn y hy
  ·obtain rfl := List.mem_singleton.1 hy; omega⟩
end Go.Proofs.YtohmhlkdgfcaeaaGreatDoor
namespace Go.Proofs.YtohmhlkdgfcaeaaGreatDoor
open Go Go.RowKit Go.ChangeShapes Go.WideShapes
set_option maxRecDepth 100000
theorem drumCoulds_lifted (os : Os) (started : os.Started) (H : Type) (enc : TypeId × Value → H) :
  ReturnsInHanded {} Tryz.checked os 22 .any (fun w args => (Rows.drumCouldsSpec.pre enc Tryz.prog Tryz.f22 [] false w args ∧ laidMetH Tryz.prog Rows.drumCouldsRow.laid w) ∧ sizedMet enc Tryz.prog Tryz.f22 (OpenSpec.ofChange Rows.drumCouldsSpec) false w args)
   (Rows.drumCouldsSpec.post enc Tryz.prog Tryz.f22 false true false false) :=
 law_row (s := Rows.drumCouldsSpec) (enc := enc) started #[.agg #[.slice none 0 0, .int .i64 0, .int .i64 0, .slice none 0 0, .slice none 0 0, .slice none 0 0], .agg #[.int .i64 0, .slice none 0 0]] (by kernel_rfl) Tryz.func22 (by kernel_rfl) (by kernel_rfl) (by kernel_rfl) rfl
   (by
    rw [Tryz.params22]
    have h : ∀ t ∈ ([27, 54] : List Nat), t ∈ [3, 9, 23, 27, 54, 92] := by decide
    exact fun t ht => parT t (h t ht)) rfl
   (by
    rw [Tryz.params22]
    intro ds h
    match ds, h with
    | [d0, d1], _ => rfl)
   (by
    rw [Tryz.params22]
    intro W base args ds p hval hA
    obtain ⟨args⟩ := args
    obtain ⟨v0, vs0, d0, ds0, p0, q0, e0, rfl, rfl, h0, r0⟩ := trodAll_cons hA
    have e0 : args = _ := e0; subst e0
    obtain ⟨v1, vs1, d1, ds1, p1, q1, e1, rfl, rfl, h1, r1⟩ := trodAll_cons r0
    subst e1
    obtain ⟨rfl, rfl, rfl⟩ := trodAll_nil r1
    obtain ⟨x0, z0⟩ := rd_drum (hval 0 27 v0 rfl rfl) h0
    obtain ⟨x1, z1⟩ := rd_truth (hval 1 54 v1 rfl rfl) h1
    refine ⟨rfl, [.agg (cDrum x0), .agg (cTruth x1)], ⟨rfl, ?_⟩, c_22 1000 x0 x1 (law_22 x0 x1)⟩
    intro j c u hc hu
    match j, hc, hu with
    | 0, hc, hu => cases hc; cases hu; exact z0
    | 1, hc, hu => cases hc; cases hu; exact z1)
theorem drumCoulds_facts : factsA Tryz.prog Tryz.f22 Rows.drumCouldsSpec Rows.drumCouldsRow = true := by kernel_rfl
theorem drumCoulds_road0 : (Rows.drumCouldsRow.inPlace == Tryz.prog.inPlace 22) = true := by kernel_rfl
theorem drumCoulds_road1 : (Rows.drumCouldsRow.unfollowed == Tryz.prog.unfollowed 22) = true := by kernel_rfl
theorem drumCoulds_road2 : (Rows.drumCouldsRow.recurses == Tryz.prog.recurses 22) = true := by kernel_rfl
theorem drumCoulds_road3 : (Rows.drumCouldsRow.named == Tryz.prog.varsNamed 22) = true := by kernel_rfl
theorem drumCoulds_row : Rows.DrumCouldsSaid :=
 OpenClaim.holds_of_wide 22 Tryz.f22 rfl rfl rfl rfl rfl rfl rfl ⟨rfl, rfl, rfl, rfl, rfl⟩ rfl rfl rfl rfl rfl (by as_aux_lemma => kernel_rfl) Tryz.func22 (joined_of drumCoulds_facts drumCoulds_road0 drumCoulds_road1 drumCoulds_road2 drumCoulds_road3)
  (of_decide_eq_true (by as_aux_lemma => kernel_rfl)) (by unfold Func.isWrapper; rw [if_neg (of_decide_eq_false (by as_aux_lemma => kernel_rfl))]; exact ⟨rfl, rfl⟩)
  (fun os started H enc _ => drumCoulds_lifted os started H enc)
theorem drumCoulds_card : Rows.DrumCouldsCardSaid :=
 Claim7.holds_tied_plain_at .later [] [.data, .data, .data, .data, .pinned] true (true, "263524fd91af563947b647e8709e73ef988cdef21cccd4074f632dc410392126") true drumCoulds_row (fun _ h => by cases h) (by as_aux_lemma => kernel_rfl) (fun _ h => by cases h) drumCoulds_row_tie rfl ⟨rfl, rfl⟩ mainK rfl
  (fun f fn hf hfn => by
   obtain rfl : f = 22 := Option.some.inj ((show Tryz.prog.funcNamed "nacre/nacrelaw03.DrumCoulds" = some 22 by as_aux_lemma => kernel_rfl).symm.trans hf) |>.symm
   obtain rfl : fn = Tryz.f22 := (Option.some.inj (Tryz.func22.symm.trans hfn)).symm
   exact ⟨looksK, fun j t ht => by
    rw [Tryz.params22] at ht
    have hm : t ∈ [27, 54] := by simpa using Array.mem_of_getElem? ht
    have h : ∀ t ∈ ([27, 54] : List Nat), t ∈ [3, 9, 23, 27, 54, 92] := by decide
    exact standK t (h t hm)⟩)
  (by as_aux_lemma => kernel_rfl)
#print axioms drumCoulds_card
end Go.Proofs.YtohmhlkdgfcaeaaGreatDoor
