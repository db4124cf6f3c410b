/- DrumSpoilt: a slip of a drum of which one digit was changed to another one is never read. For every input that can be read as data, the tables of Go's library being as their text lays them: the call returns true, and each argument reads behind it as before. -/
import Derived.Test.YtohmhlkdgfcaeaaGreatDoorTie
import Derived.Test.YtohmhlkdgfcaeaaGreatDoorCards
import Derived.Test.YtohmhlkdgfcaeaaGreatDoorX9a
set_option linter.unusedVariables false
set_option linter.unusedSimpArgs false
namespace Go.Proofs.YtohmhlkdgfcaeaaGreatDoor
open Go Go.RowKit
section
variable {n : Nat} {d : Drum}
theorem p_110 (hn : 1000 ≤ n) (l : Bs) (hl : l.length ≤ 700) : ∃ v, s_110 n (bs l) = some v ∧ ResT v (readP l) := by
 unfold s_110 readP
 have h0 : s_159 n (bs l) (ByteArray.mk #[10]) = some ((splt 10 l).map bs) := p_159 n l 10 (by omega)
 have hsl := spl_len 10 l
 have hcl : l.count 10 ≤ l.length := List.count_le_length
 have hpart : ∀ p ∈ splt 10 l, p.length ≤ 700 := by
  have key : ∀ l : Bs, ∀ p ∈ splt 10 l, p.length ≤ l.length := by
   intro l
   induction l with
   | nil => intro p hp; obtain rfl := List.mem_singleton.1 hp; simp
   | cons b r ih =>
    intro p hp
    rw [splt] at hp
    by_cases e : b = 10
    ·rw [if_pos e] at hp
     rcases List.mem_cons.1 hp with rfl | hp
     ·simp
     ·have := ih p hp; rw [List.length_cons]; omega
    ·rw [if_neg e] at hp
     cases hs : splt 10 r with
     | nil => exact absurd hs (spl_ne 10 r)
     | cons y ys =>
      rw [hs] at hp ih
      rcases List.mem_cons.1 hp with rfl | hp
      ·have := ih y List.mem_cons_self; simp only [List.length_cons]; omega
      ·have := ih p (List.mem_cons_of_mem _ hp); rw [List.length_cons]; omega
  intro p hp
  have := key l p hp
  omega
 have hlen : decide (3 ≤ ((((splt 10 l).map bs).length : Nat) : Int)) = decide (3 ≤ (splt 10 l).length) := by rw [decide_eq_decide, List.length_map]; omega
 rw [h0, Option.bind_some, hlen]
 obtain ⟨v, v1, v2⟩ := p_160 (n := n) (decide (3 ≤ (splt 10 l).length)) (bs l)
 rw [v1, Option.bind_some]
 by_cases c : 3 ≤ (splt 10 l).length
 ·rw [if_pos c]
  rw [if_pos (decide_eq_true c)] at v2
  have hg : ix ((splt 10 l).map bs) 0 = some (bs ((splt 10 l).getD 0 [])) := by
   refine ix_at (i := 0) ?_
   rw [List.getElem?_map, List.getElem?_eq_getElem (show 0 < (splt 10 l).length by omega), List.getD_eq_getElem?_getD, List.getElem?_eq_getElem (show 0 < (splt 10 l).length by omega)]
   rfl
  have hp0 : ((splt 10 l).getD 0 []).length ≤ 700 := by
   rw [List.getD_eq_getElem?_getD, List.getElem?_eq_getElem (show 0 < (splt 10 l).length by omega)]
   exact hpart _ (List.getElem_mem _)
  obtain ⟨w, w1, w2⟩ := p_161 (n := n) ((splt 10 l).getD 0 []) fHead (by omega) (by omega)
  have w1' : s_161 n (bs ((splt 10 l).getD 0 [])) ([(ByteArray.mk #[100, 114, 117, 109]), (ByteArray.mk #[]), (ByteArray.mk #[107, 110, 111, 119, 110]), (ByteArray.mk #[])]) = some w := w1
  have := resT_bind (β := Drum) v2 (fun v103 => (ix ((splt 10 l).map bs) 0).bind fun v104 => (s_161 n v104 ([(ByteArray.mk #[100, 114, 117, 109]), (ByteArray.mk #[]), (ByteArray.mk #[107, 110, 111, 119, 110]), (ByteArray.mk #[])])).bind fun v105 =>
   Except.casesOn (motive := fun _ => Option (Except Value (Drum))) v105 (fun p => some (.error p)) (fun v106 => (ix v106 0).bind fun v107 => (ix v106 1).bind fun v108 => (s_154 n).bind fun v109 => (subl ((splt 10 l).map bs) 1 (wr (((((splt 10 l).map bs).length : Nat) : Int) - 2))).bind fun v110 => s_110_l1 n (bs l) v107 v108 v109 v110 n 0 [] [] [] []))
   (fun _ => (told fHead ((splt 10 l).getD 0 [])).bind fun ns => (rdLines ⟨[], ns.getD 1 0, ns.getD 0 0, [], [], []⟩ (((splt 10 l).take ((splt 10 l).length - 2)).drop 1)).bind fun d => if slip d = l then some d else none)
   (fun a _ => by
    rw [hg, Option.bind_some, w1', Option.bind_some]
    refine resT_bind w2 _ _ (fun ns hns => ?_)
    obtain ⟨_, b, c4⟩ := told_spec hns
    have c4 : ns.length = 2 := c4
    have q0 : ix ns 0 = some (ns.getD 0 0) := ix_getD (i := 0) (by omega)
    have q1 : ix ns 1 = some (ns.getD 1 0) := ix_getD (i := 1) (by omega)
    have hsub : subl ((splt 10 l).map bs) 1 (wr (((((splt 10 l).map bs).length : Nat) : Int) - 2)) = some ((((splt 10 l).take ((splt 10 l).length - 2)).drop 1).map bs) := by
     rw [List.length_map, wr_of (by omega)]
     unfold subl
     have e : (((splt 10 l).length : Int) - 2).toNat = (splt 10 l).length - 2 := by omega
     rw [decide_eq_true (by omega), decide_eq_true (by omega), decide_eq_true (by rw [List.length_map]; omega), e, List.map_drop, List.map_take]
     rfl
    rw [q0, Option.bind_some, q1, Option.bind_some]
    show ∃ s, (subl ((splt 10 l).map bs) 1 (wr (((((splt 10 l).map bs).length : Nat) : Int) - 2))).bind (fun v110 => s_110_l1 n (bs l) (ns.getD 0 0) (ns.getD 1 0) wTup v110 n 0 [] [] [] []) = some s ∧ _
    rw [hsub, Option.bind_some]
    have hA : AccD ⟨[], ns.getD 1 0, ns.getD 0 0, [], [], []⟩ 0 := ⟨getD_ok b 0 (by omega), getD_ok b 1 (by omega), by simp, by simp, by simp, by simp, by simp, by simp [adL, kAdd, nums]⟩
    exact p_110_l1 hn l _ (by rw [List.length_drop, List.length_take]; omega) (fun p hp => by
     have := hpart p (List.mem_of_mem_take (List.mem_of_mem_drop hp)); omega) _ _ _ 0 n _ rfl (by omega) (by rw [List.length_drop, List.length_take]; omega) hA rfl rfl)
  obtain ⟨s, s1, s2⟩ := this
  exact ⟨s, s1, s2⟩
 ·rw [if_neg c]
  rw [if_neg (by rw [decide_eq_false c]; simp)] at v2
  obtain ⟨e, rfl, he⟩ := v2
  exact ⟨_, rfl, e, rfl, he⟩
theorem nums_no {c : UInt8} (hc : isDig c = false) (h32 : c ≠ 32) : ∀ l : List Int, (∀ x ∈ l, okZ x) → c ∉ nums l := by
 intro l
 induction l with
 | nil => intro _ h; simp [nums] at h
 | cons x r ih =>
  intro h hm
  have e : nums (x :: r) = (32 :: Lib.itoa x) ++ nums r := rfl
  rw [e] at hm
  rcases List.mem_append.1 hm with hm | hm
  ·rcases List.mem_cons.1 hm with hm | hm
   ·exact h32 hm
   ·exact itoa_no (h x List.mem_cons_self) hc hm
  ·exact ih (fun y hy => h y (List.mem_cons_of_mem _ hy)) hm
theorem no10 {w : Bs} (hw : (10 : UInt8) ∉ w) {l : List Int} (h : ∀ x ∈ l, okZ x) : (10 : UInt8) ∉ w ++ nums l := by
 intro hm
 rcases List.mem_append.1 hm with hm | hm
 ·exact hw hm
 ·exact nums_no rfl (by decide) l h hm
theorem lines_no (h : Fine d) : ∀ l ∈ linesOf d, (10 : UInt8) ∉ l := by
 intro l hl
 unfold linesOf at hl
 rcases List.mem_cons.1 hl with rfl | hl
 ·unfold hdL
  intro hm
  rcases List.mem_append.1 hm with hm | hm
  ·exact no10 (by decide) (mem1 h.h) hm
  ·exact no10 (by decide) (mem1 h.k) hm
 ·rcases List.mem_append.1 hl with hl | hl
  ·obtain ⟨a, ha, rfl⟩ := List.mem_map.1 hl
   have := h.a a ha
   unfold acL
   intro hm
   rcases List.mem_append.1 hm with hm | hm
   ·exact no10 (by decide) (mem2 this.1 this.2.1) hm
   ·exact no10 (by decide) (mem2 this.2.2.1 this.2.2.2) hm
  ·rcases List.mem_cons.1 hl with rfl | hl
   ·exact no10 (by decide) h.ad
   ·rcases List.mem_append.1 hl with hl | hl
    ·obtain ⟨a, ha, rfl⟩ := List.mem_map.1 hl
     have := h.s a ha
     exact no10 (by decide) (mem3 this.1 this.2.1 this.2.2)
    ·obtain ⟨a, ha, rfl⟩ := List.mem_map.1 hl
     have := h.b a ha
     exact no10 (by decide) (mem6 this.1 this.2.1 this.2.2.1 this.2.2.2.1 this.2.2.2.2.1 this.2.2.2.2.2)
theorem endL_no (k : Nat) (hk : k < 103) : (10 : UInt8) ∉ endL k := by
 obtain ⟨a, b, c, o1, o2, o3, _⟩ := end_cat hk
 unfold endL
 intro hm
 rcases List.mem_append.1 hm with hm | hm
 ·rcases List.mem_append.1 hm with hm | hm
  ·rcases List.mem_append.1 hm with hm | hm
   ·revert hm; decide
   ·exact itoa_no o1 rfl hm
  ·exact itoa_no o2 rfl hm
 ·exact itoa_no o3 rfl hm
theorem splt_lines : ∀ (L : List Bs) (t : Bs), (∀ l ∈ L, (10 : UInt8) ∉ l) → splt 10 (L.flatMap (· ++ [10]) ++ t) = L ++ splt 10 t := by
 intro L
 induction L with
 | nil => intro t _; rfl
 | cons l r ih =>
  intro t h
  have e : (l :: r).flatMap (· ++ [10]) ++ t = l ++ 10 :: (r.flatMap (· ++ [10]) ++ t) := by simp
  rw [e, spl_app 10 l _ (h l List.mem_cons_self), ih t (fun x hx => h x (List.mem_cons_of_mem _ hx))]
  rfl
theorem splt_slip (h : Fine d) : splt 10 (slip d) = linesOf d ++ [endL (chk (linesOf d)), []] := by
 unfold slip slipOf
 have hk : chk (linesOf d) < 103 := Nat.mod_lt _ (by omega)
 rw [splt_lines _ _ (lines_no h), spl_app 10 _ [] (endL_no _ hk)]
 rfl
end
end Go.Proofs.YtohmhlkdgfcaeaaGreatDoor
namespace Go.Proofs.YtohmhlkdgfcaeaaGreatDoor
open Go Go.RowKit
theorem loop_same {α : Type} [DecidableEq α] (l m : List α) (L : Nat → Int → Option Bool) (h : ∀ (k i : Nat), L (k + 1) (i : Int) = bif decide ((i : Int) < ((l.length : Nat) : Int)) then (ix l (i : Int)).bind (fun x => (ix m (i : Int)).bind fun y => bif !decide (x = y) then some false else L k (wr ((i : Int) + 1))) else some true)
  (hlen : l.length = m.length) (hl : l.length ≤ 1000) {n : Nat} (hn : l.length < n) : L n 0 = some (decide (l = m)) := by
 have h1 := loop_list l (fun k i (_ : Unit) => L k i) (fun i x s K => (ix m (i : Int)).bind fun y => bif !decide (x = y) then some false else K s) (fun _ => some true) (fun k i s => h k i) (by omega) n 0 () (by omega) (by omega)
 rw [show ((0 : Nat) : Int) = 0 from rfl] at h1
 rw [h1]
 have key : ∀ (r : List α) (i : Nat), l.drop i = r → fc (σ := Unit) (fun i x s K => (ix m (i : Int)).bind fun y => bif !decide (x = y) then some false else K s) (fun _ => some true) i r () = some (decide (r = m.drop i)) := by
  intro r
  induction r with
  | nil =>
   intro i hi
   have : l.length ≤ i := List.drop_eq_nil_iff.1 hi
   rw [List.drop_eq_nil_of_le (by omega)]
   simp [fc]
  | cons x r ih =>
   intro i hi
   have hil : i < l.length := by
    rcases Nat.lt_or_ge i l.length with h | h
    ·exact h
    ·rw [List.drop_eq_nil_of_le h] at hi; cases hi
   have hr : l.drop (i + 1) = r := by
    rw [List.drop_eq_getElem_cons hil] at hi
    cases hi; rfl
   rw [fc, ix_at (List.getElem?_eq_getElem (show i < m.length by omega)), Option.bind_some, List.drop_eq_getElem_cons (show i < m.length by omega), ih (i + 1) hr]
   generalize List.drop (i + 1) m = q
   generalize m[i] = y
   by_cases hx : x = y
   ·rw [decide_eq_true hx, Bool.not_true, cond_false]
    subst hx
    simp
   ·rw [decide_eq_false hx, Bool.not_false, cond_true]
    simp [hx]
 rw [List.drop_zero]
 simpa using key l 0 rfl
theorem p_58 (n : Nat) (hn : 100 ≤ n) (l m : List Int) (hl : l.length ≤ 50) : s_58 n l m = some (decide (l = m)) := by
 unfold s_58
 by_cases hlen : l.length = m.length
 ·rw [show decide (((l.length : Nat) : Int) = ((m.length : Nat) : Int)) = true from decide_eq_true (by omega), Bool.not_true, cond_false]
  exact loop_same l m (s_58_l1 l m) (fun k i => by rw [s_58_l1]) hlen (by omega) (by omega)
 ·rw [show decide (((l.length : Nat) : Int) = ((m.length : Nat) : Int)) = false from decide_eq_false (by omega), Bool.not_false, cond_true, decide_eq_false (fun h => hlen (by rw [h]))]
end Go.Proofs.YtohmhlkdgfcaeaaGreatDoor
namespace Go.Proofs.YtohmhlkdgfcaeaaGreatDoor
open Go Go.RowKit
section
variable {n : Nat} {d : Drum}
theorem pow4 {k : Nat} (h : k ≤ 4) : (0 : Int) < 2 ^ k ∧ (2 : Int) ^ k ≤ 16 := by
 have h1 : (2 : Nat) ^ k ≤ 2 ^ 4 := Nat.pow_le_pow_right (by omega) h
 have h2 : (0 : Nat) < 2 ^ k := Nat.pow_pos (by omega)
 exact ⟨by exact_mod_cast h2, by exact_mod_cast h1⟩
theorem okN_short (h : okN d = true) : Short d := by
 simp only [okN, Bool.and_eq_true, inb_iff, decide_eq_true_eq] at h
 obtain ⟨h1, h2, h3, h4, h5, h6⟩ := h
 exact ⟨by omega, by omega, by omega, by omega⟩
theorem p_104w (hn : 100 ≤ n) (d : Drum) : s_104 n d = some (okD d) := by
 by_cases hN : okN d = true
 ·exact p_104 hn (okN_short hN)
 ·have e : okD d = false := by unfold okD; rw [Bool.eq_false_iff.2 hN]; rfl
  rw [e]
  unfold s_104
  simp only [p_87, Option.bind_some]
  cases h1 : inb d.acids.length 1 4 with
  | false => rfl
  | true =>
   have hl := inb_iff.1 h1
   have h34 := pow4 (k := d.acids.length) (by omega)
   have hsh : shl .i64 1 ((List.length d.acids : Nat) : Int) = some (2 ^ d.acids.length) := by
    unfold shl
    rw [show decide ((0 : Int) ≤ ((List.length d.acids : Nat) : Int)) = true from decide_eq_true (by omega), cond_true]
    have hm : min ((List.length d.acids : Nat) : Int).toNat IntKind.i64.bits = d.acids.length := by
     show min d.acids.length 64 = d.acids.length
     omega
    rw [hm, Int.one_mul]
    exact congrArg some (wr_of (by omega))
   rw [hsh, cond_true]
   simp only [Option.bind_some]
   rw [wr_of (by omega)]
   unfold okN at hN
   rw [h1] at hN
   revert hN
   cases inb d.known 1 (2 ^ d.acids.length - 1) <;> cases inb d.hours 1 12 <;> cases decide (((d.adds.length : Nat) : Int) = d.hours) <;> cases decide (((d.strips.length : Nat) : Int) ≤ 6) <;> cases inb d.batches.length 1 5 <;> intro hN <;> first | rfl | exact absurd rfl hN
theorem p_39w (hn : 100 ≤ n) (d : Drum) : s_39 n d = some (okD d) := by
 by_cases hN : okN d = true
 ·exact p_39 hn (okN_short hN)
 ·have e : okD d = false := by unfold okD; rw [Bool.eq_false_iff.2 hN]; rfl
  rw [e]
  unfold s_39
  simp only [p_103, Option.bind_some, s_39_j4]
  cases h1 : inb d.acids.length 1 4 with
  | false => rfl
  | true =>
   have hl := inb_iff.1 h1
   have h34 := pow4 (k := d.acids.length) (by omega)
   rw [p_106 hn (by omega)]
   simp only [Option.bind_some]
   rw [wr_of (by omega)]
   have h5 : decide (6 < ((d.strips.length : Nat) : Int)) = !decide (((d.strips.length : Nat) : Int) ≤ 6) := by
    by_cases h : ((d.strips.length : Nat) : Int) ≤ 6
    ·simp [h]
    ·simp [h]; omega
   rw [h5]
   unfold okN at hN
   rw [h1] at hN
   revert hN
   cases inb d.known 1 (2 ^ d.acids.length - 1) <;> cases inb d.hours 1 12 <;> cases decide (((d.adds.length : Nat) : Int) = d.hours) <;> cases decide (((d.strips.length : Nat) : Int) ≤ 6) <;> cases inb d.batches.length 1 5 <;> intro hN <;> first | rfl | exact absurd rfl hN
theorem ok_fine (h : d.ok) : Fine d := by
 have hac := h.acl
 have hkn := h.kn
 have hhr := h.hr
 have hadl := h.adl
 have hst := h.stl
 have hbt := h.btl
 have hp := pow4 hac.2
 have hz : ∀ x ∈ d.adds, okZ x := fun x hx => by have := h.ad x hx; exact ⟨by omega, by omega⟩
 have hnl := nums_len d.adds hz
 refine ⟨⟨by omega, by omega⟩, ⟨by omega, by omega⟩, fun a ha => ?_, hz, fun s hs => ?_, fun b hb => ?_, by omega, ?_⟩
 ·have := h.ac a ha
  obtain ⟨h1, h2⟩ := this
  unfold Span.ok at h1 h2
  exact ⟨⟨by omega, by omega⟩, ⟨by omega, by omega⟩, ⟨by omega, by omega⟩, ⟨by omega, by omega⟩⟩
 ·obtain ⟨h1, h2, h3⟩ := h.st s hs
  exact ⟨⟨by omega, by omega⟩, ⟨by omega, by omega⟩, ⟨by omega, by omega⟩⟩
 ·obtain ⟨h1, h2, h3, h4, h5, h6⟩ := h.bt b hb
  exact ⟨⟨by omega, by omega⟩, ⟨by omega, by omega⟩, ⟨by omega, by omega⟩, ⟨by omega, by omega⟩, ⟨by omega, by omega⟩, ⟨by omega, by omega⟩⟩
 ·unfold adL kAdd
  simp only [List.length_append, List.length_cons, List.length_nil]
  omega
theorem flat_le {α : Type} (f : α → Bs) (k : Nat) : ∀ l : List α, (∀ x ∈ l, (f x).length ≤ k) → ((l.map f).flatMap (· ++ [10])).length ≤ (k + 1) * l.length := by
 intro l
 induction l with
 | nil => intro _; simp
 | cons x r ih =>
  intro h
  have h1 := h x List.mem_cons_self
  have h2 := ih (fun y hy => h y (List.mem_cons_of_mem _ hy))
  rw [List.map_cons, List.flatMap_cons, List.length_append, List.length_append]
  simp only [List.length_cons, List.length_nil]
  have h3 : (k + 1) * (r.length + 1) = (k + 1) * r.length + (k + 1) := Nat.mul_succ _ _
  omega
theorem endL_len {k : Nat} (hk : k < 103) : (endL k).length ≤ 16 := by
 obtain ⟨a, b, c, o1, o2, o3, e1, e2, e3, l1, l2, l3⟩ := end_cat hk
 unfold endL
 rw [← e1, ← e2, ← e3]
 simp [kEnd]
 omega
theorem slip_len (h : d.ok) : (slip d).length ≤ 600 := by
 have hf := ok_fine h
 have hac := h.acl
 have hhr := h.hr
 have hadl := h.adl
 have hst := h.stl
 have hbt := h.btl
 have l1 : (hdL d).length ≤ 30 := hd_len hf
 have l2 := flat_le acL 29 d.acids (fun a ha => by
  obtain ⟨h1, h2, h3, h4⟩ := hf.a a ha
  have g1 := nums_len _ (mem2 h1 h2)
  have g2 := nums_len _ (mem2 h3 h4)
  unfold acL
  simp [kAcid, kFall] at *
  omega)
 have l3 := flat_le stL 20 d.strips (fun s hs => by
  obtain ⟨h1, h2, h3⟩ := hf.s s hs
  have g1 := nums_len _ (mem3 h1 h2 h3)
  unfold stL
  simp [kStrip] at *
  omega)
 have l4 := flat_le baL 35 d.batches (fun b hb => by
  obtain ⟨h1, h2, h3, h4, h5, h6⟩ := hf.b b hb
  have g1 := nums_len _ (mem6 h1 h2 h3 h4 h5 h6)
  unfold baL
  simp [kBatch] at *
  omega)
 have l5 := nums_len d.adds hf.ad
 have l6 : (adL d).length ≤ 63 := by
  unfold adL kAdd
  simp only [List.length_append, List.length_cons, List.length_nil]
  omega
 have l7 := endL_len (k := chk (linesOf d)) (by unfold chk; exact Nat.mod_lt _ (by omega))
 unfold slip slipOf
 have e : (linesOf d).flatMap (· ++ [10]) = (hdL d ++ [10]) ++ ((d.acids.map acL).flatMap (· ++ [10]) ++ ((adL d ++ [10]) ++ ((d.strips.map stL).flatMap (· ++ [10]) ++ (d.batches.map baL).flatMap (· ++ [10])))) := by
  unfold linesOf
  rw [List.flatMap_cons, List.flatMap_append, List.flatMap_cons, List.flatMap_append]
 rw [e]
 simp only [List.length_append, List.length_cons, List.length_nil]
 omega
theorem p_40 (l : Bs) (hl : l.length ≤ 600) : s_40 1000 (bs l) = some (match readP l with | none => (noDrum, 4) | some d => bif okD d then (d, 0) else (noDrum, 2)) := by
 unfold s_40
 have h0 : decide (600 < ((ByteArray.size (bs l) : Nat) : Int)) = false := decide_eq_false (by rw [bs_size]; omega)
 rw [h0, cond_false]
 obtain ⟨v, v1, v2⟩ := p_110 (n := 1000) (Nat.le_refl _) l (by omega)
 rw [v1, Option.bind_some]
 cases hr : readP l with
 | none =>
  rw [hr] at v2
  obtain ⟨e, rfl, he⟩ := v2
  show (bif isText e then some (noDrum, 4) else none) = some (noDrum, 4)
  rw [he]; rfl
 | some d =>
  rw [hr] at v2
  obtain rfl : v = .ok d := v2
  show (s_104 1000 d).bind (fun b => bif !b then some (noDrum, 2) else some (d, 0)) = some (bif okD d then (d, 0) else (noDrum, 2))
  rw [p_104w (by omega), Option.bind_some]
  cases okD d <;> rfl
theorem p_38 (d : Drum) : s_38 1000 d = some (bif okD d then (bs (slip d), 0) else (ByteArray.mk #[], 2)) := by
 unfold s_38
 rw [p_104w (by omega), Option.bind_some]
 cases h : okD d with
 | false => rfl
 | true =>
  rw [p_105 (Nat.le_refl _) (ok_fine (okD_iff.1 h))]
  rfl
theorem loop_self {α : Type} [DecidableEq α] (l : List α) (L : Nat → Int → Option Bool) (K : Option Bool)
  (h : ∀ (k i : Nat), L (k + 1) (i : Int) = bif decide ((i : Int) < ((l.length : Nat) : Int)) then (ix l (i : Int)).bind (fun x => (ix l (i : Int)).bind fun y => bif (!decide (x = y)) then some false else L k (wr ((i : Int) + 1))) else K)
  (hl : l.length ≤ 1000) {n : Nat} (hn : l.length < n) : L n 0 = K := by
 have key : ∀ (r i k : Nat), i + r = l.length → r < k → L k (i : Int) = K := by
  intro r
  induction r with
  | zero =>
   intro i k hi hk
   obtain ⟨k, rfl⟩ : ∃ k', k = k' + 1 := ⟨k - 1, by omega⟩
   rw [h, decide_eq_false (by omega), cond_false]
  | succ r ih =>
   intro i k hi hk
   obtain ⟨k, rfl⟩ : ∃ k', k = k' + 1 := ⟨k - 1, by omega⟩
   have hil : i < l.length := by omega
   have := ih (i + 1) k (by omega) (by omega)
   push_cast at this
   rw [h, decide_eq_true (by omega), cond_true, ix_at (List.getElem?_eq_getElem hil)]
   simp only [Option.bind_some, decide_true, Bool.not_true, cond_false]
   rw [wr_of (by omega), this]
 exact key l.length 0 n (by omega) hn
theorem p_42_self (d : Drum) (ha : d.acids.length ≤ 900) (hb : d.adds.length ≤ 50) (hc : d.strips.length ≤ 900) (he : d.batches.length ≤ 900) : s_42 1000 d d = some true := by
 unfold s_42
 simp only [decide_true, Bool.not_true, cond_false, p_58 1000 (by omega) d.adds d.adds hb, Option.bind_some, s_42_j1]
 have h4 : s_42_l4 d d 1000 0 = some true := loop_self d.batches (s_42_l4 d d) _ (fun k i => by rw [s_42_l4]) (by omega) (by omega)
 have h3 : s_42_l3 1000 d d 1000 0 = some true := (loop_self d.strips (s_42_l3 1000 d d) (s_42_l4 d d 1000 0) (fun k i => by rw [s_42_l3]) (by omega) (by omega)).trans h4
 exact (loop_self d.acids (s_42_l2 1000 d d) (s_42_l3 1000 d d 1000 0) (fun k i => by rw [s_42_l2]) (by omega) (by omega)).trans h3
end
end Go.Proofs.YtohmhlkdgfcaeaaGreatDoor
namespace Go.Proofs.YtohmhlkdgfcaeaaGreatDoor
open Go Go.RowKit
theorem spl_mid {c : UInt8} : ∀ (p q : Bs), ∃ (A : List Bs) (u v : Bs) (B : List Bs), ∀ x : UInt8, x ≠ c → splt c (p ++ x :: q) = A ++ (u ++ x :: v) :: B := by
 intro p q
 induction p with
 | nil =>
  cases hs : splt c q with
  | nil => exact absurd hs (spl_ne c q)
  | cons y ys =>
   refine ⟨[], [], y, ys, fun x hx => ?_⟩
   rw [List.nil_append, splt, if_neg hx, hs]
   rfl
 | cons b r ih =>
  obtain ⟨A, u, v, B, h⟩ := ih
  by_cases e : b = c
  ·refine ⟨[] :: A, u, v, B, fun x hx => ?_⟩
   rw [List.cons_append, splt, if_pos e, h x hx]
   rfl
  ·cases A with
   | nil =>
    refine ⟨[], b :: u, v, B, fun x hx => ?_⟩
    rw [List.cons_append, splt, if_neg e, h x hx]
    rfl
   | cons y ys =>
    refine ⟨(b :: y) :: ys, u, v, B, fun x hx => ?_⟩
    rw [List.cons_append, splt, if_neg e, h x hx]
    rfl
theorem wsum_app : ∀ (u v : Bs) (i : Nat), wsum i (u ++ v) = wsum i u + wsum (i + u.length) v := by
 intro u
 induction u with
 | nil => intro v i; rw [List.nil_append, wsum]; simp
 | cons b r ih =>
  intro v i
  rw [List.cons_append, wsum, ih, wsum, List.length_cons, show i + (r.length + 1) = i + 1 + r.length by omega]
  omega
theorem mod103 {e q : Nat} (he : e ≤ 9) (hq : 1 ≤ q) (hq2 : q ≤ 102) (h : e * q % 103 = 0) : e = 0 := by
 have : e = 0 ∨ e = 1 ∨ e = 2 ∨ e = 3 ∨ e = 4 ∨ e = 5 ∨ e = 6 ∨ e = 7 ∨ e = 8 ∨ e = 9 := by omega
 rcases this with rfl | rfl | rfl | rfl | rfl | rfl | rfl | rfl | rfl | rfl
 ·rfl
 all_goals (exfalso; omega)
theorem chk_eq {A B : List Bs} {u v : Bs} {x b : UInt8} (hx : 48 ≤ x.toNat ∧ x.toNat ≤ 57) (hb : 48 ≤ b.toNat ∧ b.toNat ≤ 57) (hu : u.length + 1 ≤ 102) (h : chk (A ++ (u ++ x :: v) :: B) = chk (A ++ (u ++ b :: v) :: B)) : x = b := by
 have e : ∀ z : UInt8, ((A ++ (u ++ z :: v) :: B).map (wsum 0)).sum = (A.map (wsum 0)).sum + (wsum 0 u + (z.toNat * (u.length + 1) + wsum (u.length + 1) v) + (B.map (wsum 0)).sum) := by
  intro z
  rw [List.map_append, List.map_cons, List.sum_append, List.sum_cons, wsum_app, wsum, Nat.zero_add]
 unfold chk at h
 rw [e, e] at h
 apply UInt8.toNat_inj.1
 generalize (A.map (wsum 0)).sum = s1 at h
 generalize (B.map (wsum 0)).sum = s2 at h
 generalize wsum 0 u = s3 at h
 generalize wsum (u.length + 1) v = s4 at h
 rcases Nat.le_total x.toNat b.toNat with hl | hl
 ·obtain ⟨f, hf⟩ : ∃ f, b.toNat = x.toNat + f := ⟨b.toNat - x.toNat, by omega⟩
  rw [hf, Nat.add_mul] at h
  have := mod103 (e := f) (q := u.length + 1) (by omega) (by omega) hu (by omega)
  omega
 ·obtain ⟨f, hf⟩ : ∃ f, x.toNat = b.toNat + f := ⟨x.toNat - b.toNat, by omega⟩
  rw [hf, Nat.add_mul] at h
  have := mod103 (e := f) (q := u.length + 1) (by omega) (by omega) hu (by omega)
  omega
theorem endL_eq {k : Nat} (h : k < 103) : endL k = kEnd ++ [UInt8.ofNat (48 + k / 100), UInt8.ofNat (48 + k / 10 % 10), UInt8.ofNat (48 + k % 10)] := by
 unfold endL
 rw [itoa_nat, itoa_nat, itoa_nat, dec_small (by omega), dec_small (by omega), dec_small (by omega)]
 rfl
theorem spl_part {c : UInt8} : ∀ (l : Bs), ∀ p ∈ splt c l, p.length ≤ l.length := by
 intro l
 induction l with
 | nil => intro p hp; obtain rfl := List.mem_singleton.1 hp; simp
 | cons b r ih =>
  intro p hp
  rw [splt] at hp
  by_cases e : b = c
  ·rw [if_pos e] at hp
   rcases List.mem_cons.1 hp with rfl | hp
   ·simp
   ·have := ih p hp; rw [List.length_cons]; omega
  ·rw [if_neg e] at hp
   cases hs : splt c r with
   | nil => exact absurd hs (spl_ne c r)
   | cons y ys =>
    rw [hs] at hp ih
    rcases List.mem_cons.1 hp with rfl | hp
    ·have := ih y List.mem_cons_self; simp only [List.length_cons]; omega
    ·have := ih p (List.mem_cons_of_mem _ hp); rw [List.length_cons]; omega
theorem rdL_acc : ∀ (r : List Bs) (k : Nat) (d d' : Drum), AccD d k → (∀ l ∈ r, l.length ≤ 900) → rdLines d r = some d' → AccD d' (k + r.length) := by
 intro r
 induction r with
 | nil => intro k d d' h _ he; obtain rfl : d = d' := Option.some.inj he; exact h
 | cons l r ih =>
  intro k d d' h hl he
  rw [rdLines] at he
  obtain ⟨d1, h1, h2⟩ := Option.bind_eq_some_iff.1 he
  have := ih (k + 1) d1 d' (rd_acc h (hl l List.mem_cons_self) h1) (fun x hx => hl x (List.mem_cons_of_mem _ hx)) h2
  rw [List.length_cons, show k + (r.length + 1) = k + 1 + r.length by omega]
  exact this
theorem readP_fine {l : Bs} {d : Drum} (hl : l.length ≤ 700) (h : readP l = some d) : Fine d ∧ slip d = l := by
 unfold readP at h
 by_cases c : 3 ≤ (splt 10 l).length
 ·rw [if_pos c] at h
  obtain ⟨ns, h1, h2⟩ := Option.bind_eq_some_iff.1 h
  obtain ⟨d', h3, h4⟩ := Option.bind_eq_some_iff.1 h2
  by_cases e : slip d' = l
  ·rw [if_pos e] at h4
   obtain rfl := Option.some.inj h4
   obtain ⟨_, b, c4⟩ := told_spec h1
   have c4 : ns.length = 2 := c4
   have hA : AccD ⟨[], ns.getD 1 0, ns.getD 0 0, [], [], []⟩ 0 := ⟨getD_ok b 0 (by omega), getD_ok b 1 (by omega), by simp, by simp, by simp, by simp, by simp, by simp [adL, kAdd, nums]⟩
   have hsl := spl_len 10 l
   have hcl : l.count 10 ≤ l.length := List.count_le_length
   refine ⟨(rdL_acc _ 0 _ d' hA (fun p hp => ?_) h3).fine ?_, e⟩
   ·have := spl_part l p (List.mem_of_mem_take (List.mem_of_mem_drop hp)); omega
   ·rw [List.length_drop, List.length_take]; omega
  ·rw [if_neg e] at h4; cases h4
 ·rw [if_neg c] at h; cases h
section
variable {d : Drum}
theorem lines102 (hd : d.ok) : ∀ l ∈ linesOf d, l.length ≤ 102 := by
 have h := ok_fine hd
 have hhr := hd.hr
 have hadl := hd.adl
 have l5 := nums_len d.adds h.ad
 intro l hl
 unfold linesOf at hl
 rcases List.mem_cons.1 hl with rfl | hl
 ·have := hd_len h; omega
 ·rcases List.mem_append.1 hl with hl | hl
  ·obtain ⟨a, ha, rfl⟩ := List.mem_map.1 hl
   have := ac_len (h.a a ha); omega
  ·rcases List.mem_cons.1 hl with rfl | hl
   ·unfold adL kAdd
    simp only [List.length_append, List.length_cons, List.length_nil]
    omega
   ·rcases List.mem_append.1 hl with hl | hl
    ·obtain ⟨s, hs, rfl⟩ := List.mem_map.1 hl
     have := st_len (h.s s hs); omega
    ·obtain ⟨b, hb, rfl⟩ := List.mem_map.1 hl
     have := ba_len (h.b b hb); omega
theorem chk_lt (L : List Bs) : chk L < 103 := Nat.mod_lt _ (by omega)
theorem dig_inj : ∀ r : Nat, r < 10 → ∀ s : Nat, s < 10 → UInt8.ofNat (48 + r) = UInt8.ofNat (48 + s) → r = s := by decide
theorem endL_inj {k k' : Nat} (h : k < 103) (h' : k' < 103) (e : endL k = endL k') : k = k' := by
 rw [endL_eq h, endL_eq h'] at e
 have e := List.append_cancel_left e
 obtain ⟨e1, e⟩ := List.cons.inj e
 obtain ⟨e2, e⟩ := List.cons.inj e
 obtain ⟨e3, _⟩ := List.cons.inj e
 have f1 := dig_inj _ (by omega) _ (by omega) e1
 have f2 := dig_inj _ (by omega) _ (by omega) e2
 have f3 := dig_inj _ (by omega) _ (by omega) e3
 omega
theorem spoil (hd : d.ok) {p q : Bs} {x b : UInt8} (hs : slip d = p ++ x :: q) (hx : 48 ≤ x.toNat ∧ x.toNat ≤ 57) (hb : 48 ≤ b.toNat ∧ b.toNat ≤ 57) (hne : x ≠ b) : readP (p ++ b :: q) = none := by
 cases hr : readP (p ++ b :: q) with
 | none => rfl
 | some d' =>
  exfalso
  apply hne
  have hlen := slip_len hd
  have hlen2 : (p ++ b :: q).length ≤ 700 := by
   rw [hs] at hlen
   simp only [List.length_append, List.length_cons] at hlen ⊢
   omega
  obtain ⟨hf', hs'⟩ := readP_fine hlen2 hr
  have s1 := splt_slip (ok_fine hd)
  have s2 := splt_slip hf'
  rw [hs'] at s2
  rw [hs] at s1
  obtain ⟨A, u, v, B, hm⟩ := spl_mid (c := 10) p q
  have ne10 : ∀ z : UInt8, 48 ≤ z.toNat ∧ z.toNat ≤ 57 → z ≠ 10 := by
   intro z hz e
   rw [e] at hz
   have : (10 : UInt8).toNat = 10 := rfl
   omega
  rw [hm x (ne10 x hx)] at s1
  rw [hm b (ne10 b hb)] at s2
  have h102 := lines102 hd
  revert s1 s2 h102
  generalize linesOf d = M
  generalize linesOf d' = M'
  intro s2 s1 h102
  have kb := chk_lt M
  have kb' := chk_lt M'
  rcases Nat.lt_or_ge B.length 2 with hB | hB
  ·cases B with
   | nil =>
    have t1 : A ++ [u ++ x :: v] = (M ++ [endL (chk M)]) ++ [[]] := by rw [s1]; simp
    have := (List.append_inj' t1 rfl).2
    simp at this
   | cons z B =>
    obtain rfl : B = [] := List.eq_nil_of_length_eq_zero (by simp only [List.length_cons] at hB; omega)
    obtain ⟨a1, a2⟩ := List.append_inj' s1 rfl
    obtain ⟨b1, b2⟩ := List.append_inj' s2 rfl
    have c1 := (List.cons.inj a2).1
    have c2 := (List.cons.inj b2).1
    rw [← a1] at c1
    rw [← b1] at c2
    exact (List.cons.inj (List.append_cancel_left (c1.trans c2.symm))).1
  ·obtain ⟨B1, t, rfl, ht⟩ : ∃ B1 t, B = B1 ++ t ∧ t.length = 2 := ⟨B.take (B.length - 2), B.drop (B.length - 2), (List.take_append_drop _ _).symm, by rw [List.length_drop]; omega⟩
   have t1 : (A ++ (u ++ x :: v) :: B1) ++ t = M ++ [endL (chk M), []] := by rw [← s1]; simp
   have t2 : (A ++ (u ++ b :: v) :: B1) ++ t = M' ++ [endL (chk M'), []] := by rw [← s2]; simp
   obtain ⟨a1, a2⟩ := List.append_inj' t1 ht
   obtain ⟨b1, b2⟩ := List.append_inj' t2 ht
   have e := (List.cons.inj (a2.symm.trans b2)).1
   have ek := endL_inj kb kb' e
   have hu := h102 (u ++ x :: v) (by rw [← a1]; simp)
   rw [← a1, ← b1] at ek
   exact chk_eq hx hb (by simp only [List.length_append, List.length_cons] at hu; omega) ek
theorem w8 : ∀ r : Nat, r < 10 → wr (IntKind.u8.wrap (((48 + r : Nat) : Int) - 48)) = (r : Int) := by decide
theorem w9 : ∀ r : Nat, r < 10 → UInt8.ofNat (IntKind.u8.wrap (wr (48 + (r : Int)))).toNat = UInt8.ofNat (48 + r) ∧ (UInt8.ofNat (48 + r)).toNat = 48 + r := by decide
theorem bytes_back (l : Bs) : (l.map fun c => (c.toNat : Int)).map (fun n => UInt8.ofNat n.toNat) = l := by
 rw [List.map_map]
 conv => rhs; rw [← List.map_id l]
 refine List.map_congr_left (fun c _ => ?_)
 show UInt8.ofNat ((c.toNat : Int)).toNat = c
 rw [show ((c.toNat : Nat) : Int).toNat = c.toNat by omega, UInt8.ofNat_toNat]
theorem s9_skip (d : Drum) (v1 v2 : Int) : s_9_j1 1000 d v1 v2 true = some true := by
 unfold s_9_j1
 simp only [cond_true, p_24, Option.bind_some]
theorem s9_skip2 (v1 v2 : Int) (v : ByteArray × Int) : s_9_j2 1000 v1 v2 v true = some true := by
 unfold s_9_j2
 simp only [cond_true, p_24, Option.bind_some]
theorem law_9 (d : Drum) (v1 v2 : Int) : s_9 1000 d v1 v2 = some true := by
 unfold s_9
 rw [p_23, Option.bind_some]
 cases hsh : shortB d with
 | false => rw [Bool.not_false, cond_true, s9_skip]
 | true =>
  rw [Bool.not_true, cond_false, p_39w (by omega), Option.bind_some]
  cases hk : okD d with
  | false => rw [Bool.not_false, cond_true, s9_skip]
  | true =>
   have hok := okD_iff.1 hk
   rw [Bool.not_true, cond_false]
   by_cases h0 : v2 < 0
   ·rw [decide_eq_true h0, cond_true, s9_skip]
   rw [decide_eq_false h0, cond_false]
   by_cases h9 : 9 < v2
   ·rw [decide_eq_true h9, s9_skip]
   rw [decide_eq_false h9]
   unfold s_9_j1
   rw [cond_false, p_38, hk, cond_true, Option.bind_some]
   rw [show (!decide (((bs (slip d), 0) : ByteArray × Int).2 = 0)) = false from rfl, cond_false]
   by_cases a0 : v1 < 0
   ·rw [decide_eq_true a0, cond_true, s9_skip2]
   rw [decide_eq_false a0, cond_false]
   show (bif decide ((((bs (slip d)).size : Nat) : Int) ≤ v1) then _ else _) = _
   rw [bs_size]
   by_cases a1 : (((slip d).length : Nat) : Int) ≤ v1
   ·rw [decide_eq_true a1, cond_true, s9_skip2]
   rw [decide_eq_false a1, cond_false]
   obtain ⟨i, rfl⟩ := Int.eq_ofNat_of_zero_le (show 0 ≤ v1 by omega)
   obtain ⟨w, rfl⟩ := Int.eq_ofNat_of_zero_le (show 0 ≤ v2 by omega)
   have hi : i < (slip d).length := by omega
   have hs : slip d = (slip d).take i ++ (slip d)[i] :: (slip d).drop (i + 1) := by rw [← List.drop_eq_getElem_cons hi, List.take_append_drop]
   have hg : (slip d)[i]? = some (slip d)[i] := List.getElem?_eq_getElem hi
   generalize (slip d)[i] = x at hs hg
   rw [ixs_at hg]
   simp only [Option.bind_some]
   by_cases b0 : ((x.toNat : Nat) : Int) < 48
   ·rw [decide_eq_true b0, cond_true, s9_skip2]
   rw [decide_eq_false b0, cond_false]
   by_cases b1 : 57 < ((x.toNat : Nat) : Int)
   ·rw [decide_eq_true b1, cond_true, s9_skip2]
   rw [decide_eq_false b1, cond_false]
   obtain ⟨r, hr⟩ : ∃ r, x.toNat = 48 + r := ⟨x.toNat - 48, by omega⟩
   rw [hr, w8 r (by omega)]
   by_cases c0 : (r : Int) = (w : Int)
   ·rw [decide_eq_true c0, s9_skip2]
   rw [decide_eq_false c0]
   unfold s_9_j2
   rw [cond_false]
   obtain ⟨w1, w2⟩ := w9 w (by omega)
   have hix : ix (bytesOf (bs (slip d))) (i : Int) = some ((x.toNat : Nat) : Int) := ix_at (by unfold bytesOf; rw [bs_data, List.getElem?_map, hg]; rfl)
   have hst : strOfNums (sts (bytesOf (bs (slip d))) (i : Int) (IntKind.u8.wrap (wr (48 + (w : Int))))) = bs ((slip d).take i ++ UInt8.ofNat (48 + w) :: (slip d).drop (i + 1)) := by
    unfold strOfNums sts bytesOf
    rw [bs_data, List.map_set, bytes_back, w1, show ((i : Nat) : Int).toNat = i by omega, List.set_eq_take_append_cons_drop, if_pos hi]
    rfl
   show (ix (bytesOf (bs (slip d))) (i : Int)).bind (fun v111 => (s_40 1000 (strOfNums (sts (bytesOf (bs (slip d))) (i : Int) (IntKind.u8.wrap (wr (48 + (w : Int))))))).bind fun v112 => bif decide (v112.2 = 4) then (s_42 1000 v112.1 (Drum.mk [] 0 0 [] [] [])).bind fun v113 => bif v113 then (s_24 1000).bind fun v114 => some v114 else some false else some false) = some true
   have hlen := slip_len hok
   have hsp := spoil hok (b := UInt8.ofNat (48 + w)) hs (by omega) (by omega) (fun e => c0 (by rw [e, w2] at hr; omega))
   rw [hix, Option.bind_some, hst, p_40 _ (by rw [hs] at hlen; simp only [List.length_append, List.length_cons] at hlen ⊢; omega), hsp]
   simp only [Option.bind_some, decide_true, cond_true]
   have := p_42_self noDrum (by decide) (by decide) (by decide) (by decide)
   unfold noDrum at this ⊢
   rw [this, Option.bind_some, cond_true, p_24, Option.bind_some]
end
end Go.Proofs.YtohmhlkdgfcaeaaGreatDoor
namespace Go.Proofs.YtohmhlkdgfcaeaaGreatDoor
open Go Go.RowKit Go.ChangeShapes Go.WideShapes
set_option maxRecDepth 100000
theorem drumSpoilt_lifted (os : Os) (started : os.Started) (H : Type) (enc : TypeId × Value → H) :
  ReturnsInHanded {} Tryz.checked os 9 .any (fun w args => (Rows.drumSpoiltSpec.pre enc Tryz.prog Tryz.f9 [] false w args ∧ laidMetH Tryz.prog Rows.drumSpoiltRow.laid w) ∧ sizedMet enc Tryz.prog Tryz.f9 (OpenSpec.ofChange Rows.drumSpoiltSpec) false w args)
   (Rows.drumSpoiltSpec.post enc Tryz.prog Tryz.f9 false true false false) :=
 law_row (s := Rows.drumSpoiltSpec) (enc := enc) started #[.agg #[.slice none 0 0, .int .i64 0, .int .i64 0, .slice none 0 0, .slice none 0 0, .slice none 0 0], .int .i64 0, .int .i64 0] (by kernel_rfl) Tryz.func9 (by kernel_rfl) (by kernel_rfl) (by kernel_rfl) rfl
   (by
    rw [Tryz.params9]
    have h : ∀ t ∈ ([27, 3, 3] : List Nat), t ∈ [3, 9, 23, 27, 54, 92] := by decide
    exact fun t ht => parT t (h t ht)) rfl
   (by
    rw [Tryz.params9]
    intro ds h
    match ds, h with
    | [d0, d1, d2], _ => rfl)
   (by
    rw [Tryz.params9]
    intro W base args ds p hval hA
    obtain ⟨args⟩ := args
    obtain ⟨v0, vs0, d0, ds0, p0, q0, e0, rfl, rfl, h0, r0⟩ := trodAll_cons hA
    have e0 : args = _ := e0; subst e0
    obtain ⟨v1, vs1, d1, ds1, p1, q1, e1, rfl, rfl, h1, r1⟩ := trodAll_cons r0
    subst e1
    obtain ⟨v2, vs2, d2, ds2, p2, q2, e2, rfl, rfl, h2, r2⟩ := trodAll_cons r1
    subst e2
    obtain ⟨rfl, rfl, rfl⟩ := trodAll_nil r2
    obtain ⟨x0, z0⟩ := rd_drum (hval 0 27 v0 rfl rfl) h0
    obtain ⟨x1, z1⟩ := rd_int (hval 1 3 v1 rfl rfl)
    obtain ⟨x2, z2⟩ := rd_int (hval 2 3 v2 rfl rfl)
    refine ⟨rfl, [.agg (cDrum x0), .i x1, .i x2], ⟨rfl, ?_⟩, c_9 1000 x0 x1 x2 (law_9 x0 x1 x2)⟩
    intro j c u hc hu
    match j, hc, hu with
    | 0, hc, hu => cases hc; cases hu; exact z0
    | 1, hc, hu => cases hc; cases hu; exact z1
    | 2, hc, hu => cases hc; cases hu; exact z2)
theorem drumSpoilt_facts : factsA Tryz.prog Tryz.f9 Rows.drumSpoiltSpec Rows.drumSpoiltRow = true := by kernel_rfl
theorem drumSpoilt_road0 : (Rows.drumSpoiltRow.inPlace == Tryz.prog.inPlace 9) = true := by kernel_rfl
theorem drumSpoilt_road1 : (Rows.drumSpoiltRow.unfollowed == Tryz.prog.unfollowed 9) = true := by kernel_rfl
theorem drumSpoilt_road2 : (Rows.drumSpoiltRow.recurses == Tryz.prog.recurses 9) = true := by kernel_rfl
theorem drumSpoilt_road3 : (Rows.drumSpoiltRow.named == Tryz.prog.varsNamed 9) = true := by kernel_rfl
theorem drumSpoilt_row : Rows.DrumSpoiltSaid :=
 OpenClaim.holds_of_wide 9 Tryz.f9 rfl rfl rfl rfl rfl rfl rfl ⟨rfl, rfl, rfl, rfl, rfl⟩ rfl rfl rfl rfl rfl (by as_aux_lemma => kernel_rfl) Tryz.func9 (joined_of drumSpoilt_facts drumSpoilt_road0 drumSpoilt_road1 drumSpoilt_road2 drumSpoilt_road3)
  (of_decide_eq_true (by as_aux_lemma => kernel_rfl)) (by unfold Func.isWrapper; rw [if_neg (of_decide_eq_false (by as_aux_lemma => kernel_rfl))]; exact ⟨rfl, rfl⟩)
  (fun os started H enc _ => drumSpoilt_lifted os started H enc)
theorem drumSpoilt_card : Rows.DrumSpoiltCardSaid :=
 Claim7.holds_tied_plain_at .later [] [.data, .data, .data, .data, .pinned] true (true, "263524fd91af563947b647e8709e73ef988cdef21cccd4074f632dc410392126") true drumSpoilt_row (fun _ h => by cases h) (by as_aux_lemma => kernel_rfl) (fun _ h => by cases h) drumSpoilt_row_tie rfl ⟨rfl, rfl⟩ mainK rfl
  (fun f fn hf hfn => by
   obtain rfl : f = 9 := Option.some.inj ((show Tryz.prog.funcNamed "nacre/nacrelaw03.DrumSpoilt" = some 9 by as_aux_lemma => kernel_rfl).symm.trans hf) |>.symm
   obtain rfl : fn = Tryz.f9 := (Option.some.inj (Tryz.func9.symm.trans hfn)).symm
   exact ⟨looksK, fun j t ht => by
    rw [Tryz.params9] at ht
    have hm : t ∈ [27, 3, 3] := by simpa using Array.mem_of_getElem? ht
    have h : ∀ t ∈ ([27, 3, 3] : List Nat), t ∈ [3, 9, 23, 27, 54, 92] := by decide
    exact standK t (h t hm)⟩)
  (by as_aux_lemma => kernel_rfl)
#print axioms drumSpoilt_card
end Go.Proofs.YtohmhlkdgfcaeaaGreatDoor
