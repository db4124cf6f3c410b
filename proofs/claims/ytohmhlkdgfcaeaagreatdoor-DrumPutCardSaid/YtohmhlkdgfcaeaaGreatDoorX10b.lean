/- DrumPut: with the number that is told to be put in, all batches are smooth and thick enough after the hour; with a lesser one that hour is in no window. For every input that can be read as data, the tables of Go's library being as their text lays them: the call returns true, and each argument reads behind it as before. -/
import Derived.Test.YtohmhlkdgfcaeaaGreatDoorTie
import Derived.Test.YtohmhlkdgfcaeaaGreatDoorCards
import Derived.Test.YtohmhlkdgfcaeaaGreatDoorX10a
set_option linter.unusedVariables false
set_option linter.unusedSimpArgs false
namespace Go.Proofs.YtohmhlkdgfcaeaaGreatDoor
open Go Go.RowKit
def winP (d : Drum) (b : Batch) : Span := bif decide (firstH (smP d b) (hrs d + 1) 0 < 0) then ⟨1, 0⟩ else ⟨firstH (smP d b) (hrs d + 1) 0, lastH (thP d b) (hrs d + 1)⟩
def wsP (d : Drum) : List Span := d.batches.map (winP d)
section
variable {n : Nat} {d : Drum}
theorem p_98 (hd : d.ok) (hn : 100 ≤ n) (hne : idx d ≠ []) : s_98 n d (filL d) = some ⟨wsP d⟩ := by
 have hbt := hd.btl
 unfold s_98
 refine loop_app d.batches (fun _ b => (s_92 n (filL d) b).bind fun v124 => (s_93 n (filL d) b).bind fun v125 => bif decide (v124 < 0) then s_144 n else some (Span.mk v124 v125)) (winP d) (fun i b hb => ?_) (s_98_l1 n d (filL d)) (fun s => some (Windows.mk s)) (fun k i s => ?_) (by omega) (by omega)
 ·have hb' := hd.bt b (List.mem_of_getElem? hb)
  rw [p_92 hd hn hb' hne, Option.bind_some, p_93 hd hn hb' hne, Option.bind_some]
  unfold winP s_144
  cases decide (firstH (smP d b) (hrs d + 1) 0 < 0) <;> rfl
 ·rw [s_98_l1]
  by_cases hi : i < d.batches.length
  ·have hb' := hd.bt _ (List.getElem_mem hi)
   rw [ix_at (List.getElem?_eq_getElem hi), Option.bind_some, Option.bind_some, p_92 hd hn hb' hne, Option.bind_some, Option.bind_some, p_93 hd hn hb' hne, Option.bind_some, Option.bind_some]
   unfold s_144 s_98_j5
   cases decide (firstH (smP d d.batches[i]) (hrs d + 1) 0 < 0) <;> rfl
  ·have e1 : decide ((i : Int) < ((d.batches.length : Nat) : Int)) = false := decide_eq_false (by omega)
   rw [e1, cond_false, cond_false]
theorem p_100 (n : Nat) (w : List Span) (hw : w.length ≤ 6) : s_100 n ⟨w⟩ = some (2 ^ w.length - 1) := by
 have hpv := pow_bound (i := w.length) hw
 unfold s_100
 have hshl : shl .i64 1 ((List.length w : Nat) : Int) = some (2 ^ w.length) := by
  unfold shl
  rw [show decide ((0 : Int) ≤ ((List.length w : Nat) : Int)) = true from decide_eq_true (by omega), cond_true]
  have hm : min ((List.length w : Nat) : Int).toNat IntKind.i64.bits = w.length := by
   show min w.length 64 = w.length
   omega
  rw [hm, Int.one_mul]
  exact congrArg some (wr_of (by omega))
 rw [hshl, Option.bind_some, wr_of (by omega)]
theorem hasB_full : ∀ m, m < 6 → ∀ i, i < m → hasB (2 ^ m - 1) i = true := by decide
end
end Go.Proofs.YtohmhlkdgfcaeaaGreatDoor
namespace Go.Proofs.YtohmhlkdgfcaeaaGreatDoor
open Go Go.RowKit
def pickF (set : Int) : Nat → List Span → List Span
 | _, [] => []
 | i, s :: r => if hasB set i = true then s :: pickF set (i + 1) r else pickF set (i + 1) r
def com (w : List Span) (set : Int) : Span := capL ⟨0, 12⟩ (pickF set 0 w)
theorem and_one6 : ∀ x : Nat, x < 64 → bits .and .i64 (x : Int) 1 = (x : Int) % 2 := by decide
section
variable {n : Nat} {d : Drum} {b : Batch}
theorem p_145w {set : Int} {i : Nat} (hi : i ≤ 6) (h0 : 0 ≤ set) (h1 : set ≤ 63) : s_145 n set i = some (hasB set i) := by
 unfold s_145
 have hp := pow_bound hi
 have e1 : shr .i64 set (i : Int) = some (set / 2 ^ i) := by
  unfold shr
  rw [show decide ((0 : Int) ≤ (i : Int)) = true from decide_eq_true (by omega), cond_true]
  have hm : min ((i : Nat) : Int).toNat IntKind.i64.bits = i := by
   show min i 64 = i
   omega
  rw [hm, Int.fdiv_eq_ediv_of_nonneg _ (by omega)]
 rw [e1, Option.bind_some, hasB]
 have h3 : 0 ≤ set / 2 ^ i := Int.ediv_nonneg h0 (by omega)
 have h4 : set / 2 ^ i ≤ set := Int.ediv_le_self _ h0
 obtain ⟨x, hx⟩ := Int.eq_ofNat_of_zero_le h3
 rw [hx, and_one6 x (by omega)]
theorem common_pick (set : Int) : ∀ (w : List Span) (i : Nat) (o : Span), commonFrom (w.map spanP) set i (o.low, o.high) = spanP (capL o (pickF set i w)) := by
 intro w
 induction w with
 | nil => intro i o; rfl
 | cons s r ih =>
  intro i o
  have e : setHas set i = hasB set i := by
   unfold setHas hasB
   rw [Bool.eq_iff_iff]
   simp
  rw [List.map_cons, commonFrom, e, pickF]
  by_cases h : hasB set i = true
  ·rw [if_pos h, if_pos h]
   exact ih (i + 1) (cap o s)
  ·rw [if_neg h, if_neg h]
   exact ih (i + 1) o
theorem p_102 (hn : 100 ≤ n) (w : List Span) (hw : w.length ≤ 6) {set : Int} (h0 : 0 ≤ set) (h1 : set ≤ 63) : s_102 n ⟨w⟩ set = some (com w set) := by
 have e : s_102m n ⟨w⟩ set = some (com w set) := by
  unfold s_102m
  have h1 := loop_list w (s_102m_l1 n ⟨w⟩ set) (fun i x s K => bif hasB set i then K (cap s x) else K s) (fun s => some s) (fun k i s => by
   rw [s_102m_l1]
   by_cases hi : i < w.length
   ·rw [ix_at (List.getElem?_eq_getElem hi), Option.bind_some, Option.bind_some, p_145w (by omega) h0 h1, Option.bind_some]
    rfl
   ·have e1 : decide ((i : Int) < ((w.length : Nat) : Int)) = false := decide_eq_false (by omega)
    simp only [e1, cond_false]) (by omega) n 0 ⟨0, 12⟩ (by omega) (by omega)
  rw [show ((0 : Nat) : Int) = 0 from rfl, List.drop_zero] at h1
  rw [h1]
  have key : ∀ (l : List Span) (i : Nat) (s : Span), fc (fun i x s K => bif hasB set i then K (cap s x) else K s) (fun s => some s) i l s = some (capL s (pickF set i l)) := by
   intro l
   induction l with
   | nil => intro i s; rfl
   | cons x r ih =>
    intro i s
    rw [fc, pickF]
    by_cases h : hasB set i = true
    ·rw [h, cond_true, if_pos rfl, ih]; rfl
    ·have h' : hasB set i = false := by simpa using h
     rw [h', cond_false, if_neg (by simp), ih]
  exact key w 0 _
 unfold s_102
 rw [e, Option.bind_some]
 have hc := common_pick set w 0 ⟨0, 12⟩
 have hcm : commonOf (w.map spanP) set = spanP (com w set) := hc
 simp only [hcm, decide_true, cond_true]
theorem p_99 (hn : 100 ≤ n) (w : List Span) (hw : w.length ≤ 6) {set : Int} (h0 : 0 ≤ set) (h1 : set ≤ 63) : s_99 n ⟨w⟩ set = some (decide (com w set).ne) := by
 unfold s_99
 rw [p_102 hn w hw h0 h1]
 rfl
theorem pickF_full : ∀ (w : List Span) (m i : Nat), m < 6 → i + w.length = m → pickF (2 ^ m - 1) i w = w := by
 intro w
 induction w with
 | nil => intro m i _ _; rfl
 | cons s r ih =>
  intro m i hm hi
  simp only [List.length_cons] at hi
  rw [pickF, if_pos (hasB_full m hm i (by omega)), ih m (i + 1) hm (by omega)]
theorem com_full (w : List Span) (hw : w.length < 6) : com w (2 ^ w.length - 1) = comm w := by
 unfold com comm
 rw [pickF_full w w.length 0 hw (by omega)]
theorem smP_mono (hd : d.ok) (hb : b.ok) (hne : idx d ≠ []) {t t' : Nat} (h : t ≤ t') (ht : t' ≤ hrs d) (hs : smP d b t = true) : smP d b t' = true := by
 have hm := bnds_mono hd hb hne (t := t) (t' - t) (by omega)
 rw [show t + (t' - t) = t' by omega] at hm
 unfold smP at *
 unfold leB at hm
 rw [decide_eq_true_eq] at *
 omega
theorem thP_anti (hd : d.ok) (hb : b.ok) (hne : idx d ≠ []) {t t' : Nat} (h : t ≤ t') (ht : t' ≤ hrs d) (hs : thP d b t' = true) : thP d b t = true := by
 have hm := bnds_mono hd hb hne (t := t) (t' - t) (by omega)
 rw [show t + (t' - t) = t' by omega] at hm
 unfold thP at *
 unfold leB at hm
 rw [decide_eq_true_eq] at *
 omega
theorem win_mem (hd : d.ok) (hb : b.ok) (hne : idx d ≠ []) {t : Nat} (ht : t ≤ hrs d) : (winP d b).mem (t : Int) ↔ smP d b t = true ∧ thP d b t = true := by
 unfold winP
 have hsm : 0 ≤ firstH (smP d b) (hrs d + 1) 0 → (firstH (smP d b) (hrs d + 1) 0 ≤ (t : Int) ↔ smP d b t = true) := by
  intro h
  obtain ⟨q1, q2, q3⟩ := firstH_spec (smP d b) (hrs d + 1) 0 h
  have q4 := firstH_before (smP d b) (hrs d + 1) 0 h
  constructor
  ·intro h5
   exact smP_mono hd hb hne (t := (firstH (smP d b) (hrs d + 1) 0).toNat) (by omega) ht q1
  ·intro h5
   rcases Int.lt_or_le (t : Int) (firstH (smP d b) (hrs d + 1) 0) with h6 | h6
   ·rw [q4 t (by omega) h6] at h5; cases h5
   ·exact h6
 have hth : (t : Int) ≤ lastH (thP d b) (hrs d + 1) ↔ thP d b t = true := by
  rcases Int.lt_or_le (lastH (thP d b) (hrs d + 1)) 0 with h | h
  ·have := lastH_none _ _ h t (by omega)
   constructor
   ·intro h5; omega
   ·intro h5; rw [this] at h5; cases h5
  ·obtain ⟨q1, q2, q3⟩ := lastH_spec _ _ h
   constructor
   ·intro h5
    exact thP_anti hd hb hne (t' := (lastH (thP d b) (hrs d + 1)).toNat) (by omega) (by omega) q1
   ·intro h5
    rcases Int.lt_or_le (lastH (thP d b) (hrs d + 1)) (t : Int) with h6 | h6
    ·rw [q3 t h6 (by omega)] at h5; cases h5
    ·exact h6
 by_cases h : firstH (smP d b) (hrs d + 1) 0 < 0
 ·rw [decide_eq_true h, cond_true]
  have := firstH_none _ _ _ h t (by omega) (by omega)
  rw [this]
  simp only [Span.mem]
  constructor
  ·intro h5; omega
  ·intro h5; cases h5.1
 ·rw [decide_eq_false h, cond_false]
  have h2 := hsm (by omega)
  simp only [Span.mem]
  rw [h2, hth]
theorem comm_mem (hd : d.ok) (hne : idx d ≠ []) {t : Nat} (ht : t ≤ hrs d) : (comm (wsP d)).mem (t : Int) ↔ ∀ b ∈ d.batches, smP d b t = true ∧ thP d b t = true := by
 have hhr := hrs_le hd
 rw [mem_comm]
 unfold wsP
 constructor
 ·rintro ⟨_, h⟩ b hb
  exact (win_mem hd (hd.bt b hb) hne ht).1 (h _ (List.mem_map_of_mem hb))
 ·intro h
  refine ⟨by omega, fun s hs => ?_⟩
  obtain ⟨b, hb, rfl⟩ := List.mem_map.1 hs
  exact (win_mem hd (hd.bt b hb) hne ht).2 (h b hb)
theorem wsP_len : (wsP d).length = d.batches.length := by simp [wsP]
theorem p_46 (hn : 100 ≤ n) (hs : Short d) : s_46 n d = some (bif decide (err d true = 0) then (bif decide (comm (wsP d)).ne then (comm (wsP d), 0) else (⟨0, 0⟩, 5)) else (⟨0, 0⟩, err d true)) := by
 unfold s_46
 rw [p_84 hn hs, Option.bind_some]
 by_cases he : err d true = 0
 ·obtain ⟨h1, _, hne⟩ := err_zero he
  have hd := okD_iff.1 h1
  have hbt := hd.btl
  have hl : (wsP d).length ≤ 6 := by rw [wsP_len]; omega
  have hpv := pow_bound (i := (wsP d).length) hl
  simp only [he, decide_true, Bool.not_true, cond_false, cond_true]
  rw [p_98 hd hn hne, Option.bind_some, p_100 n _ hl, Option.bind_some, p_99 hn _ hl (by omega) (by omega), Option.bind_some, Option.bind_some, p_102 hn _ hl (by omega) (by omega), Option.bind_some, com_full _ (by rw [wsP_len]; omega)]
  cases decide (comm (wsP d)).ne <;> rfl
 ·simp only [decide_eq_false he, Bool.not_false, cond_true, cond_false]
end
end Go.Proofs.YtohmhlkdgfcaeaaGreatDoor
namespace Go.Proofs.YtohmhlkdgfcaeaaGreatDoor
open Go Go.RowKit
section
variable {n : Nat} {d : Drum} {tr : Truth}
theorem mem_ne {s : Span} {x : Int} (h : s.mem x) : s.ne := by unfold Span.mem Span.ne at *; omega
end
end Go.Proofs.YtohmhlkdgfcaeaaGreatDoor
namespace Go.Proofs.YtohmhlkdgfcaeaaGreatDoor
open Go Go.RowKit
def putD (d : Drum) (v : Nat) (x : Int) : Drum := ⟨d.acids, d.known, d.hours, d.adds.set v x, d.strips, d.batches⟩
section
variable {n : Nat} {d : Drum} {v : Nat} {x : Int}
theorem putD_ok (hd : d.ok) (hx : 0 ≤ x ∧ x ≤ 100) : (putD d v x).ok := by
 refine ⟨hd.acl, hd.kn, hd.hr, ?_, hd.stl, hd.btl, hd.ac, ?_, hd.st, hd.bt⟩
 ·show (((d.adds.set v x).length : Nat) : Int) = d.hours
  rw [List.length_set]; exact hd.adl
 ·intro y hy
  rcases List.mem_or_eq_of_mem_set hy with h | rfl
  ·exact hd.ad y h
  ·exact hx
theorem addAt_set {i : Nat} (h : i ≠ v) : addAt (d.adds.set v x) i = addAt d.adds i := by
 unfold addAt
 rw [List.getD_eq_getElem?_getD, List.getD_eq_getElem?_getD, List.getElem?_set_ne (Ne.symm h)]
def noLate (d : Drum) (v : Nat) : Prop := ∀ s ∈ d.strips, s.hour < (v : Int)
theorem noLate_at (h : noLate d v) {i : Nat} (hi : v ≤ i) : stripsAt d.strips i = [] := by
 unfold stripsAt
 rw [List.filter_eq_nil_iff.2]
 ·rfl
 ·intro s hs
  have := h s hs
  simp only [beq_iff_eq]
  omega
theorem fw_late (hd : d.ok) (h : noLate d v) {a : Acid} (ha : a.ok) (ad : List Int) (hp : ∀ i, i < v → (fw ad d.strips a i).ne) : ∀ i, (fw ad d.strips a i).ne := by
 intro i
 obtain ⟨h1, h2⟩ := ha
 simp only [Span.ok] at h1 h2
 induction i with
 | zero =>
  by_cases hv : 0 < v
  ·exact hp 0 hv
  ·rw [fw, noLate_at h (by omega)]
   simp only [capL, List.foldl_nil, start, Span.ne]
   omega
 | succ i ih =>
  by_cases hv : i + 1 < v
  ·exact hp _ hv
  ·rw [fw, noLate_at h (by omega)]
   simp only [capL, List.foldl_nil, aft, Span.ne] at *
   omega
theorem put_poss (hd : d.ok) (h : noLate d v) {a : Acid} (ha : a.ok) : Poss (d.adds.set v x) d.strips a (hrs d) ↔ Poss d.adds d.strips a (hrs d) := by
 have hfw : ∀ i, i < v → fw (d.adds.set v x) d.strips a i = fw d.adds d.strips a i := fun i hi => fw_congr i (fun j hj => ⟨addAt_set (by omega), rfl⟩)
 constructor
 ·intro hp i hi
  by_cases hiv : i < v
  ·rw [← hfw i hiv]; exact hp i hi
  ·exact fw_late hd h ha d.adds (fun j hj => by rw [← hfw j hj]; exact hp j (by omega)) i
 ·intro hp i hi
  by_cases hiv : i < v
  ·rw [hfw i hiv]; exact hp i hi
  ·exact fw_late hd h ha (d.adds.set v x) (fun j hj => by rw [hfw j hj]; exact hp j (by omega)) i
theorem put_idx (hd : d.ok) (h : noLate d v) : idx (putD d v x) = idx d := by
 unfold idx
 show (List.range d.acids.length).filter (PossI (putD d v x)) = _
 apply List.filter_congr
 intro i hi
 rw [List.mem_range] at hi
 unfold PossI
 show (hasB d.known i && decide (Poss (d.adds.set v x) d.strips (acidAt d i) (hrs d))) = _
 congr 1
 rw [decide_eq_decide]
 exact put_poss hd h (acidAt_ok hd hi)
theorem late_iff : d.strips.any (fun s => decide ((v : Int) ≤ s.hour)) = false ↔ noLate d v := by
 rw [List.any_eq_false]
 unfold noLate
 constructor
 ·intro h s hs
  have := h s hs
  rw [decide_eq_true_eq] at this
  omega
 ·intro h s hs
  rw [decide_eq_true_eq]
  have := h s hs
  omega
def topP (d : Drum) (v : Nat) (t : Int) (x : Nat) : Bool := decide ((comm (wsP (putD d v (x : Int)))).mem t)
theorem put_short (hs : Short d) : Short (putD d v x) := ⟨hs.a, (by show (d.adds.set v x).length ≤ 15; rw [List.length_set]; exact hs.b), hs.c, hs.e⟩
theorem p_35_l3 (hd : d.ok) (hs : Short d) (hn : 200 ≤ n) (hl : noLate d v) (hv : v < hrs d) (hne : idx d ≠ []) (t : Int) : ∀ (r m k : Nat) (l : List Int), m + r = 101 → r < k → l.length = d.adds.length → (∀ y, l.set v y = d.adds.set v y) →
  s_35_l3 n d (v : Int) t k (m : Int) l = some (bif decide (firstH (topP d v t) r m < 0) then (0, 5) else (firstH (topP d v t) r m, 0)) := by
 have hadl := hd.adl
 have hH := hrs_eq hd
 have hhr := hrs_le hd
 have hbt := hd.btl
 intro r
 induction r with
 | zero =>
  intro m k l hm hk hll hset
  obtain ⟨k, rfl⟩ : ∃ k', k = k' + 1 := ⟨k - 1, by omega⟩
  rw [s_35_l3, decide_eq_false (by omega), cond_false]
  rfl
 | succ r ih =>
  intro m k l hm hk hll hset
  obtain ⟨k, rfl⟩ : ∃ k', k = k' + 1 := ⟨k - 1, by omega⟩
  have hok := putD_ok (v := v) hd (x := (m : Int)) (by omega)
  have hne' : idx (putD d v (m : Int)) ≠ [] := by rw [put_idx hd hl]; exact hne
  have hsp : Short (putD d v (m : Int)) := put_short hs
  have hpd : (Drum.mk d.acids d.known d.hours (sts l (v : Int) (m : Int)) d.strips d.batches) = putD d v (m : Int) := by
   show (Drum.mk d.acids d.known d.hours (l.set v (m : Int)) d.strips d.batches) = _
   rw [hset]; rfl
  have he : err (putD d v (m : Int)) true = 0 := by
   unfold err
   rw [okD_iff.2 hok]
   cases h : idx (putD d v (m : Int)) with
   | nil => exact absurd h hne'
   | cons => rfl
  have hwl : (wsP (putD d v (m : Int))).length ≤ 6 := by rw [wsP_len]; show d.batches.length ≤ 6; omega
  have hpv := pow_bound (i := (wsP (putD d v (m : Int))).length) hwl
  have gx : ix l (v : Int) = some (l.getD v 0) := by
   have hvl : v < l.length := by omega
   rw [ix_at (List.getElem?_eq_getElem hvl), List.getD_eq_getElem?_getD, List.getElem?_eq_getElem hvl]; rfl
  have hrec : s_35_l3 n d (v : Int) t k (wr ((m : Int) + 1)) (sts l (v : Int) (m : Int)) = some (bif decide (firstH (topP d v t) r (m + 1) < 0) then (0, 5) else (firstH (topP d v t) r (m + 1), 0)) := by
   rw [wr_of (by omega)]
   have := ih (m + 1) k (l.set v (m : Int)) (by omega) (by omega) (by rw [List.length_set]; exact hll) (fun y => by rw [List.set_set, hset])
   push_cast at this
   exact this
  rw [s_35_l3, decide_eq_true (by omega), cond_true, gx, Option.bind_some, hpd, p_84 (by omega) hsp, Option.bind_some, he]
  simp only [decide_true, cond_true]
  rw [p_98 hok (by omega) hne', Option.bind_some, p_100 n _ hwl, Option.bind_some, p_99 (by omega) _ hwl (by omega) (by omega), Option.bind_some, com_full _ (by rw [wsP_len]; show d.batches.length < 6; omega)]
  have hj : ∀ c : Bool, c = topP d v t m → s_35_j9 (s_35_l3 n d (v : Int) t k) (v : Int) (m : Int) l c = some (bif decide (firstH (topP d v t) (r + 1) m < 0) then (0, 5) else (firstH (topP d v t) (r + 1) m, 0)) := by
   intro c hc
   unfold s_35_j9
   rw [hrec, hc]
   rcases Bool.eq_false_or_eq_true (topP d v t m) with hp | hp
   ·rw [firstH, hp, cond_true, cond_true, decide_eq_false (by omega), cond_false]
   ·rw [firstH, hp, cond_false, cond_false]
  by_cases hc : (comm (wsP (putD d v (m : Int)))).ne
  ·rw [decide_eq_true hc, cond_true, Option.bind_some, p_102 (by omega) _ hwl (by omega) (by omega), Option.bind_some, com_full _ (by rw [wsP_len]; show d.batches.length < 6; omega)]
   unfold s_101
   rw [p_87]
   simp only [Option.bind_some]
   refine hj _ ?_
   unfold topP
   rw [Bool.eq_iff_iff, inb_iff, decide_eq_true_eq]
   rfl
  ·rw [decide_eq_false hc, cond_false]
   refine hj _ ?_
   unfold topP
   exact (decide_eq_false (fun h => hc (mem_ne h))).symm
end
end Go.Proofs.YtohmhlkdgfcaeaaGreatDoor
namespace Go.Proofs.YtohmhlkdgfcaeaaGreatDoor
open Go Go.RowKit
set_option maxRecDepth 4000
attribute [local irreducible] W Ops GS GSG
def s_10_j13 (K7 : Int → Option (Bool)) (v126 : Int) (v136 : Bool) : Option (Bool) := bif v136 then ( some (false) ) else ( K7 (wr (v126 + 1)) )
def s_10_l7 (n : Nat) (v0 : Drum) (v119 : ((List State) × Int)) : Nat → Int → Option (Bool)
| 0, _ => none
| k7 + 1, v126 => bif (decide (v126 < (v119.1.length : Int))) then ( (ix v119.1 v126).bind fun v132 => (ix v0.batches v126).bind fun v133 => bif (decide (v133.goal < v132.rough)) then ( s_10_j13 (s_10_l7 n v0 v119 k7) v126 true ) else ( (ix v119.1 v126).bind fun v134 => (ix v0.batches v126).bind fun v135 => s_10_j13 (s_10_l7 n v0 v119 k7) v126 (decide (v134.thick < v135.least)) )
 ) else ( (s_24 n ).bind fun v137 => some (v137) )
def s_10_j6 (n : Nat) (v0 : Drum) (v119 : ((List State) × Int)) (v120 : Bool) : Option (Bool) := bif v120 then ( some (false) ) else ( s_10_l7 n v0 v119 n 0 )
def s_10_j5 (n : Nat) (v0 : Drum) (v2 : Int) (v3 : Truth) (v112 : Drum) (v117 : Bool) : Option (Bool) := bif v117 then ( (s_24 n ).bind fun v118 => some (v118) ) else ( (s_47 n v112 v3 v2).bind fun v119 => bif (!decide (v119.2 = 0)) then ( s_10_j6 n v0 v119 true ) else ( s_10_j6 n v0 v119 (!decide ((v119.1.length : Int) = (v0.batches.length : Int))) ) )
def s_10_j4 (n : Nat) (v0 : Drum) (v2 : Int) (v3 : Truth) (v112 : Drum) (v114 : Bool) : Option (Bool) := bif v114 then ( some (false) ) else ( (s_44 n v112 v3).bind fun v115 => bif (!v115) then ( s_10_j5 n v0 v2 v3 v112 true ) else ( (s_45 n v112 v3).bind fun v116 => s_10_j5 n v0 v2 v3 v112 (!v116) ) )
def s_10_j3 (n : Nat) (v0 : Drum) (v1 : Int) (v2 : Int) (v3 : Truth) (v105 : (Int × Int)) (v110 : Bool) : Option (Bool) := bif v110 then ( some (false) ) else ( bif (!decide (v105.2 = 0)) then ( (s_24 n ).bind fun v111 => some (v111) ) else ( (s_49 n v0 v1 v105.1).bind fun v112 => (s_46 n v112).bind fun v113 => bif (!decide (v113.2 = 0)) then ( s_10_j4 n v0 v2 v3 v112 true ) else (
 bif (decide (v2 < v113.1.low)) then ( s_10_j4 n v0 v2 v3 v112 true ) else ( s_10_j4 n v0 v2 v3 v112 (decide (v113.1.high < v2)) ) ) ) )
def s_10_j2 (n : Nat) (v0 : Drum) (v1 : Int) (v2 : Int) (v3 : Truth) (v4 : Int) (v105 : (Int × Int)) (v108 : (Span × Int)) (v109 : Bool) : Option (Bool) := bif v109 then ( some (false) ) else ( bif (!decide (v105.2 = 0)) then ( bif (decide (v108.2 = 0)) then ( bif (decide (v108.1.low ≤ v2)) then ( s_10_j3 n v0 v1 v2 v3 v105 (decide (v2 ≤ v108.1.high)) ) else ( s_10_j3 n v0 v1 v2 v3 v105 false )
 ) else ( s_10_j3 n v0 v1 v2 v3 v105 false ) ) else ( bif (decide (v4 < v105.1)) then ( bif (decide (v108.2 = 0)) then ( bif (decide (v108.1.low ≤ v2)) then ( s_10_j3 n v0 v1 v2 v3 v105 (decide (v2 ≤ v108.1.high)) ) else ( s_10_j3 n v0 v1 v2 v3 v105 false ) ) else ( s_10_j3 n v0 v1 v2 v3 v105 false ) ) else ( s_10_j3 n v0 v1 v2 v3 v105 false ) ) )
def s_10_j1 (n : Nat) (v0 : Drum) (v1 : Int) (v2 : Int) (v3 : Truth) (v4 : Int) (v103 : Bool) : Option (Bool) := bif v103 then ( (s_24 n ).bind fun v104 => some (v104) ) else ( (s_35 n v0 v1 v2).bind fun v105 => bif (decide (v105.2 = 7)) then ( (s_24 n ).bind fun v106 => some (v106) ) else ( (s_49 n v0 v1 v4).bind fun v107 => (s_46 n v107).bind fun v108 => bif (!decide (v105.2 = 0)) then (
 bif (!decide (v105.2 = 5)) then ( s_10_j2 n v0 v1 v2 v3 v4 v105 v108 true ) else ( bif (!decide (v108.2 = 0)) then ( bif (!decide (v108.2 = 5)) then ( s_10_j2 n v0 v1 v2 v3 v4 v105 v108 true ) else ( bif (decide (v105.1 < 0)) then ( s_10_j2 n v0 v1 v2 v3 v4 v105 v108 true ) else ( s_10_j2 n v0 v1 v2 v3 v4 v105 v108 (decide (100 < v105.1)) ) ) ) else ( bif (decide (v105.1 < 0)) then (
 s_10_j2 n v0 v1 v2 v3 v4 v105 v108 true ) else ( s_10_j2 n v0 v1 v2 v3 v4 v105 v108 (decide (100 < v105.1)) ) ) ) ) else ( bif (!decide (v108.2 = 0)) then ( bif (!decide (v108.2 = 5)) then ( s_10_j2 n v0 v1 v2 v3 v4 v105 v108 true ) else ( bif (decide (v105.1 < 0)) then ( s_10_j2 n v0 v1 v2 v3 v4 v105 v108 true ) else ( s_10_j2 n v0 v1 v2 v3 v4 v105 v108 (decide (100 < v105.1)) ) ) ) else (
 bif (decide (v105.1 < 0)) then ( s_10_j2 n v0 v1 v2 v3 v4 v105 v108 true ) else ( s_10_j2 n v0 v1 v2 v3 v4 v105 v108 (decide (100 < v105.1)) ) ) ) ) )
def s_10 (n : Nat) (v0 : Drum) (v1 : Int) (v2 : Int) (v3 : Truth) (v4 : Int) : Option (Bool) := (s_23 n v0).bind fun v101 => bif (!v101) then ( s_10_j1 n v0 v1 v2 v3 v4 true ) else ( bif (decide (15 < (v3.strength.length : Int))) then ( s_10_j1 n v0 v1 v2 v3 v4 true ) else ( (s_39 n v0).bind fun v102 => bif (!v102) then ( s_10_j1 n v0 v1 v2 v3 v4 true ) else (
 bif (decide (v1 < 0)) then ( s_10_j1 n v0 v1 v2 v3 v4 true ) else ( bif (decide (v0.hours ≤ v1)) then ( s_10_j1 n v0 v1 v2 v3 v4 true ) else ( bif (decide (v2 ≤ v1)) then ( s_10_j1 n v0 v1 v2 v3 v4 true ) else ( bif (decide (v0.hours < v2)) then ( s_10_j1 n v0 v1 v2 v3 v4 true ) else ( bif (decide (v4 < 0)) then ( s_10_j1 n v0 v1 v2 v3 v4 true ) else ( s_10_j1 n v0 v1 v2 v3 v4 (decide (100 < v4))
 ) ) ) ) ) ) ) )
theorem c_10 (n : Nat) (v0 : Drum) (v1 : Int) (v2 : Int) (v3 : Truth) (v4 : Int) {r : (Bool)} (h : s_10 n v0 v1 v2 v3 v4 = some r) :
  Fun Tryz.prog 10 [.agg (cDrum v0), .val (.int .i64 v1), .val (.int .i64 v2), .agg (cTruth v3), .val (.int .i64 v4)] (.ret (.b r)) := by
 unfold s_10 at h
 refine enterW 215 Tryz.func10 q q q ?_
 intro w0 F0
 change W _ _ (Ev [(0, .pv (.agg (cDrum v0))), (1, .pv (.i v1)), (2, .pv (.i v2)), (3, .pv (.agg (cTruth v3))), (4, .pv (.i v4))]) _
 refine W.seq<|W.region<|ob (g_box q q q q q) q q<|ob (g_box q q q q q) q q<|va q q q q q<|on0<|Sq.n<|W.seq<|W.seqJ (σ := Bool) (fun s => (⟨[(1, .pv (.i v1)), (2, .pv (.i v2)), (4, .pv (.i v4)), (5, .box 5 0), (8, .box 8 0), (63, .pv (.b s))], [(5, 27, [.pv (.sl (List.map cAcid v0.acids)), .pv (.i v0.known), .pv (.i v0.hours), .pv (.sl (List.map eI v0.adds)), .pv (.sl (List.map cStrip v0.strips)), .pv (.sl (List.map cBatch v0.batches))]), (8, 54, [.pv (.i v3.acid), .pv (.sl (List.map eI v3.strength))])], []⟩ : Env)) (fun s => s_10_j1 n v0 v1 v2 v3 v4 s = some r) ?_ ?_
 ·refine W.region<|ov (g_loadA q q q q q ag_27 sz_27 q q) q ?_
  obtain ⟨v101, e101, h⟩ := bind_some h
  refine ov (g_call q q q ca_23 q (c_23 _ _ e101)) q<|ov (g_not q q q q) q<|vm q q q q q<|Ops.split 24 q (fun hb => ?_) (fun hb => ?_)
  ·have h := bif_t h hb
   refine o2 q q q q q q<|o2 q q q q q q<|o2 q q q q q q<|o2 q q q q q q<|vt q q q q q q<|vm q q q q q<|o2 q q q q q q<|o2 q q q q q q<|o2 q q q q q q<|vt q q q q q q<|vm q q q q q<|o2 q q q q q q<|o2 q q q q q q<|vt q q q q q q<|vm q q q q q<|o2 q q q q q q<|o2 q q q q q q<|o2 q q q q q q<|o2 q q q q q q<|vt q q q q q q<|vm q q q q q<|o2 q q q q q q<|o2 q q q q q q<|o2 q q q q q q<|vt q q q q q q<|vm q q q q q<|o2 q q q q q q<|o2 q q q q q q<|o2 q q q q q q<|o2 q q q q q q<|vt q q q q q q<|vm q q q q q<|o2 q q q q q q<|o2 q q q q q q<|vt q q q q q q<|vm q q q q q<|o2 q q q q q q<|o2 q q q q q q<|vt q q q q q q<|on0<|Sq.n<|⟨true, h, has_mk ⟨q, q, q, q, q, q, trivial⟩ ⟨q, q, trivial⟩ trivial q⟩
  ·have h := bif_f h hb
   refine on q q q<|ov (g_fld q q q q fl_54_1) q<|on q q q<|ov (g_load1 q q q q q q ag_23) q<|on q q q<|ov (g_lenM (l := v3.strength) (enc := eI) q ul_23 q q q) q<|on q q q<|ov (g_gtr q q q q q) q<|vf q q q q q q<|vm q q q q q<|Ops.split 30 q (fun hb => ?_) (fun hb => ?_)
   ·have h := bif_t h hb
    refine o2 q q q q q q<|o2 q q q q q q<|o2 q q q q q q<|vt q q q q q q<|vm q q q q q<|o2 q q q q q q<|o2 q q q q q q<|vt q q q q q q<|vm q q q q q<|o2 q q q q q q<|o2 q q q q q q<|o2 q q q q q q<|o2 q q q q q q<|vt q q q q q q<|vm q q q q q<|o2 q q q q q q<|o2 q q q q q q<|o2 q q q q q q<|vt q q q q q q<|vm q q q q q<|o2 q q q q q q<|o2 q q q q q q<|o2 q q q q q q<|o2 q q q q q q<|vt q q q q q q<|vm q q q q q<|o2 q q q q q q<|o2 q q q q q q<|vt q q q q q q<|vm q q q q q<|o2 q q q q q q<|o2 q q q q q q<|vt q q q q q q<|on0<|Sq.n<|⟨true, h, has_mk ⟨q, q, q, q, q, q, trivial⟩ ⟨q, q, trivial⟩ trivial q⟩
   ·have h := bif_f h hb
    refine on q q q<|ov (g_loadA q q q q q ag_27 sz_27 q q) q<|on q q q ?_
    obtain ⟨v102, e102, h⟩ := bind_some h
    refine ov (g_call q q q ca_39 q (c_39 _ _ e102)) q<|on q q q<|ov (g_not q q q q) q<|vf q q q q q q<|vm q q q q q<|Ops.split 35 q (fun hb => ?_) (fun hb => ?_)
    ·have h := bif_t h hb
     refine o2 q q q q q q<|o2 q q q q q q<|vt q q q q q q<|vm q q q q q<|o2 q q q q q q<|o2 q q q q q q<|o2 q q q q q q<|o2 q q q q q q<|vt q q q q q q<|vm q q q q q<|o2 q q q q q q<|o2 q q q q q q<|o2 q q q q q q<|vt q q q q q q<|vm q q q q q<|o2 q q q q q q<|o2 q q q q q q<|o2 q q q q q q<|o2 q q q q q q<|vt q q q q q q<|vm q q q q q<|o2 q q q q q q<|o2 q q q q q q<|vt q q q q q q<|vm q q q q q<|o2 q q q q q q<|o2 q q q q q q<|vt q q q q q q<|on0<|Sq.n<|⟨true, h, has_mk ⟨q, q, q, q, q, q, trivial⟩ ⟨q, q, trivial⟩ trivial q⟩
    ·have h := bif_f h hb
     refine on q q q<|vm q q q q q<|on q q q<|ov (g_lss q q q q q) q<|vf q q q q q q<|vm q q q q q<|Ops.split 39 q (fun hb => ?_) (fun hb => ?_)
     ·have h := bif_t h hb
      refine o2 q q q q q q<|o2 q q q q q q<|o2 q q q q q q<|o2 q q q q q q<|vt q q q q q q<|vm q q q q q<|o2 q q q q q q<|o2 q q q q q q<|o2 q q q q q q<|vt q q q q q q<|vm q q q q q<|o2 q q q q q q<|o2 q q q q q q<|o2 q q q q q q<|o2 q q q q q q<|vt q q q q q q<|vm q q q q q<|o2 q q q q q q<|o2 q q q q q q<|vt q q q q q q<|vm q q q q q<|o2 q q q q q q<|o2 q q q q q q<|vt q q q q q q<|on0<|Sq.n<|⟨true, h, has_mk ⟨q, q, q, q, q, q, trivial⟩ ⟨q, q, trivial⟩ trivial q⟩
     ·have h := bif_f h hb
      refine on q q q<|vm q q q q q<|on q q q<|ov (g_fld q q q q fl_27_2) q<|on q q q<|ov (g_load1 q q q q q q ag_3) q<|on q q q<|ov (g_geq q q q q q) q<|vf q q q q q q<|vm q q q q q<|Ops.split 45 q (fun hb => ?_) (fun hb => ?_)
      ·have h := bif_t h hb
       refine o2 q q q q q q<|o2 q q q q q q<|o2 q q q q q q<|vt q q q q q q<|vm q q q q q<|o2 q q q q q q<|o2 q q q q q q<|o2 q q q q q q<|o2 q q q q q q<|vt q q q q q q<|vm q q q q q<|o2 q q q q q q<|o2 q q q q q q<|vt q q q q q q<|vm q q q q q<|o2 q q q q q q<|o2 q q q q q q<|vt q q q q q q<|on0<|Sq.n<|⟨true, h, has_mk ⟨q, q, q, q, q, q, trivial⟩ ⟨q, q, trivial⟩ trivial q⟩
      ·have h := bif_f h hb
       refine on q q q<|vm q q q q q<|on q q q<|vm q q q q q<|on q q q<|ov (g_leq q q q q q) q<|vf q q q q q q<|vm q q q q q<|Ops.split 50 q (fun hb => ?_) (fun hb => ?_)
       ·have h := bif_t h hb
        refine o2 q q q q q q<|o2 q q q q q q<|o2 q q q q q q<|o2 q q q q q q<|vt q q q q q q<|vm q q q q q<|o2 q q q q q q<|o2 q q q q q q<|vt q q q q q q<|vm q q q q q<|o2 q q q q q q<|o2 q q q q q q<|vt q q q q q q<|on0<|Sq.n<|⟨true, h, has_mk ⟨q, q, q, q, q, q, trivial⟩ ⟨q, q, trivial⟩ trivial q⟩
       ·have h := bif_f h hb
        refine on q q q<|vm q q q q q<|on q q q<|ov (g_fld q q q q fl_27_2) q<|on q q q<|ov (g_load1 q q q q q q ag_3) q<|on q q q<|ov (g_gtr q q q q q) q<|vf q q q q q q<|vm q q q q q<|Ops.split 56 q (fun hb => ?_) (fun hb => ?_)
        ·have h := bif_t h hb
         refine o2 q q q q q q<|o2 q q q q q q<|vt q q q q q q<|vm q q q q q<|o2 q q q q q q<|o2 q q q q q q<|vt q q q q q q<|on0<|Sq.n<|⟨true, h, has_mk ⟨q, q, q, q, q, q, trivial⟩ ⟨q, q, trivial⟩ trivial q⟩
        ·have h := bif_f h hb
         refine on q q q<|vm q q q q q<|on q q q<|ov (g_lss q q q q q) q<|vf q q q q q q<|vm q q q q q<|Ops.split 60 q (fun hb => ?_) (fun hb => ?_)
         ·have h := bif_t h hb
          refine o2 q q q q q q<|o2 q q q q q q<|vt q q q q q q<|on0<|Sq.n<|⟨true, h, has_mk ⟨q, q, q, q, q, q, trivial⟩ ⟨q, q, trivial⟩ trivial q⟩
         ·have h := bif_f h hb
          refine on q q q<|vm q q q q q<|on q q q<|ov (g_gtr q q q q q) q<|vf q q q q q q<|on0<|Sq.n<|⟨(decide (100 < v4)), h, has_mk ⟨q, q, q, q, q, q, trivial⟩ ⟨q, q, trivial⟩ trivial q⟩
 ·rintro v103 h
  change s_10_j1 n v0 v1 v2 v3 v4 v103 = some r at h
  unfold s_10_j1 at h
  change W _ _ (⟨[(1, .pv (.i v1)), (2, .pv (.i v2)), (4, .pv (.i v4)), (5, .box 5 0), (8, .box 8 0), (63, .pv (.b v103))], [(5, 27, [.pv (.sl (List.map cAcid v0.acids)), .pv (.i v0.known), .pv (.i v0.hours), .pv (.sl (List.map eI v0.adds)), .pv (.sl (List.map cStrip v0.strips)), .pv (.sl (List.map cBatch v0.batches))]), (8, 54, [.pv (.i v3.acid), .pv (.sl (List.map eI v3.strength))])], []⟩ : Env) _
  refine W.cond (b := v103) q (fun hc => ?_) (fun hc => ?_)
  ·have h := bif_t h hc
   refine W.seq<|W.region ?_
   obtain ⟨v104, e104, h⟩ := bind_some h
   refine ov (g_call q q q ca_24 q (c_24 _  e104)) q<|va q q q q q<|on0<|Sq.n<|W.ret<|Sq.r ?_
   obtain rfl := Option.some.inj h
   exact Fin.r q (.cons (.tmp _ _ q) .nil) q
  ·have h := bif_f h hc
   refine W.skip<|Sq.n<|W.seq<|W.region<|ov (g_loadA q q q q q ag_27 sz_27 q q) q<|vm q q q q q<|vm q q q q q ?_
   obtain ⟨v105, e105, h⟩ := bind_some h
   refine ov (g_call q q q ca_35 q (c_35 _ _ _ _ e105)) q<|vm q q q q q<|ov (g_extract q q q q q) q<|ov (g_extract q q q q q) q<|va q q q q q<|va q q q q q<|on0<|Sq.n<|W.seq<|W.seq<|W.region<|vm q q q q q<|ov (g_eql q q q q q) q<|on0<|Sq.n<|W.cond (b := (decide (v105.2 = 7))) q (fun hc => ?_) (fun hc => ?_)
   ·have h := bif_t h hc
    refine W.seq<|W.region ?_
    obtain ⟨v106, e106, h⟩ := bind_some h
    refine ov (g_call q q q ca_24 q (c_24 _  e106)) q<|va q q q q q<|on0<|Sq.n<|W.ret<|Sq.r ?_
    obtain rfl := Option.some.inj h
    exact Fin.r q (.cons (.tmp _ _ q) .nil) q
   ·have h := bif_f h hc
    refine W.skip<|Sq.n<|W.seq<|W.region<|ov (g_loadA q q q q q ag_27 sz_27 q q) q<|vm q q q q q<|vm q q q q q ?_
    obtain ⟨v107, e107, h⟩ := bind_some h
    refine ov (g_call q q q ca_49 q (c_49 _ _ _ _ e107)) q ?_
    obtain ⟨v108, e108, h⟩ := bind_some h
    refine ov (g_call q q q ca_46 q (c_46 _ _ e108)) q<|vm q q q q q<|ov (g_extract q q q q q) q<|ov (g_extract q q q q q) q<|ob (g_alloc q q q zr_57) q q<|Ops.step q (s_storeB q q q q q q sz_57 q q)<|va q q q q q<|on0<|Sq.n<|W.seq<|W.seqJ (σ := Bool) (fun s => (⟨[(1, .pv (.i v1)), (2, .pv (.i v2)), (4, .pv (.i v4)), (5, .box 5 0), (8, .box 8 0), (11, .pv (.i v105.1)), (12, .pv (.i v105.2)), (13, .box 13 0), (14, .pv (.i v108.2)), (104, .pv (.b s))], [(5, 27, [.pv (.sl (List.map cAcid v0.acids)), .pv (.i v0.known), .pv (.i v0.hours), .pv (.sl (List.map eI v0.adds)), .pv (.sl (List.map cStrip v0.strips)), .pv (.sl (List.map cBatch v0.batches))]), (8, 54, [.pv (.i v3.acid), .pv (.sl (List.map eI v3.strength))]), (13, 57, [.pv (.i v108.1.low), .pv (.i v108.1.high)])], []⟩ : Env)) (fun s => s_10_j2 n v0 v1 v2 v3 v4 v105 v108 s = some r) ?_ ?_
    ·refine W.region<|vm q q q q q<|ov (g_neq q q q q q) q<|vm q q q q q<|Ops.split 85 q (fun hb => ?_) (fun hb => ?_)
     ·have h := bif_t h hb
      refine on q q q<|vm q q q q q<|on q q q<|ov (g_neq q q q q q) q<|vt q q q q q q<|vm q q q q q<|Ops.split 89 q (fun hb => ?_) (fun hb => ?_)
      ·have h := bif_t h hb
       refine o2 q q q q q q<|o2 q q q q q q<|o2 q q q q q q<|o2 q q q q q q<|o2 q q q q q q<|o2 q q q q q q<|vt q q q q q q<|vm q q q q q<|o2 q q q q q q<|o2 q q q q q q<|vt q q q q q q<|vm q q q q q<|o2 q q q q q q<|o2 q q q q q q<|vt q q q q q q<|on0<|Sq.n<|⟨true, h, has_mk ⟨q, q, q, q, q, q, q, q, q, q, trivial⟩ ⟨q, q, q, trivial⟩ trivial q⟩
      ·have h := bif_f h hb
       refine on q q q<|vm q q q q q<|on q q q<|ov (g_neq q q q q q) q<|on q q q<|vm q q q q q<|Ops.split 92 q (fun hb => ?_) (fun hb => ?_)
       ·have h := bif_t h hb
        refine on q q q<|vm q q q q q<|on q q q<|ov (g_neq q q q q q) q<|on q q q<|vt q q q q q q<|vf q q q q q q<|vm q q q q q<|Ops.split 97 q (fun hb => ?_) (fun hb => ?_)
        ·have h := bif_t h hb
         refine o2 q q q q q q<|o2 q q q q q q<|vt q q q q q q<|vm q q q q q<|o2 q q q q q q<|o2 q q q q q q<|vt q q q q q q<|on0<|Sq.n<|⟨true, h, has_mk ⟨q, q, q, q, q, q, q, q, q, q, trivial⟩ ⟨q, q, q, trivial⟩ trivial q⟩
        ·have h := bif_f h hb
         refine on q q q<|vm q q q q q<|on q q q<|ov (g_lss q q q q q) q<|vf q q q q q q<|vm q q q q q<|Ops.split 101 q (fun hb => ?_) (fun hb => ?_)
         ·have h := bif_t h hb
          refine o2 q q q q q q<|o2 q q q q q q<|vt q q q q q q<|on0<|Sq.n<|⟨true, h, has_mk ⟨q, q, q, q, q, q, q, q, q, q, trivial⟩ ⟨q, q, q, trivial⟩ trivial q⟩
         ·have h := bif_f h hb
          refine on q q q<|vm q q q q q<|on q q q<|ov (g_gtr q q q q q) q<|vf q q q q q q<|on0<|Sq.n<|⟨(decide (100 < v105.1)), h, has_mk ⟨q, q, q, q, q, q, q, q, q, q, trivial⟩ ⟨q, q, q, trivial⟩ trivial q⟩
       ·have h := bif_f h hb
        refine o2 q q q q q q<|o2 q q q q q q<|on q q q<|vf q q q q q q<|vf q q q q q q<|vm q q q q q<|on q q q<|vm q q q q q<|on q q q<|ov (g_lss q q q q q) q<|vf q q q q q q<|vm q q q q q<|Ops.split 101 q (fun hb => ?_) (fun hb => ?_)
        ·have h := bif_t h hb
         refine o2 q q q q q q<|o2 q q q q q q<|vt q q q q q q<|on0<|Sq.n<|⟨true, h, has_mk ⟨q, q, q, q, q, q, q, q, q, q, trivial⟩ ⟨q, q, q, trivial⟩ trivial q⟩
        ·have h := bif_f h hb
         refine on q q q<|vm q q q q q<|on q q q<|ov (g_gtr q q q q q) q<|vf q q q q q q<|on0<|Sq.n<|⟨(decide (100 < v105.1)), h, has_mk ⟨q, q, q, q, q, q, q, q, q, q, trivial⟩ ⟨q, q, q, trivial⟩ trivial q⟩
     ·have h := bif_f h hb
      refine o2 q q q q q q<|o2 q q q q q q<|vf q q q q q q<|vm q q q q q<|on q q q<|vm q q q q q<|on q q q<|ov (g_neq q q q q q) q<|on q q q<|vm q q q q q<|Ops.split 92 q (fun hb => ?_) (fun hb => ?_)
      ·have h := bif_t h hb
       refine on q q q<|vm q q q q q<|on q q q<|ov (g_neq q q q q q) q<|on q q q<|vt q q q q q q<|vf q q q q q q<|vm q q q q q<|Ops.split 97 q (fun hb => ?_) (fun hb => ?_)
       ·have h := bif_t h hb
        refine o2 q q q q q q<|o2 q q q q q q<|vt q q q q q q<|vm q q q q q<|o2 q q q q q q<|o2 q q q q q q<|vt q q q q q q<|on0<|Sq.n<|⟨true, h, has_mk ⟨q, q, q, q, q, q, q, q, q, q, trivial⟩ ⟨q, q, q, trivial⟩ trivial q⟩
       ·have h := bif_f h hb
        refine on q q q<|vm q q q q q<|on q q q<|ov (g_lss q q q q q) q<|vf q q q q q q<|vm q q q q q<|Ops.split 101 q (fun hb => ?_) (fun hb => ?_)
        ·have h := bif_t h hb
         refine o2 q q q q q q<|o2 q q q q q q<|vt q q q q q q<|on0<|Sq.n<|⟨true, h, has_mk ⟨q, q, q, q, q, q, q, q, q, q, trivial⟩ ⟨q, q, q, trivial⟩ trivial q⟩
        ·have h := bif_f h hb
         refine on q q q<|vm q q q q q<|on q q q<|ov (g_gtr q q q q q) q<|vf q q q q q q<|on0<|Sq.n<|⟨(decide (100 < v105.1)), h, has_mk ⟨q, q, q, q, q, q, q, q, q, q, trivial⟩ ⟨q, q, q, trivial⟩ trivial q⟩
      ·have h := bif_f h hb
       refine o2 q q q q q q<|o2 q q q q q q<|on q q q<|vf q q q q q q<|vf q q q q q q<|vm q q q q q<|on q q q<|vm q q q q q<|on q q q<|ov (g_lss q q q q q) q<|vf q q q q q q<|vm q q q q q<|Ops.split 101 q (fun hb => ?_) (fun hb => ?_)
       ·have h := bif_t h hb
        refine o2 q q q q q q<|o2 q q q q q q<|vt q q q q q q<|on0<|Sq.n<|⟨true, h, has_mk ⟨q, q, q, q, q, q, q, q, q, q, trivial⟩ ⟨q, q, q, trivial⟩ trivial q⟩
       ·have h := bif_f h hb
        refine on q q q<|vm q q q q q<|on q q q<|ov (g_gtr q q q q q) q<|vf q q q q q q<|on0<|Sq.n<|⟨(decide (100 < v105.1)), h, has_mk ⟨q, q, q, q, q, q, q, q, q, q, trivial⟩ ⟨q, q, q, trivial⟩ trivial q⟩
    ·rintro v109 h
     change s_10_j2 n v0 v1 v2 v3 v4 v105 v108 v109 = some r at h
     unfold s_10_j2 at h
     change W _ _ (⟨[(1, .pv (.i v1)), (2, .pv (.i v2)), (4, .pv (.i v4)), (5, .box 5 0), (8, .box 8 0), (11, .pv (.i v105.1)), (12, .pv (.i v105.2)), (13, .box 13 0), (14, .pv (.i v108.2)), (104, .pv (.b v109))], [(5, 27, [.pv (.sl (List.map cAcid v0.acids)), .pv (.i v0.known), .pv (.i v0.hours), .pv (.sl (List.map eI v0.adds)), .pv (.sl (List.map cStrip v0.strips)), .pv (.sl (List.map cBatch v0.batches))]), (8, 54, [.pv (.i v3.acid), .pv (.sl (List.map eI v3.strength))]), (13, 57, [.pv (.i v108.1.low), .pv (.i v108.1.high)])], []⟩ : Env) _
     refine W.cond (b := v109) q (fun hc => ?_) (fun hc => ?_)
     ·have h := bif_t h hc
      refine W.seq<|W.region<|va q q q q q<|on0<|Sq.n<|W.ret<|Sq.r ?_
      obtain rfl := Option.some.inj h
      exact Fin.r q (.cons (.tmp _ _ q) .nil) q
     ·have h := bif_f h hc
      refine W.skip<|Sq.n<|W.seq<|W.seqJ (σ := Bool) (fun s => (⟨[(1, .pv (.i v1)), (2, .pv (.i v2)), (5, .box 5 0), (8, .box 8 0), (11, .pv (.i v105.1)), (12, .pv (.i v105.2)), (127, .pv (.b s))], [(5, 27, [.pv (.sl (List.map cAcid v0.acids)), .pv (.i v0.known), .pv (.i v0.hours), .pv (.sl (List.map eI v0.adds)), .pv (.sl (List.map cStrip v0.strips)), .pv (.sl (List.map cBatch v0.batches))]), (8, 54, [.pv (.i v3.acid), .pv (.sl (List.map eI v3.strength))])], []⟩ : Env)) (fun s => s_10_j3 n v0 v1 v2 v3 v105 s = some r) ?_ ?_
      ·refine W.region<|vm q q q q q<|ov (g_neq q q q q q) q<|vm q q q q q<|Ops.split 107 q (fun hb => ?_) (fun hb => ?_)
       ·have h := bif_t h hb
        refine o2 q q q q q q<|o2 q q q q q q<|o2 q q q q q q<|vt q q q q q q<|vm q q q q q<|on q q q<|vm q q q q q<|on q q q<|ov (g_eql q q q q q) q<|vt q q q q q q<|vm q q q q q<|Ops.split 116 q (fun hb => ?_) (fun hb => ?_)
        ·have h := bif_t h hb
         refine on q q q<|vm q q q q q<|on q q q<|ov (g_fld q q q q fl_57_0) q<|on q q q<|ov (g_load1 q q q q q q ag_3) q<|on q q q<|ov (g_geq q q q q q) q<|vt q q q q q q<|vm q q q q q<|Ops.split 122 q (fun hb => ?_) (fun hb => ?_)
         ·have h := bif_t h hb
          refine on q q q<|vm q q q q q<|on q q q<|ov (g_fld q q q q fl_57_1) q<|on q q q<|ov (g_load1 q q q q q q ag_3) q<|on q q q<|ov (g_leq q q q q q) q<|vt q q q q q q<|on0<|Sq.n<|⟨(decide (v2 ≤ v108.1.high)), h, has_mk ⟨q, q, q, q, q, q, q, trivial⟩ ⟨q, q, trivial⟩ trivial q⟩
         ·have h := bif_f h hb
          refine o2 q q q q q q<|o2 q q q q q q<|o2 q q q q q q<|o2 q q q q q q<|vf q q q q q q<|on0<|Sq.n<|⟨false, h, has_mk ⟨q, q, q, q, q, q, q, trivial⟩ ⟨q, q, trivial⟩ trivial q⟩
        ·have h := bif_f h hb
         refine o2 q q q q q q<|o2 q q q q q q<|o2 q q q q q q<|o2 q q q q q q<|vf q q q q q q<|vm q q q q q<|o2 q q q q q q<|o2 q q q q q q<|o2 q q q q q q<|o2 q q q q q q<|vf q q q q q q<|on0<|Sq.n<|⟨false, h, has_mk ⟨q, q, q, q, q, q, q, trivial⟩ ⟨q, q, trivial⟩ trivial q⟩
       ·have h := bif_f h hb
        refine on q q q<|vm q q q q q<|on q q q<|vm q q q q q<|on q q q<|ov (g_lss q q q q q) q<|vf q q q q q q<|vm q q q q q<|Ops.split 112 q (fun hb => ?_) (fun hb => ?_)
        ·have h := bif_t h hb
         refine on q q q<|vm q q q q q<|on q q q<|ov (g_eql q q q q q) q<|vt q q q q q q<|vm q q q q q<|Ops.split 116 q (fun hb => ?_) (fun hb => ?_)
         ·have h := bif_t h hb
          refine on q q q<|vm q q q q q<|on q q q<|ov (g_fld q q q q fl_57_0) q<|on q q q<|ov (g_load1 q q q q q q ag_3) q<|on q q q<|ov (g_geq q q q q q) q<|vt q q q q q q<|vm q q q q q<|Ops.split 122 q (fun hb => ?_) (fun hb => ?_)
          ·have h := bif_t h hb
           refine on q q q<|vm q q q q q<|on q q q<|ov (g_fld q q q q fl_57_1) q<|on q q q<|ov (g_load1 q q q q q q ag_3) q<|on q q q<|ov (g_leq q q q q q) q<|vt q q q q q q<|on0<|Sq.n<|⟨(decide (v2 ≤ v108.1.high)), h, has_mk ⟨q, q, q, q, q, q, q, trivial⟩ ⟨q, q, trivial⟩ trivial q⟩
          ·have h := bif_f h hb
           refine o2 q q q q q q<|o2 q q q q q q<|o2 q q q q q q<|o2 q q q q q q<|vf q q q q q q<|on0<|Sq.n<|⟨false, h, has_mk ⟨q, q, q, q, q, q, q, trivial⟩ ⟨q, q, trivial⟩ trivial q⟩
         ·have h := bif_f h hb
          refine o2 q q q q q q<|o2 q q q q q q<|o2 q q q q q q<|o2 q q q q q q<|vf q q q q q q<|vm q q q q q<|o2 q q q q q q<|o2 q q q q q q<|o2 q q q q q q<|o2 q q q q q q<|vf q q q q q q<|on0<|Sq.n<|⟨false, h, has_mk ⟨q, q, q, q, q, q, q, trivial⟩ ⟨q, q, trivial⟩ trivial q⟩
        ·have h := bif_f h hb
         refine o2 q q q q q q<|o2 q q q q q q<|vf q q q q q q<|vm q q q q q<|o2 q q q q q q<|o2 q q q q q q<|o2 q q q q q q<|o2 q q q q q q<|vf q q q q q q<|vm q q q q q<|o2 q q q q q q<|o2 q q q q q q<|o2 q q q q q q<|o2 q q q q q q<|vf q q q q q q<|on0<|Sq.n<|⟨false, h, has_mk ⟨q, q, q, q, q, q, q, trivial⟩ ⟨q, q, trivial⟩ trivial q⟩
      ·rintro v110 h
       change s_10_j3 n v0 v1 v2 v3 v105 v110 = some r at h
       unfold s_10_j3 at h
       change W _ _ (⟨[(1, .pv (.i v1)), (2, .pv (.i v2)), (5, .box 5 0), (8, .box 8 0), (11, .pv (.i v105.1)), (12, .pv (.i v105.2)), (127, .pv (.b v110))], [(5, 27, [.pv (.sl (List.map cAcid v0.acids)), .pv (.i v0.known), .pv (.i v0.hours), .pv (.sl (List.map eI v0.adds)), .pv (.sl (List.map cStrip v0.strips)), .pv (.sl (List.map cBatch v0.batches))]), (8, 54, [.pv (.i v3.acid), .pv (.sl (List.map eI v3.strength))])], []⟩ : Env) _
       refine W.cond (b := v110) q (fun hc => ?_) (fun hc => ?_)
       ·have h := bif_t h hc
        refine W.seq<|W.region<|va q q q q q<|on0<|Sq.n<|W.ret<|Sq.r ?_
        obtain rfl := Option.some.inj h
        exact Fin.r q (.cons (.tmp _ _ q) .nil) q
       ·have h := bif_f h hc
        refine W.skip<|Sq.n<|W.seq<|W.seq<|W.region<|vm q q q q q<|ov (g_neq q q q q q) q<|on0<|Sq.n<|W.cond (b := (!decide (v105.2 = 0))) q (fun hc => ?_) (fun hc => ?_)
        ·have h := bif_t h hc
         refine W.seq<|W.region ?_
         obtain ⟨v111, e111, h⟩ := bind_some h
         refine ov (g_call q q q ca_24 q (c_24 _  e111)) q<|va q q q q q<|on0<|Sq.n<|W.ret<|Sq.r ?_
         obtain rfl := Option.some.inj h
         exact Fin.r q (.cons (.tmp _ _ q) .nil) q
        ·have h := bif_f h hc
         refine W.skip<|Sq.n<|W.seq<|W.region<|ov (g_loadA q q q q q ag_27 sz_27 q q) q<|vm q q q q q<|vm q q q q q ?_
         obtain ⟨v112, e112, h⟩ := bind_some h
         refine ov (g_call q q q ca_49 q (c_49 _ _ _ _ e112)) q<|ob (g_alloc q q q zr_27) q q<|Ops.step q (s_storeB q q q q q q sz_27 q q)<|on0<|Sq.n<|W.seq<|W.region<|ov (g_loadA q q q q q ag_27 sz_27 q q) q ?_
         obtain ⟨v113, e113, h⟩ := bind_some h
         refine ov (g_call q q q ca_46 q (c_46 _ _ e113)) q<|vm q q q q q<|ov (g_extract q q q q q) q<|ov (g_extract q q q q q) q<|ob (g_alloc q q q zr_57) q q<|Ops.step q (s_storeB q q q q q q sz_57 q q)<|va q q q q q<|on0<|Sq.n<|W.seq<|W.seqJ (σ := Bool) (fun s => (⟨[(2, .pv (.i v2)), (5, .box 5 0), (8, .box 8 0), (15, .box 15 0), (153, .pv (.b s))], [(5, 27, [.pv (.sl (List.map cAcid v0.acids)), .pv (.i v0.known), .pv (.i v0.hours), .pv (.sl (List.map eI v0.adds)), .pv (.sl (List.map cStrip v0.strips)), .pv (.sl (List.map cBatch v0.batches))]), (8, 54, [.pv (.i v3.acid), .pv (.sl (List.map eI v3.strength))]), (15, 27, [.pv (.sl (List.map cAcid v112.acids)), .pv (.i v112.known), .pv (.i v112.hours), .pv (.sl (List.map eI v112.adds)), .pv (.sl (List.map cStrip v112.strips)), .pv (.sl (List.map cBatch v112.batches))])], []⟩ : Env)) (fun s => s_10_j4 n v0 v2 v3 v112 s = some r) ?_ ?_
         ·refine W.region<|vm q q q q q<|ov (g_neq q q q q q) q<|vm q q q q q<|Ops.split 142 q (fun hb => ?_) (fun hb => ?_)
          ·have h := bif_t h hb
           refine o2 q q q q q q<|o2 q q q q q q<|o2 q q q q q q<|o2 q q q q q q<|vt q q q q q q<|vm q q q q q<|o2 q q q q q q<|o2 q q q q q q<|o2 q q q q q q<|o2 q q q q q q<|vt q q q q q q<|on0<|Sq.n<|⟨true, h, has_mk ⟨q, q, q, q, q, trivial⟩ ⟨q, q, q, trivial⟩ trivial q⟩
          ·have h := bif_f h hb
           refine on q q q<|vm q q q q q<|on q q q<|ov (g_fld q q q q fl_57_0) q<|on q q q<|ov (g_load1 q q q q q q ag_3) q<|on q q q<|ov (g_lss q q q q q) q<|vf q q q q q q<|vm q q q q q<|Ops.split 148 q (fun hb => ?_) (fun hb => ?_)
           ·have h := bif_t h hb
            refine o2 q q q q q q<|o2 q q q q q q<|o2 q q q q q q<|o2 q q q q q q<|vt q q q q q q<|on0<|Sq.n<|⟨true, h, has_mk ⟨q, q, q, q, q, trivial⟩ ⟨q, q, q, trivial⟩ trivial q⟩
           ·have h := bif_f h hb
            refine on q q q<|vm q q q q q<|on q q q<|ov (g_fld q q q q fl_57_1) q<|on q q q<|ov (g_load1 q q q q q q ag_3) q<|on q q q<|ov (g_gtr q q q q q) q<|vf q q q q q q<|on0<|Sq.n<|⟨(decide (v113.1.high < v2)), h, has_mk ⟨q, q, q, q, q, trivial⟩ ⟨q, q, q, trivial⟩ trivial q⟩
         ·rintro v114 h
          change s_10_j4 n v0 v2 v3 v112 v114 = some r at h
          unfold s_10_j4 at h
          change W _ _ (⟨[(2, .pv (.i v2)), (5, .box 5 0), (8, .box 8 0), (15, .box 15 0), (153, .pv (.b v114))], [(5, 27, [.pv (.sl (List.map cAcid v0.acids)), .pv (.i v0.known), .pv (.i v0.hours), .pv (.sl (List.map eI v0.adds)), .pv (.sl (List.map cStrip v0.strips)), .pv (.sl (List.map cBatch v0.batches))]), (8, 54, [.pv (.i v3.acid), .pv (.sl (List.map eI v3.strength))]), (15, 27, [.pv (.sl (List.map cAcid v112.acids)), .pv (.i v112.known), .pv (.i v112.hours), .pv (.sl (List.map eI v112.adds)), .pv (.sl (List.map cStrip v112.strips)), .pv (.sl (List.map cBatch v112.batches))])], []⟩ : Env) _
          refine W.cond (b := v114) q (fun hc => ?_) (fun hc => ?_)
          ·have h := bif_t h hc
           refine W.seq<|W.region<|va q q q q q<|on0<|Sq.n<|W.ret<|Sq.r ?_
           obtain rfl := Option.some.inj h
           exact Fin.r q (.cons (.tmp _ _ q) .nil) q
          ·have h := bif_f h hc
           refine W.skip<|Sq.n<|W.seq<|W.seqJ (σ := Bool) (fun s => (⟨[(2, .pv (.i v2)), (5, .box 5 0), (8, .box 8 0), (15, .box 15 0), (163, .pv (.b s))], [(5, 27, [.pv (.sl (List.map cAcid v0.acids)), .pv (.i v0.known), .pv (.i v0.hours), .pv (.sl (List.map eI v0.adds)), .pv (.sl (List.map cStrip v0.strips)), .pv (.sl (List.map cBatch v0.batches))]), (8, 54, [.pv (.i v3.acid), .pv (.sl (List.map eI v3.strength))]), (15, 27, [.pv (.sl (List.map cAcid v112.acids)), .pv (.i v112.known), .pv (.i v112.hours), .pv (.sl (List.map eI v112.adds)), .pv (.sl (List.map cStrip v112.strips)), .pv (.sl (List.map cBatch v112.batches))])], []⟩ : Env)) (fun s => s_10_j5 n v0 v2 v3 v112 s = some r) ?_ ?_
           ·refine W.region<|ov (g_loadA q q q q q ag_27 sz_27 q q) q<|ov (g_loadA q q q q q ag_54 sz_54 q q) q ?_
            obtain ⟨v115, e115, h⟩ := bind_some h
            refine ov (g_call q q q ca_44 q (c_44 _ _ _ e115)) q<|ov (g_not q q q q) q<|vm q q q q q<|Ops.split 158 q (fun hb => ?_) (fun hb => ?_)
            ·have h := bif_t h hb
             refine o2 q q q q q q<|o2 q q q q q q<|o2 q q q q q q<|o2 q q q q q q<|vt q q q q q q<|on0<|Sq.n<|⟨true, h, has_mk ⟨q, q, q, q, q, trivial⟩ ⟨q, q, q, trivial⟩ trivial q⟩
            ·have h := bif_f h hb
             refine on q q q<|ov (g_loadA q q q q q ag_27 sz_27 q q) q<|on q q q<|ov (g_loadA q q q q q ag_54 sz_54 q q) q<|on q q q ?_
             obtain ⟨v116, e116, h⟩ := bind_some h
             refine ov (g_call q q q ca_45 q (c_45 _ _ _ e116)) q<|on q q q<|ov (g_not q q q q) q<|vf q q q q q q<|on0<|Sq.n<|⟨(!v116), h, has_mk ⟨q, q, q, q, q, trivial⟩ ⟨q, q, q, trivial⟩ trivial q⟩
           ·rintro v117 h
            change s_10_j5 n v0 v2 v3 v112 v117 = some r at h
            unfold s_10_j5 at h
            change W _ _ (⟨[(2, .pv (.i v2)), (5, .box 5 0), (8, .box 8 0), (15, .box 15 0), (163, .pv (.b v117))], [(5, 27, [.pv (.sl (List.map cAcid v0.acids)), .pv (.i v0.known), .pv (.i v0.hours), .pv (.sl (List.map eI v0.adds)), .pv (.sl (List.map cStrip v0.strips)), .pv (.sl (List.map cBatch v0.batches))]), (8, 54, [.pv (.i v3.acid), .pv (.sl (List.map eI v3.strength))]), (15, 27, [.pv (.sl (List.map cAcid v112.acids)), .pv (.i v112.known), .pv (.i v112.hours), .pv (.sl (List.map eI v112.adds)), .pv (.sl (List.map cStrip v112.strips)), .pv (.sl (List.map cBatch v112.batches))])], []⟩ : Env) _
            refine W.cond (b := v117) q (fun hc => ?_) (fun hc => ?_)
            ·have h := bif_t h hc
             refine W.seq<|W.region ?_
             obtain ⟨v118, e118, h⟩ := bind_some h
             refine ov (g_call q q q ca_24 q (c_24 _  e118)) q<|va q q q q q<|on0<|Sq.n<|W.ret<|Sq.r ?_
             obtain rfl := Option.some.inj h
             exact Fin.r q (.cons (.tmp _ _ q) .nil) q
            ·have h := bif_f h hc
             refine W.skip<|Sq.n<|W.seq<|W.region<|ov (g_loadA q q q q q ag_27 sz_27 q q) q<|ov (g_loadA q q q q q ag_54 sz_54 q q) q<|vm q q q q q ?_
             obtain ⟨v119, e119, h⟩ := bind_some h
             refine ov (g_call q q q ca_47 q (c_47 _ _ _ _ e119)) q<|vm q q q q q<|ov (g_extract q q q q q) q<|ov (g_extract q q q q q) q<|va q q q q q<|va q q q q q<|on0<|Sq.n<|W.seq<|W.seqJ (σ := Bool) (fun s => (⟨[(5, .box 5 0), (18, .pv (.sl (List.map cState v119.1))), (181, .pv (.b s))], [(5, 27, [.pv (.sl (List.map cAcid v0.acids)), .pv (.i v0.known), .pv (.i v0.hours), .pv (.sl (List.map eI v0.adds)), .pv (.sl (List.map cStrip v0.strips)), .pv (.sl (List.map cBatch v0.batches))])], []⟩ : Env)) (fun s => s_10_j6 n v0 v119 s = some r) ?_ ?_
             ·refine W.region<|vm q q q q q<|ov (g_neq q q q q q) q<|vm q q q q q<|Ops.split 174 q (fun hb => ?_) (fun hb => ?_)
              ·have h := bif_t h hb
               refine o2 q q q q q q<|o2 q q q q q q<|o2 q q q q q q<|o2 q q q q q q<|o2 q q q q q q<|o2 q q q q q q<|vt q q q q q q<|on0<|Sq.n<|⟨true, h, has_mk ⟨q, q, q, trivial⟩ ⟨q, trivial⟩ trivial q⟩
              ·have h := bif_f h hb
               refine on q q q<|vm q q q q q<|on q q q<|ov (g_lenM (l := v119.1) (enc := cState) q ul_60 q q q) q<|on q q q<|ov (g_fld q q q q fl_27_5) q<|on q q q<|ov (g_load1 q q q q q q ag_25) q<|on q q q<|ov (g_lenM (l := v0.batches) (enc := cBatch) q ul_25 q q q) q<|on q q q<|ov (g_neq q q q q q) q<|vf q q q q q q<|on0<|Sq.n<|⟨(!decide ((v119.1.length : Int) = (v0.batches.length : Int))), h, has_mk ⟨q, q, q, trivial⟩ ⟨q, trivial⟩ trivial q⟩
             ·rintro v120 h
              change s_10_j6 n v0 v119 v120 = some r at h
              unfold s_10_j6 at h
              change W _ _ (⟨[(5, .box 5 0), (18, .pv (.sl (List.map cState v119.1))), (181, .pv (.b v120))], [(5, 27, [.pv (.sl (List.map cAcid v0.acids)), .pv (.i v0.known), .pv (.i v0.hours), .pv (.sl (List.map eI v0.adds)), .pv (.sl (List.map cStrip v0.strips)), .pv (.sl (List.map cBatch v0.batches))])], []⟩ : Env) _
              refine W.cond (b := v120) q (fun hc => ?_) (fun hc => ?_)
              ·have h := bif_t h hc
               refine W.seq<|W.region<|va q q q q q<|on0<|Sq.n<|W.ret<|Sq.r ?_
               obtain rfl := Option.some.inj h
               exact Fin.r q (.cons (.tmp _ _ q) .nil) q
              ·have h := bif_f h hc
               refine W.skip<|Sq.n<|W.seq<|W.seq<|W.region<|va q q q q q<|on0<|Sq.n<|W.block<|W.loop (σ := Nat × Int) (fun s => (⟨[(5, .box 5 0), (18, .pv (.sl (List.map cState v119.1))), (20, .pv (.i s.2))], [(5, 27, [.pv (.sl (List.map cAcid v0.acids)), .pv (.i v0.known), .pv (.i v0.hours), .pv (.sl (List.map eI v0.adds)), .pv (.sl (List.map cStrip v0.strips)), .pv (.sl (List.map cBatch v0.batches))])], []⟩ : Env)) (fun s => s_10_l7 n v0 v119 s.1 s.2 = some r) (fun s => s.1) (n, 0) h (has_mk ⟨q, q, q, trivial⟩ ⟨q, trivial⟩ trivial q) ?_
               rintro ⟨k7, v126⟩ h
               change s_10_l7 n v0 v119 k7 v126 = some r at h
               rcases k7 with _ | k7
               ·rw [s_10_l7] at h
                cases h
               ·rw [s_10_l7] at h
                change W _ _ (⟨[(5, .box 5 0), (18, .pv (.sl (List.map cState v119.1))), (20, .pv (.i v126))], [(5, 27, [.pv (.sl (List.map cAcid v0.acids)), .pv (.i v0.known), .pv (.i v0.hours), .pv (.sl (List.map eI v0.adds)), .pv (.sl (List.map cStrip v0.strips)), .pv (.sl (List.map cBatch v0.batches))])], []⟩ : Env) _
                refine W.seq<|W.seq<|W.region<|vm q q q q q<|vm q q q q q<|ov (g_lenM (l := v119.1) (enc := cState) q ul_60 q q q) q<|ov (g_lss q q q q q) q<|on0<|Sq.n<|W.cond (b := (decide (v126 < (v119.1.length : Int)))) q (fun hc => ?_) (fun hc => ?_)
                ·have h := bif_t h hc
                 refine W.skip<|Sq.n<|W.seq<|W.block<|W.seqJ (σ := Bool) (fun s => (⟨[(5, .box 5 0), (18, .pv (.sl (List.map cState v119.1))), (20, .pv (.i v126)), (213, .pv (.b s))], [(5, 27, [.pv (.sl (List.map cAcid v0.acids)), .pv (.i v0.known), .pv (.i v0.hours), .pv (.sl (List.map eI v0.adds)), .pv (.sl (List.map cStrip v0.strips)), .pv (.sl (List.map cBatch v0.batches))])], []⟩ : Env)) (fun s => s_10_j13 (s_10_l7 n v0 v119 k7) v126 s = some r) ?_ ?_
                 ·obtain ⟨v132, e132, h⟩ := bind_some h
                  obtain ⟨v133, e133, h⟩ := bind_some h
                  rcases Bool.eq_false_or_eq_true ((decide (v133.goal < v132.rough))) with hb12 | hb12
                  ·have h := bif_t h hb12
                   refine W.draw (m := 24) Checked.mixed (Pre.v (GSG.of q (g_move q q q q)) ((Pre.v (GSG.of q (g_move q q q q)) ((Pre.v (GSG.of q (g_idxI (l := v119.1) (enc := cState) e132 q q q q q el_60 q)) ((Pre.v (GSG.of q (g_fldR q q q q fl_69_0 q)) ((Pre.v (GSG.of q (g_loadR1 q q q q q ag_3)) ((Pre.v (GSG.of q (g_fld q q q q fl_27_5)) ((Pre.v (GSG.of q (g_load1 q q q q q q ag_25)) ((Pre.v (GSG.of q (g_move q q q q)) ((Pre.v (GSG.of q (g_idxI (l := v0.batches) (enc := cBatch) e133 q q q q q el_25 q)) ((Pre.v (GSG.of q (g_fldR q q q q fl_67_1 q)) ((Pre.v (GSG.of q (g_loadR1 q q q q q ag_3)) ((Pre.v (GSG.of q (g_gtr q q q q q)) ((Pre.v (GSG.as (GSG.of q (g_move q q q q)) (congrArg (fun b => TV.pv (PV.b b)) hb12)) ((Pre.v (GSG.off2 q q q q q q) ((Pre.v (GSG.off2 q q q q q q) ((Pre.v (GSG.off2 q q q q q q) ((Pre.v (GSG.off2 q q q q q q) ((Pre.v (GSG.off2 q q q q q q) ((Pre.v (GSG.off2 q q q q q q) ((Pre.v (GSG.off2 q q q q q q) ((Pre.v (GSG.off2 q q q q q q) ((Pre.v (GSG.off2 q q q q q q) ((Pre.v (GSG.off2 q q q q q q) ((Pre.v (GSG.off2 q q q q q q) (Pre.nil _)))))))))))))))))))))))))))))))))))))))))))))))) (by kernel_rfl)<|o2 q q q q q q<|vt q q q q q q<|on0<|Sq.n<|⟨true, h, has_mk ⟨q, q, q, q, trivial⟩ ⟨q, trivial⟩ trivial q⟩
                  ·have h := bif_f h hb12
                   obtain ⟨v134, e134, h⟩ := bind_some h
                   obtain ⟨v135, e135, h⟩ := bind_some h
                   refine W.draw (m := 24) Checked.mixed (Pre.v (GSG.of q (g_move q q q q)) ((Pre.v (GSG.of q (g_move q q q q)) ((Pre.v (GSG.of q (g_idxI (l := v119.1) (enc := cState) e132 q q q q q el_60 q)) ((Pre.v (GSG.of q (g_fldR q q q q fl_69_0 q)) ((Pre.v (GSG.of q (g_loadR1 q q q q q ag_3)) ((Pre.v (GSG.of q (g_fld q q q q fl_27_5)) ((Pre.v (GSG.of q (g_load1 q q q q q q ag_25)) ((Pre.v (GSG.of q (g_move q q q q)) ((Pre.v (GSG.of q (g_idxI (l := v0.batches) (enc := cBatch) e133 q q q q q el_25 q)) ((Pre.v (GSG.of q (g_fldR q q q q fl_67_1 q)) ((Pre.v (GSG.of q (g_loadR1 q q q q q ag_3)) ((Pre.v (GSG.of q (g_gtr q q q q q)) ((Pre.v (GSG.as (GSG.of q (g_move q q q q)) (congrArg (fun b => TV.pv (PV.b b)) hb12)) ((Pre.v (GSG.on q q q (g_move q q q q)) ((Pre.v (GSG.on q q q (g_move q q q q)) ((Pre.v (GSG.on q q q (g_idxI (l := v119.1) (enc := cState) e134 q q q q q el_60 q)) ((Pre.v (GSG.on q q q (g_fldR q q q q fl_69_1 q)) ((Pre.v (GSG.on q q q (g_loadR1 q q q q q ag_3)) ((Pre.v (GSG.on q q q (g_fld q q q q fl_27_5)) ((Pre.v (GSG.on q q q (g_load1 q q q q q q ag_25)) ((Pre.v (GSG.on q q q (g_move q q q q)) ((Pre.v (GSG.on q q q (g_idxI (l := v0.batches) (enc := cBatch) e135 q q q q q el_25 q)) ((Pre.v (GSG.on q q q (g_fldR q q q q fl_67_3 q)) ((Pre.v (GSG.on q q q (g_loadR1 q q q q q ag_3)) (Pre.nil _)))))))))))))))))))))))))))))))))))))))))))))))) (by kernel_rfl)<|on q q q<|ov (g_lss q q q q q) q<|vf q q q q q q<|on0<|Sq.n<|⟨(decide (v134.thick < v135.least)), h, has_mk ⟨q, q, q, q, trivial⟩ ⟨q, trivial⟩ trivial q⟩
                 ·rintro v136 h
                  change s_10_j13 (s_10_l7 n v0 v119 k7) v126 v136 = some r at h
                  unfold s_10_j13 at h
                  change W _ _ (⟨[(5, .box 5 0), (18, .pv (.sl (List.map cState v119.1))), (20, .pv (.i v126)), (213, .pv (.b v136))], [(5, 27, [.pv (.sl (List.map cAcid v0.acids)), .pv (.i v0.known), .pv (.i v0.hours), .pv (.sl (List.map eI v0.adds)), .pv (.sl (List.map cStrip v0.strips)), .pv (.sl (List.map cBatch v0.batches))])], []⟩ : Env) _
                  refine W.cond (b := v136) q (fun hc => ?_) (fun hc => ?_)
                  ·have h := bif_t h hc
                   refine W.seq<|W.region<|va q q q q q<|on0<|Sq.n<|W.ret<|Bl.r<|Sq.r<|Sq.r<|Bl.r<|Sq.r ?_
                   obtain rfl := Option.some.inj h
                   exact Fin.r q (.cons (.tmp _ _ q) .nil) q
                  ·have h := bif_f h hc
                   exact W.skip<|Bl.n<|Sq.n<|W.region<|vm q q q q q<|ov (g_add q q q q q) q<|va q q q q q<|on0<|Sq.n<|⟨(k7, wr (v126 + 1)), h, Nat.lt_succ_self _, has_mk ⟨q, q, q, trivial⟩ ⟨q, trivial⟩ trivial q⟩
                ·have h := bif_f h hc
                 refine W.exit<|Sq.e<|Sq.e<|Bl.e<|Sq.n<|W.seq<|W.region ?_
                 obtain ⟨v137, e137, h⟩ := bind_some h
                 refine ov (g_call q q q ca_24 q (c_24 _  e137)) q<|va q q q q q<|on0<|Sq.n<|W.ret ?_
                 obtain rfl := Option.some.inj h
                 exact Fin.r q (.cons (.tmp _ _ q) .nil) q
end Go.Proofs.YtohmhlkdgfcaeaaGreatDoor
namespace Go.Proofs.YtohmhlkdgfcaeaaGreatDoor
open Go Go.RowKit
section
variable {d : Drum} {tr : Truth} {v t' : Nat}
theorem p_35 (hs : Short d) (hok : okD d = true) (hv : v < hrs d) {t : Int} (h1 : (v : Int) < t) (h2 : t ≤ d.hours) :
  s_35 1000 d (v : Int) t = some (0, 7) ∨ (idx d ≠ [] ∧ noLate d v ∧ s_35 1000 d (v : Int) t = some (bif decide (firstH (topP d v t) 101 0 < 0) then (0, 5) else (firstH (topP d v t) 101 0, 0))) := by
 have hn : 100 ≤ 1000 := by omega
 have hd := okD_iff.1 hok
 have hH := hrs_eq hd
 have hhr := hrs_le hd
 have h7 := hs.c
 have e1 : inb (v : Int) 0 (wr (d.hours - 1)) = true := by rw [wr_of (by omega)]; exact inb_iff.2 (by omega)
 have e2 : inb t (wr ((v : Int) + 1)) d.hours = true := by rw [wr_of (by omega)]; exact inb_iff.2 (by omega)
 unfold s_35
 rw [p_87, Option.bind_some, e1, cond_true, p_87, Option.bind_some, e2, p_84 hn hs, Option.bind_some]
 unfold s_35_j2
 rcases err_of_ok hok with he | he
 ·have hne := (err_zero he).2.2
  rw [he]
  simp only [decide_true, Bool.not_true, cond_false]
  rw [p_95 hn d.strips (by omega) (fun z0 => s_96 1000 z0 (v : Int)) (fun s => decide ((v : Int) ≤ s.hour)) (fun s _ => rfl), Option.bind_some]
  cases hlate : d.strips.any (fun s => decide ((v : Int) ≤ s.hour)) with
  | true => exact .inl rfl
  | false =>
   have hl := late_iff.1 hlate
   have e97 : s_97 1000 d.adds = some d.adds := by
    unfold s_97
    have := hs.b
    rw [app_of (by simp; omega)]
    rfl
   refine .inr ⟨hne, hl, ?_⟩
   rw [cond_false, e97, Option.bind_some]
   exact p_35_l3 hd hs (n := 1000) (by omega) hl hv hne t 101 0 1000 d.adds (by omega) (by omega) rfl (fun _ => rfl)
 ·rw [he]
  exact .inl rfl
theorem p_49 (hd : d.ok) (hv : v < hrs d) (x : Int) : s_49 1000 d (v : Int) x = some (putD d v x) := by
 have hadl := hd.adl
 have hH := hrs_eq hd
 have hhr := hrs_le hd
 unfold s_49
 rw [app_of (by simp; omega), Option.bind_some, List.nil_append, add_at hd (h := v) (by omega)]
 rfl
theorem put_err (hd : d.ok) (hl : noLate d v) (hne : idx d ≠ []) {x : Int} (hx : 0 ≤ x ∧ x ≤ 100) : err (putD d v x) true = 0 := by
 unfold err
 rw [okD_iff.2 (putD_ok hd hx), put_idx hd hl]
 cases h : idx d with
 | nil => exact absurd h hne
 | cons => rfl
theorem p_10_l7 (hd : d.ok) (hne : idx d ≠ []) (hsz : sizedB d tr = true) (hf : fitB d tr = true) (ht : t' ≤ hrs d) (h : ∀ b ∈ d.batches, smP d b t' = true ∧ thP d b t' = true) (d0 : Drum) (h0 : d0.batches = d.batches) : s_10_l7 1000 d0 (runL d tr t', 0) 1000 0 = some true := by
 have hbt := hd.btl
 have l1 : (runL d tr t').length = d.batches.length := by simp [runL]
 have h9 := loop_all d.batches (s_10_l7 1000 d0 (runL d tr t', 0)) (fun _ => true) (some true) (fun k i => by
  rw [s_10_l7]
  simp only [l1]
  by_cases hib : i < d.batches.length
  ·have hbm := List.getElem_mem hib
   have hb := hd.bt _ hbm
   have g1 : ix (runL d tr t') (i : Int) = some (stateAt d.batches[i] (stren tr) t') := ix_at (by unfold runL; rw [List.getElem?_map, List.getElem?_eq_getElem hib]; rfl)
   have g2 : ix d0.batches (i : Int) = some d.batches[i] := by rw [h0]; exact ix_at (List.getElem?_eq_getElem hib)
   obtain ⟨q1, q2⟩ := h _ hbm
   have q3 := fit_inB hd hsz hf hb ht
   unfold inB at q3
   unfold smP at q1
   unfold thP at q2
   rw [decide_eq_true_eq] at q1 q2
   simp only [g1, g2, Option.bind_some, ix_at (List.getElem?_eq_getElem hib)]
   rw [decide_eq_false (show ¬ (d.batches[i].goal < (stateAt d.batches[i] (stren tr) t').rough) by omega), decide_eq_false (show ¬ ((stateAt d.batches[i] (stren tr) t').thick < d.batches[i].least) by omega)]
   simp only [cond_false, cond_true, s_10_j13, p_24, Option.bind_some]
  ·have e1 : decide ((i : Int) < ((d.batches.length : Nat) : Int)) = false := decide_eq_false (by omega)
   rw [e1, cond_false, cond_false, p_24, Option.bind_some]) (by omega) (k := 1000) (by omega)
 rw [h9, List.all_eq_true.2 (fun _ _ => rfl), cond_true]
theorem law_10 (d : Drum) (v t : Int) (tr : Truth) (y : Int) : s_10 1000 d v t tr y = some true := by
 unfold s_10
 rw [p_23, Option.bind_some]
 have out : s_10_j1 1000 d v t tr y true = some true := by unfold s_10_j1; rw [cond_true, p_24, Option.bind_some]
 have hn : 100 ≤ 1000 := by omega
 cases hsh : shortB d with
 | false => simp only [Bool.not_false, cond_true]; exact out
 | true =>
  have hs := shortB_iff.1 hsh
  simp only [Bool.not_true, cond_false, p_39 hn hs, Option.bind_some]
  cases decide (15 < ((List.length tr.strength : Nat) : Int)) with
  | true => simp only [cond_true]; exact out
  | false =>
   cases hok : okD d with
   | false => simp only [Bool.not_false, cond_true, cond_false]; exact out
   | true =>
    have hd := okD_iff.1 hok
    have hH := hrs_eq hd
    have hhr := hrs_le hd
    simp only [Bool.not_true, cond_false]
    by_cases h0 : v < 0
    ·rw [decide_eq_true h0, cond_true]; exact out
    ·rw [decide_eq_false h0, cond_false]
     by_cases h1 : d.hours ≤ v
     ·rw [decide_eq_true h1, cond_true]; exact out
     ·rw [decide_eq_false h1, cond_false]
      by_cases h2 : t ≤ v
      ·rw [decide_eq_true h2, cond_true]; exact out
      ·rw [decide_eq_false h2, cond_false]
       by_cases h3 : d.hours < t
       ·rw [decide_eq_true h3, cond_true]; exact out
       ·rw [decide_eq_false h3, cond_false]
        by_cases h4 : y < 0
        ·rw [decide_eq_true h4, cond_true]; exact out
        ·rw [decide_eq_false h4, cond_false]
         by_cases h5 : 100 < y
         ·rw [decide_eq_true h5]; exact out
         ·rw [decide_eq_false h5]
          obtain ⟨v', hv⟩ := Int.eq_ofNat_of_zero_le (show 0 ≤ v by omega)
          obtain ⟨t', ht⟩ := Int.eq_ofNat_of_zero_le (show 0 ≤ t by omega)
          obtain ⟨y', hy⟩ := Int.eq_ofNat_of_zero_le (show 0 ≤ y by omega)
          have hvl : v' < hrs d := by omega
          unfold s_10_j1
          rw [cond_false, hv]
          rcases p_35 hs hok hvl (t := t) (by omega) (by omega) with e35 | ⟨hne, hl, e35⟩
          ·rw [e35, Option.bind_some]
           simp only [decide_true, cond_true, p_24, Option.bind_some]
          ·rw [e35, Option.bind_some]
           have win : ∀ x : Nat, (x : Int) ≤ 100 → s_46 1000 (putD d v' (x : Int)) = some (bif decide (comm (wsP (putD d v' (x : Int)))).ne then (comm (wsP (putD d v' (x : Int))), 0) else (⟨0, 0⟩, 5)) := by
            intro x hx
            rw [p_46 hn (put_short hs), put_err hd hl hne (by omega)]
            rfl
           have told : ∀ w : Int × Int, w = (bif decide (firstH (topP d v' t) 101 0 < 0) then (0, 5) else (firstH (topP d v' t) 101 0, 0)) → s_10_j3 1000 d (v' : Int) t tr w false = some true := by
            intro w hw
            unfold s_10_j3
            rw [cond_false]
            by_cases hf : firstH (topP d v' t) 101 0 < 0
            ·rw [decide_eq_true hf, cond_true] at hw
             rw [hw]
             simp only [show decide ((5 : Int) = 0) = false from rfl, Bool.not_false, cond_true, p_24, Option.bind_some]
            ·rw [decide_eq_false hf, cond_false] at hw
             obtain ⟨q1, q2, q3⟩ := firstH_spec (topP d v' t) 101 0 (by omega)
             obtain ⟨s, hsn⟩ := Int.eq_ofNat_of_zero_le (show 0 ≤ firstH (topP d v' t) 101 0 by omega)
             rw [hsn] at hw q1 q3
             simp only [Int.toNat_natCast] at q1 q3
             have hsx : (s : Int) ≤ 100 := by omega
             have hpd := putD_ok (v := v') hd (x := (s : Int)) (by omega)
             have hpn : idx (putD d v' (s : Int)) ≠ [] := by rw [put_idx hd hl]; exact hne
             have hmem : (comm (wsP (putD d v' (s : Int)))).mem t := by unfold topP at q1; exact of_decide_eq_true q1
             have hall := (comm_mem hpd hpn (t := t') (show t' ≤ hrs d by omega)).1 (by rw [← ht]; exact hmem)
             rw [hw]
             simp only [decide_true, Bool.not_true, cond_false]
             rw [p_49 hd hvl, Option.bind_some, win s hsx, Option.bind_some, decide_eq_true (mem_ne hmem), cond_true]
             unfold Span.mem at hmem
             simp only [decide_true, Bool.not_true, cond_false]
             rw [decide_eq_false (show ¬ t < (comm (wsP (putD d v' (s : Int)))).low by omega), cond_false, decide_eq_false (show ¬ (comm (wsP (putD d v' (s : Int)))).high < t by omega)]
             unfold s_10_j4
             rw [cond_false, p_44, Option.bind_some]
             cases hsz : sizedB (putD d v' (s : Int)) tr with
             | false =>
              unfold s_10_j5
              simp only [Bool.not_false, cond_true, p_24, Option.bind_some]
             | true =>
              simp only [Bool.not_true, cond_false]
              rw [p_45 hpd hn hsz, Option.bind_some]
              unfold s_10_j5
              cases hfit : fitB (putD d v' (s : Int)) tr with
              | false => simp only [Bool.not_false, cond_true, p_24, Option.bind_some]
              | true =>
               have f1 : fineT (putD d v' (s : Int)) t = true := (inb_iff (v := t) (a := 0) (b := d.hours)).2 (by omega)
               have r1 : runOk (putD d v' (s : Int)) tr t = true := by unfold runOk; rw [okD_iff.2 hpd, hsz, hfit, f1]; rfl
               have n1 : t.toNat = t' := by omega
               have l1 : (runL (putD d v' (s : Int)) tr t').length = d.batches.length := by simp [runL, putD]
               simp only [Bool.not_true, cond_false]
               rw [p_47 hn (put_short hs), Option.bind_some, r1, cond_true, n1]
               simp only [decide_true, Bool.not_true, cond_false, l1]
               unfold s_10_j6
               rw [cond_false]
               exact p_10_l7 hpd hpn hsz hfit (show t' ≤ hrs d by omega) hall d rfl
           generalize hgw : (bif decide (firstH (topP d v' t) 101 0 < 0) then ((0 : Int), (5 : Int)) else (firstH (topP d v' t) 101 0, 0)) = w at told ⊢
           have htold := told w rfl
           have hw2 : (w = (0, 5) ∧ ∀ x : Nat, x < 101 → topP d v' t x = false) ∨ (w.2 = 0 ∧ 0 ≤ w.1 ∧ w.1 ≤ 100 ∧ ∀ x : Nat, (x : Int) < w.1 → topP d v' t x = false) := by
            by_cases hf : firstH (topP d v' t) 101 0 < 0
            ·rw [decide_eq_true hf, cond_true] at hgw
             exact .inl ⟨hgw.symm, fun x hx => firstH_none _ _ _ hf x (by omega) (by omega)⟩
            ·rw [decide_eq_false hf, cond_false] at hgw
             obtain ⟨q1, q2, q3⟩ := firstH_spec (topP d v' t) 101 0 (by omega)
             have q4 := firstH_before (topP d v' t) 101 0 (by omega)
             subst hgw
             exact .inr ⟨rfl, by simp only; omega, by simp only; omega, fun x hx => q4 x (by omega) hx⟩
           have h7 : decide (w.2 = 7) = false := by
            rcases hw2 with ⟨rfl, _⟩ | ⟨h, _⟩
            ·rfl
            ·rw [h]; rfl
           rw [h7, cond_false, p_49 hd hvl, Option.bind_some, hy, win y' (by omega), Option.bind_some]
           have prop : topP d v' t y' = false → ∀ u : Span × Int, u = (bif decide (comm (wsP (putD d v' (y' : Int)))).ne then (comm (wsP (putD d v' (y' : Int))), 0) else (⟨0, 0⟩, 5)) → (bif decide (u.2 = 0) then bif decide (u.1.low ≤ t) then s_10_j3 1000 d (v' : Int) t tr w (decide (t ≤ u.1.high)) else s_10_j3 1000 d (v' : Int) t tr w false else s_10_j3 1000 d (v' : Int) t tr w false) = some true := by
            intro hp u hu
            unfold topP at hp
            have hp := of_decide_eq_false hp
            unfold Span.mem at hp
            by_cases hc : (comm (wsP (putD d v' (y' : Int)))).ne
            ·rw [decide_eq_true hc, cond_true] at hu
             subst hu
             simp only [decide_true, cond_true]
             by_cases h8 : (comm (wsP (putD d v' (y' : Int)))).low ≤ t
             ·rw [decide_eq_true h8, cond_true, decide_eq_false (by omega)]; exact htold
             ·rw [decide_eq_false h8, cond_false]; exact htold
            ·rw [decide_eq_false hc, cond_false] at hu
             subst hu
             simp only [show decide ((5 : Int) = 0) = false from rfl, cond_false]
             exact htold
           have hu2 : ∀ u : Span × Int, u = (bif decide (comm (wsP (putD d v' (y' : Int)))).ne then (comm (wsP (putD d v' (y' : Int))), 0) else (⟨0, 0⟩, 5)) → u.2 = 0 ∨ u.2 = 5 := by
            intro u hu
            subst hu
            cases decide (comm (wsP (putD d v' (y' : Int)))).ne
            ·exact .inr rfl
            ·exact .inl rfl
           generalize hgu : (bif decide (comm (wsP (putD d v' (y' : Int)))).ne then (comm (wsP (putD d v' (y' : Int))), (0 : Int)) else (⟨0, 0⟩, 5)) = u at prop hu2 ⊢
           have hj2 : s_10_j2 1000 d (v' : Int) t tr (y' : Int) w u false = some true := by
            unfold s_10_j2
            rw [cond_false]
            rcases hw2 with ⟨hw3, hw4⟩ | ⟨hw3, hw4, hw5, hw6⟩
            ·have e : decide (w.2 = 0) = false := by rw [hw3]; rfl
             rw [e, Bool.not_false, cond_true]
             exact prop (hw4 y' (by omega)) u rfl
            ·rw [decide_eq_true hw3, Bool.not_true, cond_false]
             by_cases h8 : (y' : Int) < w.1
             ·rw [decide_eq_true h8, cond_true]
              exact prop (hw6 y' h8) u rfl
             ·rw [decide_eq_false h8, cond_false]
              exact htold
           have hw7 : 0 ≤ w.1 ∧ w.1 ≤ 100 := by
            rcases hw2 with ⟨rfl, _⟩ | ⟨_, h8, h9, _⟩
            ·exact ⟨by simp, by simp⟩
            ·exact ⟨h8, h9⟩
           rw [decide_eq_false (show ¬ w.1 < 0 by omega), decide_eq_false (show ¬ 100 < w.1 by omega)]
           have hw8 : w.2 = 0 ∨ w.2 = 5 := by
            rcases hw2 with ⟨rfl, _⟩ | ⟨h8, _⟩
            ·exact .inr rfl
            ·exact .inl h8
           rcases hw8 with hw8 | hw8 <;> rcases hu2 u rfl with hu8 | hu8 <;> rw [hw8, hu8] <;> simp only [show decide ((5 : Int) = 0) = false from rfl, decide_true, Bool.not_true, Bool.not_false, cond_true, cond_false] <;> exact hj2
end
end Go.Proofs.YtohmhlkdgfcaeaaGreatDoor
namespace Go.Proofs.YtohmhlkdgfcaeaaGreatDoor
open Go Go.RowKit Go.ChangeShapes Go.WideShapes
set_option maxRecDepth 100000
theorem drumPut_lifted (os : Os) (started : os.Started) (H : Type) (enc : TypeId × Value → H) :
  ReturnsInHanded {} Tryz.checked os 10 .any (fun w args => (Rows.drumPutSpec.pre enc Tryz.prog Tryz.f10 [] false w args ∧ laidMetH Tryz.prog Rows.drumPutRow.laid w) ∧ sizedMet enc Tryz.prog Tryz.f10 (OpenSpec.ofChange Rows.drumPutSpec) false w args)
   (Rows.drumPutSpec.post enc Tryz.prog Tryz.f10 false true false false) :=
 law_row (s := Rows.drumPutSpec) (enc := enc) started #[.agg #[.slice none 0 0, .int .i64 0, .int .i64 0, .slice none 0 0, .slice none 0 0, .slice none 0 0], .int .i64 0, .int .i64 0, .agg #[.int .i64 0, .slice none 0 0], .int .i64 0] (by kernel_rfl) Tryz.func10 (by kernel_rfl) (by kernel_rfl) (by kernel_rfl) rfl
   (by
    rw [Tryz.params10]
    have h : ∀ t ∈ ([27, 3, 3, 54, 3] : List Nat), t ∈ [3, 9, 23, 27, 54, 92] := by decide
    exact fun t ht => parT t (h t ht)) rfl
   (by
    rw [Tryz.params10]
    intro ds h
    match ds, h with
    | [d0, d1, d2, d3, d4], _ => rfl)
   (by
    rw [Tryz.params10]
    intro W base args ds p hval hA
    obtain ⟨args⟩ := args
    obtain ⟨v0, vs0, d0, ds0, p0, q0, e0, rfl, rfl, h0, r0⟩ := trodAll_cons hA
    have e0 : args = _ := e0; subst e0
    obtain ⟨v1, vs1, d1, ds1, p1, q1, e1, rfl, rfl, h1, r1⟩ := trodAll_cons r0
    subst e1
    obtain ⟨v2, vs2, d2, ds2, p2, q2, e2, rfl, rfl, h2, r2⟩ := trodAll_cons r1
    subst e2
    obtain ⟨v3, vs3, d3, ds3, p3, q3, e3, rfl, rfl, h3, r3⟩ := trodAll_cons r2
    subst e3
    obtain ⟨v4, vs4, d4, ds4, p4, q4, e4, rfl, rfl, h4, r4⟩ := trodAll_cons r3
    subst e4
    obtain ⟨rfl, rfl, rfl⟩ := trodAll_nil r4
    obtain ⟨x0, z0⟩ := rd_drum (hval 0 27 v0 rfl rfl) h0
    obtain ⟨x1, z1⟩ := rd_int (hval 1 3 v1 rfl rfl)
    obtain ⟨x2, z2⟩ := rd_int (hval 2 3 v2 rfl rfl)
    obtain ⟨x3, z3⟩ := rd_truth (hval 3 54 v3 rfl rfl) h3
    obtain ⟨x4, z4⟩ := rd_int (hval 4 3 v4 rfl rfl)
    refine ⟨rfl, [.agg (cDrum x0), .i x1, .i x2, .agg (cTruth x3), .i x4], ⟨rfl, ?_⟩, c_10 1000 x0 x1 x2 x3 x4 (law_10 x0 x1 x2 x3 x4)⟩
    intro j c u hc hu
    match j, hc, hu with
    | 0, hc, hu => cases hc; cases hu; exact z0
    | 1, hc, hu => cases hc; cases hu; exact z1
    | 2, hc, hu => cases hc; cases hu; exact z2
    | 3, hc, hu => cases hc; cases hu; exact z3
    | 4, hc, hu => cases hc; cases hu; exact z4)
theorem drumPut_facts : factsA Tryz.prog Tryz.f10 Rows.drumPutSpec Rows.drumPutRow = true := by kernel_rfl
theorem drumPut_road0 : (Rows.drumPutRow.inPlace == Tryz.prog.inPlace 10) = true := by kernel_rfl
theorem drumPut_road1 : (Rows.drumPutRow.unfollowed == Tryz.prog.unfollowed 10) = true := by kernel_rfl
theorem drumPut_road2 : (Rows.drumPutRow.recurses == Tryz.prog.recurses 10) = true := by kernel_rfl
theorem drumPut_road3 : (Rows.drumPutRow.named == Tryz.prog.varsNamed 10) = true := by kernel_rfl
theorem drumPut_row : Rows.DrumPutSaid :=
 OpenClaim.holds_of_wide 10 Tryz.f10 rfl rfl rfl rfl rfl rfl rfl ⟨rfl, rfl, rfl, rfl, rfl⟩ rfl rfl rfl rfl rfl (by as_aux_lemma => kernel_rfl) Tryz.func10 (joined_of drumPut_facts drumPut_road0 drumPut_road1 drumPut_road2 drumPut_road3)
  (of_decide_eq_true (by as_aux_lemma => kernel_rfl)) (by unfold Func.isWrapper; rw [if_neg (of_decide_eq_false (by as_aux_lemma => kernel_rfl))]; exact ⟨rfl, rfl⟩)
  (fun os started H enc _ => drumPut_lifted os started H enc)
theorem drumPut_card : Rows.DrumPutCardSaid :=
 Claim7.holds_tied_plain_at .later [] [.data, .data, .data, .data, .pinned] true (true, "263524fd91af563947b647e8709e73ef988cdef21cccd4074f632dc410392126") true drumPut_row (fun _ h => by cases h) (by as_aux_lemma => kernel_rfl) (fun _ h => by cases h) drumPut_row_tie rfl ⟨rfl, rfl⟩ mainK rfl
  (fun f fn hf hfn => by
   obtain rfl : f = 10 := Option.some.inj ((show Tryz.prog.funcNamed "nacre/nacrelaw03.DrumPut" = some 10 by as_aux_lemma => kernel_rfl).symm.trans hf) |>.symm
   obtain rfl : fn = Tryz.f10 := (Option.some.inj (Tryz.func10.symm.trans hfn)).symm
   exact ⟨looksK, fun j t ht => by
    rw [Tryz.params10] at ht
    have hm : t ∈ [27, 3, 3, 54, 3] := by simpa using Array.mem_of_getElem? ht
    have h : ∀ t ∈ ([27, 3, 3, 54, 3] : List Nat), t ∈ [3, 9, 23, 27, 54, 92] := by decide
    exact standK t (h t hm)⟩)
  (by as_aux_lemma => kernel_rfl)
#print axioms drumPut_card
end Go.Proofs.YtohmhlkdgfcaeaaGreatDoor
namespace Go.Proofs.YtohmhlkdgfcaeaaGreatDoor
open Go Go.RowKit
section
variable {α : Type} (lt : α → α → Bool)
def least : α → List α → α
 | x, [] => x
 | x, y :: r => least (bif lt y x then y else x) r
end
end Go.Proofs.YtohmhlkdgfcaeaaGreatDoor
namespace Go.Proofs.YtohmhlkdgfcaeaaGreatDoor
open Go Go.RowKit
def rn : Int → List Int → Int
 | c, [] => c
 | c, x :: r => rn (max c (x + 1)) r
def rgB : Int → List Int → Bool
 | _, [] => true
 | c, x :: r => decide (x ≤ c) && rgB (max c (x + 1)) r
theorem rgB_app : ∀ (l : List Int) (c x : Int), rgB c (l ++ [x]) = (rgB c l && decide (x ≤ rn c l)) := by
 intro l
 induction l with
 | nil =>
  intro c x
  show (decide (x ≤ c) && true) = (true && decide (x ≤ c))
  rw [Bool.and_true, Bool.true_and]
 | cons y r ih => intro c x; rw [List.cons_append, rgB, ih, rgB, rn, Bool.and_assoc]
end Go.Proofs.YtohmhlkdgfcaeaaGreatDoor
namespace Go.Proofs.YtohmhlkdgfcaeaaGreatDoor
open Go Go.RowKit
structure Way (l : List Int) : Prop where
 rg : rgB 0 l = true
 nn : ∀ x ∈ l, 0 ≤ x
theorem Way.nil : Way [] := ⟨rfl, by simp⟩
theorem Way.step {l : List Int} (h : Way l) {x : Nat} (hx : (x : Int) ≤ rn 0 l) : Way (l ++ [(x : Int)]) :=
 ⟨by rw [rgB_app, h.rg, decide_eq_true hx]; rfl, fun y hy => by
  rcases List.mem_append.1 hy with hy | hy
  ·exact h.nn y hy
  ·obtain rfl := List.mem_singleton.1 hy; omega⟩
end Go.Proofs.YtohmhlkdgfcaeaaGreatDoor
