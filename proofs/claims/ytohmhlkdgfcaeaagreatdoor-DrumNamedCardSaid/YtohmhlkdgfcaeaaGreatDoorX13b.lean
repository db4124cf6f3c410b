/- DrumNamed: without the batches that are named all others have a window; and no fewer batches that somebody proposes do, nor as many that come before. For every input that can be read as data, the tables of Go's library being as their text lays them: the call returns true, and each argument reads behind it as before. -/
import Derived.KernelRfl
import Derived.Test.YtohmhlkdgfcaeaaGreatDoorTie
import Derived.Test.YtohmhlkdgfcaeaaGreatDoorCards
import Derived.Test.YtohmhlkdgfcaeaaGreatDoorX13a
set_option linter.unusedVariables false
set_option linter.unusedSimpArgs false
namespace Go.Proofs.YtohmhlkdgfcaeaaGreatDoor
open Go Go.RowKit
theorem lists_len : ((List.range 6).all fun m => (List.range (m + 1)).all fun k => decide ((listsOf m k).length ≤ 50) && (listsOf m k).all (fun l => decide (l.length ≤ 50))) = true := by kernel_rfl
theorem lists_full : ((List.range 6).all fun m => decide (listsOf m m = [(List.range m).map (fun (i : Nat) => (i : Int))])) = true := by kernel_rfl
theorem lists_len' {m k : Nat} (hm : m < 6) (hk : k ≤ m) : (listsOf m k).length ≤ 50 ∧ ∀ l ∈ listsOf m k, l.length ≤ 50 := by
 have h := List.all_eq_true.1 (List.all_eq_true.1 lists_len m (List.mem_range.2 hm)) k (List.mem_range.2 (by omega))
 rw [Bool.and_eq_true, decide_eq_true_eq, List.all_eq_true] at h
 exact ⟨h.1, fun l hl => of_decide_eq_true (h.2 l hl)⟩
theorem restL_full : ∀ (w : List Span) (m i : Nat), i + w.length ≤ m → restL ((List.range m).map (fun (i : Nat) => (i : Int))) i w = [] := by
 intro w
 induction w with
 | nil => intro m i _; rfl
 | cons s r ih =>
  intro m i h
  simp only [List.length_cons] at h
  have e : ((List.range m).map (fun (i : Nat) => (i : Int))).any (fun y => decide (y = (i : Int))) = true := by
   rw [List.any_eq_true]
   exact ⟨(i : Int), List.mem_map_of_mem (List.mem_range.2 (by omega)), by simp⟩
  rw [restL, e, cond_true, ih m (i + 1) (by omega)]
section
variable {n : Nat}
theorem p_63_l4 (hn : 100 ≤ n) (K1 : Int → Option (List Int)) (w : List Span) (hw : w.length ≤ 50) (c : Int) (ls : List (List Int)) (h1 : ls.length ≤ 50) (h2 : ∀ l ∈ ls, l.length ≤ 50) :
  s_63_l4 n K1 w c ls n 0 = match ls.filter (namesB w) with
   | y :: _ => some y
   | [] => K1 (wr (c + 1)) := by
 have hh := loop_list ls (fun k i (_ : Unit) => s_63_l4 n K1 w c ls k i) (fun _ l s K => (s_139 n w l).bind fun b => bif b then some l else K s) (fun _ => K1 (wr (c + 1))) (fun k i s => by
  simp only
  rw [s_63_l4]
  by_cases hi : i < ls.length
  ·rw [ix_at (List.getElem?_eq_getElem hi)]
   simp only [Option.bind_some]
  ·have e1 : decide ((i : Int) < ((ls.length : Nat) : Int)) = false := decide_eq_false (by omega)
   rw [e1, cond_false, cond_false]) (by omega) n 0 () (by omega) (by omega)
 rw [show ((0 : Nat) : Int) = 0 from rfl, List.drop_zero] at hh
 refine hh.trans ?_
 have key : ∀ (r : List (List Int)) (i : Nat), (∀ l ∈ r, l.length ≤ 50) → fc (σ := Unit) (fun _ l s K => (s_139 n w l).bind fun b => bif b then some l else K s) (fun _ => K1 (wr (c + 1))) i r () = match r.filter (namesB w) with
   | y :: _ => some y
   | [] => K1 (wr (c + 1)) := by
  intro r
  induction r with
  | nil => intro i _; rfl
  | cons l r ih =>
   intro i hr
   rw [fc, p_139 hn w l (hr l List.mem_cons_self) hw, Option.bind_some, List.filter_cons]
   cases namesB w l
   ·rw [cond_false]; exact ih (i + 1) (fun z hz => hr z (List.mem_cons_of_mem _ hz))
   ·rfl
 exact key ls 0 h2
def firstN (w : List Span) : List Int := ((allLists w.length).filter (namesB w)).headD []
theorem p_63w (w : List Span) (hw : w.length < 6) : s_63_l1 1000 w 1000 0 = some (firstN w) ∧ (allLists w.length).filter (namesB w) ≠ [] := by
 have hn : 100 ≤ 1000 := by omega
 have hfull : listsOf w.length w.length = [(List.range w.length).map (fun (i : Nat) => (i : Int))] := of_decide_eq_true (List.all_eq_true.1 lists_full w.length (List.mem_range.2 hw))
 have hnm : namesB w ((List.range w.length).map (fun (i : Nat) => (i : Int))) = true := by
  unfold namesB
  rw [restL_full w w.length 0 (by omega)]
  rfl
 have key : ∀ (r k f : Nat), k + r = w.length → r < f → s_63_l1 1000 w f (k : Int) = some ((((List.range' k (r + 1)).flatMap (listsOf w.length)).filter (namesB w)).headD []) ∧ ((List.range' k (r + 1)).flatMap (listsOf w.length)).filter (namesB w) ≠ [] := by
  intro r
  induction r with
  | zero =>
   intro k f hk hf
   obtain ⟨f, rfl⟩ : ∃ f', f = f' + 1 := ⟨f - 1, by omega⟩
   have hkw : k = w.length := by omega
   subst hkw
   have e : ((List.range' w.length (0 + 1)).flatMap (listsOf w.length)).filter (namesB w) = [(List.range w.length).map (fun (i : Nat) => (i : Int))] := by
    simp only [List.range'_succ, List.range'_zero, List.flatMap_cons, List.flatMap_nil, List.append_nil, hfull]
    rw [List.filter_cons, hnm]
    rfl
   rw [e]
   refine ⟨?_, by simp⟩
   rw [s_63_l1, decide_eq_false (by omega), cond_false, p_135 hw (Nat.le_refl _), Option.bind_some, hfull]
   rfl
  | succ r ih =>
   intro k f hk hf
   obtain ⟨f, rfl⟩ : ∃ f', f = f' + 1 := ⟨f - 1, by omega⟩
   obtain ⟨i1, i2⟩ := ih (k + 1) f (by omega) (by omega)
   obtain ⟨b1, b2⟩ := lists_len' hw (show k ≤ w.length by omega)
   rw [s_63_l1, decide_eq_true (by omega), cond_true, p_135 hw (by omega), Option.bind_some, p_63_l4 hn _ w (by omega) _ _ b1 b2, List.range'_succ, List.flatMap_cons, List.filter_append, wr_of (by omega)]
   cases hfl : (listsOf w.length k).filter (namesB w) with
   | nil =>
    push_cast at i1
    exact ⟨i1, i2⟩
   | cons y s => exact ⟨rfl, by simp⟩
 have := key w.length 0 1000 (by omega) (by omega)
 rw [← List.range_eq_range'] at this
 exact this
end
end Go.Proofs.YtohmhlkdgfcaeaaGreatDoor
namespace Go.Proofs.YtohmhlkdgfcaeaaGreatDoor
open Go Go.RowKit
def memb (s : Nat) : List Int := (s_131 1000 (s : Int)).getD []
def restS (m s : Nat) : Int := bits .andNot .i64 (2 ^ m - 1) (s : Int)
theorem sets_ok : ((List.range 6).all fun m => (List.range (2 ^ m)).all fun s => (s_131 1000 (s : Int)).isSome && (decide ((memb s).length ≤ 50) && (decide (0 ≤ restS m s) && (decide (restS m s ≤ 63) && (List.range m).all fun i => hasB (restS m s) i == !(memb s).any (fun y => decide (y = (i : Int))))))) = true := by kernel_rfl
theorem sets_ok' {m s : Nat} (hm : m < 6) (hs : s < 2 ^ m) : s_131 1000 (s : Int) = some (memb s) ∧ (memb s).length ≤ 50 ∧ (0 ≤ restS m s ∧ restS m s ≤ 63) ∧ ∀ i, i < m → hasB (restS m s) i = !(memb s).any (fun y => decide (y = (i : Int))) := by
 have h := List.all_eq_true.1 (List.all_eq_true.1 sets_ok m (List.mem_range.2 hm)) s (List.mem_range.2 hs)
 simp only [Bool.and_eq_true, decide_eq_true_eq, List.all_eq_true, beq_iff_eq, List.mem_range] at h
 obtain ⟨h1, h2, h3, h4, h5⟩ := h
 obtain ⟨l, hl⟩ := Option.isSome_iff_exists.1 h1
 refine ⟨?_, h2, ⟨h3, h4⟩, h5⟩
 unfold memb
 rw [hl]; rfl
theorem pick_rest {c : Int} {l : List Int} : ∀ (w : List Span) (i : Nat), (∀ j, i ≤ j → j < i + w.length → hasB c j = !l.any (fun y => decide (y = (j : Int)))) → pickF c i w = restL l i w := by
 intro w
 induction w with
 | nil => intro i _; rfl
 | cons s r ih =>
  intro i h
  have h1 := h i (by omega) (by simp)
  have h2 := ih (i + 1) (fun j hj hj2 => h j (by omega) (by simp only [List.length_cons]; omega))
  rw [pickF, restL, h1, h2]
  cases l.any (fun y => decide (y = (i : Int))) <;> rfl
theorem set_names {w : List Span} {s : Nat} (hw : w.length < 6) (hs : s < 2 ^ w.length) : decide (com w (restS w.length s)).ne = namesB w (memb s) := by
 obtain ⟨_, _, _, h⟩ := sets_ok' hw hs
 unfold com namesB comm
 rw [pick_rest w 0 (fun j _ hj => h j (by omega))]
theorem com_zero (w : List Span) : (com w 0).ne := by
 have : ∀ (w : List Span) (i : Nat), pickF 0 i w = [] := by
  intro w
  induction w with
  | nil => intro i; rfl
  | cons s r ih =>
   intro i
   have e : hasB 0 i = false := by unfold hasB; simp
   rw [pickF, e, if_neg (by simp), ih]
 unfold com
 rw [this]
 simp [capL, Span.ne]
theorem p_61_l1 (w : List Span) (hw : w.length < 6) : s_61_l1 1000 ⟨w⟩ (2 ^ w.length - 1) 1000 0 [] = some (firstN w, 0) := by
 have hn : 100 ≤ 1000 := by omega
 have hpv := pow_bound (i := w.length) (by omega)
 have hpw : (2 : Int) ^ w.length = ((2 ^ w.length : Nat) : Int) := by push_cast; rfl
 have hp64 : 2 ^ w.length ≤ 64 := by
  have := Nat.pow_le_pow_right (show 0 < 2 by omega) (show w.length ≤ 6 by omega)
  simpa using this
 have hne := (p_63w w hw).2
 have hfin : (s_129 1000 ((allSets w.length).filter (namesB w)) (fun z0 z1 => s_137 1000 z0 z1)).bind (fun v128 => some (v128.1, (0 : Int))) = some (firstN w, 0) := by
  cases h2 : (allLists w.length).filter (namesB w) with
  | nil => exact absurd h2 hne
  | cons y r =>
   cases h1 : (allSets w.length).filter (namesB w) with
   | nil =>
    have hy : y ∈ (allLists w.length).filter (namesB w) := by rw [h2]; exact List.mem_cons_self
    rw [List.mem_filter, ← lists_mem hw, ← List.mem_filter, h1] at hy
    cases hy
   | cons x l =>
    have hlen : l.length ≤ 100 := by
     have e1 := List.length_filter_le (namesB w) (allSets w.length)
     rw [h1] at e1
     simp only [List.length_cons, allSets, List.length_map, List.length_range] at e1
     omega
    have hall : ∀ z, (z = x ∨ z ∈ l) → z.length ≤ 50 := by
     intro z hz
     have hz : z ∈ (allSets w.length).filter (namesB w) := by rw [h1]; simpa using hz
     have hz := (List.mem_filter.1 hz).1
     unfold allSets at hz
     obtain ⟨s, hs, rfl⟩ := List.mem_map.1 hz
     exact (sets_ok' hw (List.mem_range.1 hs)).2.1
    rw [p_129 hn ltN _ x l (by omega) (by omega) (fun y z hy hz => p_137 hn y z (hall y hy)), Option.bind_some, best_filter hw (namesB w) h1 h2]
    unfold firstN
    rw [h2]
    rfl
 have key : ∀ (r k f : Nat) (acc : List (List Int)), k + r = 2 ^ w.length → r < f → acc.length ≤ k → s_61_l1 1000 ⟨w⟩ (2 ^ w.length - 1) f (k : Int) acc = (s_129 1000 (acc ++ ((List.range' k r).map memb).filter (namesB w)) (fun z0 z1 => s_137 1000 z0 z1)).bind (fun v128 => some (v128.1, (0 : Int))) := by
  intro r
  induction r with
  | zero =>
   intro k f acc hk hf ha
   obtain ⟨f, rfl⟩ : ∃ f', f = f' + 1 := ⟨f - 1, by omega⟩
   rw [s_61_l1, wr_of (by omega), decide_eq_false (by rw [hpw]; omega), cond_false]
   simp
  | succ r ih =>
   intro k f acc hk hf ha
   obtain ⟨f, rfl⟩ : ∃ f', f = f' + 1 := ⟨f - 1, by omega⟩
   have hks : k < 2 ^ w.length := by omega
   obtain ⟨b1, b2, ⟨b3, b4⟩, b5⟩ := sets_ok' hw hks
   have hj : ∀ c : Bool, c = namesB w (memb k) → s_61_j5 1000 (s_61_l1 1000 ⟨w⟩ (2 ^ w.length - 1) f) (k : Int) acc c = (s_129 1000 (acc ++ ((List.range' k (r + 1)).map memb).filter (namesB w)) (fun z0 z1 => s_137 1000 z0 z1)).bind (fun v128 => some (v128.1, (0 : Int))) := by
    intro c hc
    unfold s_61_j5
    rw [wr_of (by omega), List.range'_succ, List.map_cons, List.filter_cons, ← hc]
    have i1 := ih (k + 1) f acc (by omega) (by omega) (by omega)
    have i2 := ih (k + 1) f (acc ++ [memb k]) (by omega) (by omega) (by simp; omega)
    push_cast at i1 i2
    cases c with
    | false => rw [cond_false, i1]; rfl
    | true =>
     rw [cond_true, b1, Option.bind_some, app_of (by simp; omega), Option.bind_some, i2]
     simp
   rw [s_61_l1, wr_of (by omega), decide_eq_true (by rw [hpw]; omega), cond_true, p_100 1000 w (by omega), Option.bind_some]
   show (bif decide (restS w.length k = 0) then _ else (s_99 1000 ⟨w⟩ (restS w.length k)).bind _) = _
   have hsn := set_names hw hks
   by_cases h0 : restS w.length k = 0
   ·rw [decide_eq_true h0, cond_true]
    refine hj _ ?_
    rw [← hsn, h0]
    exact (decide_eq_true (com_zero w)).symm
   ·rw [decide_eq_false h0, cond_false, p_99 hn w (by omega) b3 b4, Option.bind_some]
    exact hj _ hsn
 have := key (2 ^ w.length) 0 1000 [] (by omega) (by omega) (by simp)
 rw [← List.range_eq_range', List.nil_append] at this
 exact this.trans hfin
end Go.Proofs.YtohmhlkdgfcaeaaGreatDoor
namespace Go.Proofs.YtohmhlkdgfcaeaaGreatDoor
open Go Go.RowKit
section
variable {d : Drum}
theorem p_61 (hs : Short d) : s_61 1000 d = some (bif decide (err d true = 0) then (firstN (wsP d), 0) else ([], err d true)) := by
 have hn : 100 ≤ 1000 := by omega
 unfold s_61
 rw [p_84 hn hs, Option.bind_some]
 by_cases he : err d true = 0
 ·obtain ⟨h1, _, hne⟩ := err_zero he
  have hd := okD_iff.1 h1
  have hbt := hd.btl
  have hl : (wsP d).length < 6 := by rw [wsP_len]; omega
  simp only [he, decide_true, Bool.not_true, cond_false, cond_true]
  rw [p_98 hd hn hne, Option.bind_some, p_100 1000 _ (by omega), Option.bind_some, p_61_l1 _ hl]
 ·simp only [decide_eq_false he, Bool.not_false, cond_true, cond_false]
end
end Go.Proofs.YtohmhlkdgfcaeaaGreatDoor
namespace Go.Proofs.YtohmhlkdgfcaeaaGreatDoor
open Go Go.RowKit
def risB (m : Int) : Int → List Int → Bool
 | _, [] => true
 | p, x :: r => decide (p < x) && (decide (x < m) && risB m x r)
theorem risB_cons {m p x : Int} {r : List Int} : risB m p (x :: r) = true ↔ p < x ∧ x < m ∧ risB m x r = true := by
 rw [risB, Bool.and_eq_true, Bool.and_eq_true, decide_eq_true_eq, decide_eq_true_eq]
theorem risB_len {m : Int} : ∀ (l : List Int) (p : Int), risB m p l = true → -1 ≤ p → p < m → (l.length : Int) + p + 1 ≤ m := by
 intro l
 induction l with
 | nil => intro p _ _ h; simp; omega
 | cons x r ih =>
  intro p h hp hm
  obtain ⟨h1, h2, h3⟩ := risB_cons.1 h
  have := ih x h3 (by omega) h2
  simp only [List.length_cons]
  push_cast
  omega
def enumR (m : Nat) : Nat → Int → List (List Int)
 | 0, _ => [[]]
 | k + 1, p => [] :: (List.range m).flatMap fun (x : Nat) => bif decide (p < (x : Int)) then (enumR m k (x : Int)).map ((x : Int) :: ·) else []
theorem enumR_mem {m : Nat} : ∀ (l : List Int) (p : Int) (k : Nat), risB m p l = true → -1 ≤ p → l.length ≤ k → l ∈ enumR m k p := by
 intro l
 induction l with
 | nil =>
  intro p k _ _ _
  cases k with
  | zero => exact List.mem_cons_self
  | succ k => exact List.mem_cons_self
 | cons x r ih =>
  intro p k h hp hk
  obtain ⟨h1, h2, h3⟩ := risB_cons.1 h
  obtain ⟨n, rfl⟩ := Int.eq_ofNat_of_zero_le (show 0 ≤ x by omega)
  obtain ⟨k, rfl⟩ : ∃ k', k = k' + 1 := ⟨k - 1, by simp at hk; omega⟩
  rw [enumR]
  refine List.mem_cons_of_mem _ (List.mem_flatMap.2 ⟨n, List.mem_range.2 (by omega), ?_⟩)
  rw [decide_eq_true h1, cond_true]
  exact List.mem_map_of_mem (ih _ k h3 (by omega) (by simp at hk; omega))
theorem lists_rising : ((List.range 6).all fun m => (allLists m).all fun l => risB m (-1) l && (decide (l.length < m) || decide (l = (List.range m).map (fun (i : Nat) => (i : Int))))) = true := by kernel_rfl
theorem lists_all : ((List.range 6).all fun m => (enumR m 6 (-1)).all fun l => (allLists m).contains l) = true := by kernel_rfl
theorem ris_mem {m : Nat} (hm : m < 6) {l : List Int} : risB m (-1) l = true ↔ l ∈ allLists m := by
 constructor
 ·intro h
  by_cases h0 : m = 0
  ·subst h0
   cases l with
   | nil =>
    have := enumR_mem (m := 0) [] (-1) 6 rfl (by omega) (by simp)
    simpa using List.all_eq_true.1 (List.all_eq_true.1 lists_all 0 (List.mem_range.2 hm)) _ this
   | cons x r =>
    obtain ⟨h1, h2, _⟩ := risB_cons.1 h
    omega
  ·have hl := risB_len l (-1) h (by omega) (by omega)
   have := enumR_mem l (-1) 6 h (by omega) (by omega)
   simpa using List.all_eq_true.1 (List.all_eq_true.1 lists_all m (List.mem_range.2 hm)) _ this
 ·intro h
  have := List.all_eq_true.1 (List.all_eq_true.1 lists_rising m (List.mem_range.2 hm)) l h
  rw [Bool.and_eq_true] at this
  exact this.1
theorem ris_full {m : Nat} (hm : m < 6) {l : List Int} (h : l ∈ allLists m) : l.length < m ∨ l = (List.range m).map (fun (i : Nat) => (i : Int)) := by
 have := List.all_eq_true.1 (List.all_eq_true.1 lists_rising m (List.mem_range.2 hm)) l h
 rw [Bool.and_eq_true, Bool.or_eq_true, decide_eq_true_eq, decide_eq_true_eq] at this
 exact this.2
section
variable {n : Nat} {d : Drum}
theorem p_64 (hn : 100 ≤ n) (d : Drum) (l : List Int) (hl : l.length ≤ 50) : s_64 n d l = some (risB d.batches.length (-1) l) := by
 unfold s_64
 have key : ∀ (r : List Int) (i k : Nat) (p : Int), l.drop i = r → i ≤ l.length → l.length < k + i → -1 ≤ p → (i = 0 → p = -1) → (∀ j, i = j + 1 → 0 ≤ p ∧ l[j]? = some p) → s_64_l1 d l k (i : Int) = some (risB d.batches.length p r) := by
  intro r
  induction r with
  | nil =>
   intro i k p hi h2 hk hp h0 h1
   have hil : l.length ≤ i := List.drop_eq_nil_iff.1 hi
   obtain ⟨k, rfl⟩ : ∃ k', k = k' + 1 := ⟨k - 1, by omega⟩
   rw [s_64_l1, decide_eq_false (by omega), cond_false]
   rfl
  | cons x r ih =>
   intro i k p hi h2 hk hp h0 h1
   have hil : i < l.length := by
    rcases Nat.lt_or_ge i l.length with h | h
    ·exact h
    ·rw [List.drop_eq_nil_of_le h] at hi; cases hi
   obtain ⟨k, rfl⟩ : ∃ k', k = k' + 1 := ⟨k - 1, by omega⟩
   rw [List.drop_eq_getElem_cons hil] at hi
   obtain ⟨hx, hr⟩ := List.cons.inj hi
   have hg : l[i]? = some x := by rw [List.getElem?_eq_getElem hil, hx]
   rw [s_64_l1, decide_eq_true (by omega), cond_true, ix_at hg, Option.bind_some, Option.bind_some, risB]
   by_cases c1 : x < 0
   ·rw [decide_eq_true c1, cond_true, decide_eq_false (show ¬ p < x by omega)]
    rfl
   ·rw [decide_eq_false c1, cond_false]
    by_cases c2 : ((d.batches.length : Nat) : Int) ≤ x
    ·rw [decide_eq_true c2, cond_true, decide_eq_false (show ¬ x < ((d.batches.length : Nat) : Int) by omega), Bool.false_and, Bool.and_false]
     rfl
    ·rw [decide_eq_false c2, cond_false, decide_eq_true (show x < ((d.batches.length : Nat) : Int) by omega), Bool.true_and]
     have step : s_64_j13 (s_64_l1 d l k) (i : Int) false = some (risB d.batches.length x r) := by
      unfold s_64_j13
      rw [cond_false, wr_of (by omega)]
      have := ih (i + 1) k x hr (by omega) (by omega) (by omega) (by omega) (fun j hj => by
       obtain rfl : j = i := by omega
       exact ⟨by omega, hg⟩)
      push_cast at this
      exact this
     cases i with
     | zero =>
      have := h0 rfl
      subst this
      rw [decide_eq_false (show ¬ (0 : Int) < ((0 : Nat) : Int) by omega), cond_false, decide_eq_true (show (-1 : Int) < x by omega), Bool.true_and]
      exact step
     | succ j =>
      obtain ⟨hp0, hp1⟩ := h1 j rfl
      rw [decide_eq_true (show (0 : Int) < ((j + 1 : Nat) : Int) by omega), cond_true, Option.bind_some, wr_of (by omega), show (((j + 1 : Nat) : Int) - 1) = ((j : Nat) : Int) by omega, ix_at hp1, Option.bind_some]
      by_cases c3 : x ≤ p
      ·rw [decide_eq_true c3, decide_eq_false (show ¬ p < x by omega)]
       rfl
      ·rw [decide_eq_false c3, decide_eq_true (show p < x by omega), Bool.true_and]
       exact step
 exact key l 0 n (-1) (by simp) (by omega) (by omega) (by omega) (fun _ => rfl) (fun j hj => by omega)
def someD (d : Drum) (l : List Int) : Drum := ⟨d.acids, d.known, d.hours, d.adds, d.strips, restL l 0 d.batches⟩
theorem p_65 (hn : 100 ≤ n) (d : Drum) (l : List Int) (hl : l.length ≤ 50) (hb : d.batches.length ≤ 50) : s_65 n d l = some (someD d l) := by
 unfold s_65
 have key : ∀ (r : List Batch) (i k : Nat) (acc : List Batch), d.batches.drop i = r → i ≤ d.batches.length → d.batches.length < k + i → acc.length ≤ i → s_65_l1 n d l k (i : Int) acc = some ⟨d.acids, d.known, d.hours, d.adds, d.strips, acc ++ restL l i r⟩ := by
  intro r
  induction r with
  | nil =>
   intro i k acc hi h2 hk ha
   have hil : d.batches.length ≤ i := List.drop_eq_nil_iff.1 hi
   obtain ⟨k, rfl⟩ : ∃ k', k = k' + 1 := ⟨k - 1, by omega⟩
   rw [s_65_l1, decide_eq_false (by omega), cond_false]
   simp [restL]
  | cons y r ih =>
   intro i k acc hi h2 hk ha
   have hil : i < d.batches.length := by
    rcases Nat.lt_or_ge i d.batches.length with h | h
    ·exact h
    ·rw [List.drop_eq_nil_of_le h] at hi; cases hi
   obtain ⟨k, rfl⟩ : ∃ k', k = k' + 1 := ⟨k - 1, by omega⟩
   rw [List.drop_eq_getElem_cons hil] at hi
   obtain ⟨hx, hr⟩ := List.cons.inj hi
   rw [s_65_l1, decide_eq_true (by omega), cond_true, p_71 n hn l hl _, Option.bind_some, ix_at (List.getElem?_eq_getElem hil), Option.bind_some, app_of (by simp; omega), Option.bind_some, wr_of (by omega), restL]
   have a1 := ih (i + 1) k acc hr (by omega) (by omega) (by omega)
   have a2 := ih (i + 1) k (acc ++ [d.batches[i]]) hr (by omega) (by omega) (by simp; omega)
   push_cast at a1 a2
   rw [a1, a2, hx]
   cases l.any (fun y => decide (y = (i : Int)))
   ·simp
   ·rfl
 exact key d.batches 0 n [] (by simp) (by omega) (by omega) (by simp)
theorem p_66 (hn : 100 ≤ n) (l m : List Int) (hl : l.length ≤ 50) : s_66 n l m = some (decide (lexC l m = -1)) := by
 unfold s_66
 have key : ∀ (r : List Int) (i k : Nat), l.drop i = r → i ≤ l.length → i ≤ m.length → l.length < k + i → s_66_l1 l m k (i : Int) = some (decide (lexC r (m.drop i) = -1)) := by
  intro r
  induction r with
  | nil =>
   intro i k hi h2 h3 hk
   have hil : l.length ≤ i := List.drop_eq_nil_iff.1 hi
   obtain ⟨k, rfl⟩ : ∃ k', k = k' + 1 := ⟨k - 1, by omega⟩
   rw [s_66_l1, decide_eq_false (by omega), cond_false]
   unfold s_66_j4
   rw [cond_false]
   by_cases h : i < m.length
   ·rw [decide_eq_true (by omega), List.drop_eq_getElem_cons h]; rfl
   ·rw [decide_eq_false (by omega), List.drop_eq_nil_of_le (by omega)]; rfl
  | cons y r ih =>
   intro i k hi h2 h3 hk
   have hil : i < l.length := by
    rcases Nat.lt_or_ge i l.length with h | h
    ·exact h
    ·rw [List.drop_eq_nil_of_le h] at hi; cases hi
   obtain ⟨k, rfl⟩ : ∃ k', k = k' + 1 := ⟨k - 1, by omega⟩
   rw [List.drop_eq_getElem_cons hil] at hi
   obtain ⟨hx, hr⟩ := List.cons.inj hi
   rw [s_66_l1, decide_eq_true (by omega), cond_true]
   unfold s_66_j4
   by_cases h : i < m.length
   ·rw [decide_eq_true (by omega), cond_true, ix_at (List.getElem?_eq_getElem hil), ix_at (List.getElem?_eq_getElem h), Option.bind_some, Option.bind_some, Option.bind_some, Option.bind_some, hx, List.drop_eq_getElem_cons h, lexC]
    by_cases e : y = m[i]
    ·rw [decide_eq_true e, Bool.not_true, cond_false, decide_eq_false (show ¬ y < m[i] by omega), decide_eq_false (show ¬ m[i] < y by omega), cond_false, cond_false, wr_of (by omega)]
     have := ih (i + 1) k hr (by omega) (by omega) (by omega)
     push_cast at this
     exact this
    ·rw [decide_eq_false e, Bool.not_false, cond_true]
     by_cases h1 : y < m[i]
     ·rw [decide_eq_true h1]; rfl
     ·rw [decide_eq_false h1, decide_eq_true (show m[i] < y by omega)]; rfl
   ·rw [decide_eq_false (by omega), cond_false, decide_eq_false (by omega), List.drop_eq_nil_of_le (by omega)]
    rfl
 exact key l 0 n (by simp) (by omega) (by omega) (by omega)
theorem restL_sub {α : Type} (l : List Int) : ∀ (w : List α) (i : Nat), ∀ x ∈ restL l i w, x ∈ w := by
 intro w
 induction w with
 | nil => intro i x h; cases h
 | cons s r ih =>
  intro i x h
  rw [restL] at h
  cases hc : l.any (fun y => decide (y = (i : Int))) with
  | true => rw [hc, cond_true] at h; exact List.mem_cons_of_mem _ (ih _ x h)
  | false =>
   rw [hc, cond_false] at h
   rcases List.mem_cons.1 h with rfl | h
   ·exact List.mem_cons_self
   ·exact List.mem_cons_of_mem _ (ih _ x h)
theorem someD_ok (hd : d.ok) {l : List Int} (h : restL l 0 d.batches ≠ []) : (someD d l).ok := by
 have h1 := restL_len l d.batches 0
 have h2 : 0 < (restL l 0 d.batches).length := List.length_pos_iff.2 h
 have hbt := hd.btl
 exact { hd with btl := by show 1 ≤ (restL l 0 d.batches).length ∧ (restL l 0 d.batches).length ≤ 5; omega, bt := fun b hb => hd.bt b (restL_sub l _ _ b hb) }
theorem someD_ws {l : List Int} : wsP (someD d l) = restL l 0 (wsP d) := (restL_map (winP d) l d.batches 0).symm
theorem some_win (hn : 100 ≤ n) (hs : Short d) (hd : d.ok) (he : err d true = 0) {l : List Int} (h : restL l 0 d.batches ≠ []) : s_46 n (someD d l) = some (bif namesB (wsP d) l then (comm (restL l 0 (wsP d)), 0) else (⟨0, 0⟩, 5)) := by
 have h1 := restL_len l d.batches 0
 have hs2 : Short (someD d l) := ⟨hs.a, hs.b, hs.c, by show (restL l 0 d.batches).length ≤ 7; have := hs.e; omega⟩
 have ho := someD_ok hd h
 have he2 : err (someD d l) true = 0 := by
  obtain ⟨_, _, hne⟩ := err_zero he
  unfold err
  rw [okD_iff.2 ho]
  have : idx (someD d l) = idx d := rfl
  rw [this]
  unfold err at he
  rw [okD_iff.2 hd] at he
  exact he
 rw [p_46 hn hs2, he2, someD_ws]
 rfl
theorem ne_zero_err (hok : okD d = true) (he : err d true ≠ 0) : err d true = 7 := by
 rcases err_of_ok hok with h | h
 ·exact absurd h he
 ·exact h
theorem law_13 (d : Drum) (g : List Int) : s_13 1000 d g = some true := by
 have hn : 100 ≤ 1000 := by omega
 unfold s_13
 rw [p_23, Option.bind_some]
 have out : s_13_j1 1000 d g true = some true := by unfold s_13_j1; rw [cond_true, p_24, Option.bind_some]
 cases hsh : shortB d with
 | false => simp only [Bool.not_false, cond_true]; exact out
 | true =>
  have hs := shortB_iff.1 hsh
  simp only [Bool.not_true, cond_false]
  by_cases h6 : (6 : Int) < ((g.length : Nat) : Int)
  ·rw [decide_eq_true h6, cond_true]; exact out
  ·rw [decide_eq_false h6, cond_false, p_39 hn hs, Option.bind_some]
   cases hok : okD d with
   | false => simp only [Bool.not_false, cond_true]; exact out
   | true =>
    have hd := okD_iff.1 hok
    have hbt := hd.btl
    simp only [Bool.not_true, cond_false]
    rw [p_64 hn d g (by omega), Option.bind_some]
    cases hr : risB d.batches.length (-1) g with
    | false => exact out
    | true =>
     have hw6 : (wsP d).length < 6 := by rw [wsP_len]; omega
     rw [Bool.not_true]
     unfold s_13_j1
     rw [cond_false, p_61 hs, Option.bind_some]
     by_cases he : err d true = 0
     ·rw [decide_eq_true he, cond_true]
      simp only [decide_true, Bool.not_true, cond_false]
      have hg : g ∈ allLists (wsP d).length := (ris_mem hw6).1 (by rw [wsP_len]; exact hr)
      obtain ⟨y, r, hf⟩ : ∃ y r, (allLists (wsP d).length).filter (namesB (wsP d)) = y :: r := by
       cases h : (allLists (wsP d).length).filter (namesB (wsP d)) with
       | nil => exact absurd h (p_63w (wsP d) hw6).2
       | cons y r => exact ⟨y, r, rfl⟩
      have hfn : firstN (wsP d) = y := by unfold firstN; rw [hf]; rfl
      rw [hfn]
      have hy : y ∈ (allLists (wsP d).length).filter (namesB (wsP d)) := by rw [hf]; exact List.mem_cons_self
      obtain ⟨hy1, hy2⟩ := List.mem_filter.1 hy
      have hyr : risB d.batches.length (-1) y = true := by have := (ris_mem hw6).2 hy1; rw [wsP_len] at this; exact this
      have hyl := risB_len y (-1) hyr (by omega) (by omega)
      have hsort : ∀ z ∈ r, ltN y z = true := by
       have h := sorted_filter ltN (namesB (wsP d)) _ (List.all_eq_true.1 lists_sorted _ (List.mem_range.2 hw6))
       rw [hf, sortedB, Bool.and_eq_true, List.all_eq_true] at h
       exact h.1
      rw [decide_eq_false (show ¬ ((d.batches.length : Nat) : Int) < ((y.length : Nat) : Int) by omega), cond_false, p_64 hn d y (by omega), Option.bind_some, hyr]
      have next : s_13_j3 1000 d g (y, 0) = some true := by
       have more : ltN g y = true → s_13_j4 1000 d g false = some true := by
        intro hlt
        have hno : namesB (wsP d) g = false := by
         cases hc : namesB (wsP d) g with
         | false => rfl
         | true =>
          exfalso
          have hm : g ∈ (allLists (wsP d).length).filter (namesB (wsP d)) := List.mem_filter.2 ⟨hg, hc⟩
          rw [hf] at hm
          rcases List.mem_cons.1 hm with e | e
          ·rw [e, ltN_irr] at hlt; cases hlt
          ·have := ltN_trans _ _ _ hlt (hsort g e)
           rw [ltN_irr] at this; cases this
        have hrest : restL g 0 d.batches ≠ [] := by
         intro e
         unfold namesB at hno
         have e2 : restL g 0 (wsP d) = [] := by
          unfold wsP
          rw [restL_map, e]; rfl
         rw [e2] at hno
         cases hno
        have hlen : g.length < d.batches.length := by
         rcases ris_full hw6 hg with h | h
         ·rw [wsP_len] at h; exact h
         ·exfalso
          have e2 := restL_full (wsP d) (wsP d).length 0 (by omega)
          rw [← h] at e2
          unfold namesB at hno
          rw [e2] at hno
          cases hno
        unfold s_13_j4
        rw [cond_false, p_65 hn d g (by omega) (by omega), Option.bind_some, some_win hn hs hd he hrest, Option.bind_some, hno, cond_false, decide_eq_true (show ((g.length : Nat) : Int) < ((d.batches.length : Nat) : Int) by omega), cond_true]
        simp only [decide_true, cond_true, p_24, Option.bind_some]
       have kn : s_13_j4 1000 d g true = some true := by unfold s_13_j4; rw [cond_true, p_24, Option.bind_some]
       unfold s_13_j3
       simp only
       by_cases c1 : y.length < g.length
       ·rw [decide_eq_true (show ((y.length : Nat) : Int) < ((g.length : Nat) : Int) by omega), cond_true]; exact kn
       ·rw [decide_eq_false (show ¬ ((y.length : Nat) : Int) < ((g.length : Nat) : Int) by omega), cond_false]
        by_cases c2 : g.length = y.length
        ·rw [decide_eq_true (show ((g.length : Nat) : Int) = ((y.length : Nat) : Int) by omega), cond_true, p_66 hn g y (by omega), Option.bind_some]
         by_cases c3 : lexC g y = -1
         ·rw [decide_eq_true c3]
          refine more ?_
          unfold ltN
          rw [decide_eq_true c2, decide_eq_true c3]
          simp
         ·rw [decide_eq_false c3]; exact kn
        ·rw [decide_eq_false (show ¬ ((g.length : Nat) : Int) = ((y.length : Nat) : Int) by omega), cond_false]
         refine more ?_
         unfold ltN
         rw [decide_eq_true (show g.length < y.length by omega)]
         rfl
      rw [Bool.not_true]
      unfold s_13_j2
      rw [cond_false, p_65 hn d y (by omega) (by omega), Option.bind_some]
      by_cases hrest : restL y 0 d.batches = []
      ·rw [decide_eq_false (show ¬ (0 : Int) < (((someD d y).batches.length : Nat) : Int) by show ¬ (0 : Int) < (((restL y 0 d.batches).length : Nat) : Int); rw [hrest]; simp), cond_false]
       exact next
      ·have hpos : 0 < (restL y 0 d.batches).length := List.length_pos_iff.2 hrest
       rw [decide_eq_true (show (0 : Int) < (((someD d y).batches.length : Nat) : Int) by show (0 : Int) < (((restL y 0 d.batches).length : Nat) : Int); omega), cond_true, some_win hn hs hd he hrest, Option.bind_some, hy2, cond_true]
       simp only [decide_true, Bool.not_true, cond_false]
       exact next
     ·have h7 := ne_zero_err hok he
      rw [decide_eq_false he, cond_false, h7]
      simp only [show decide ((7 : Int) = 0) = false from rfl, Bool.not_false, cond_true, decide_true, p_24, Option.bind_some]
end
end Go.Proofs.YtohmhlkdgfcaeaaGreatDoor
namespace Go.Proofs.YtohmhlkdgfcaeaaGreatDoor
open Go Go.RowKit
def rn : Int → List Int → Int
 | c, [] => c
 | c, x :: r => rn (max c (x + 1)) r
def rgB : Int → List Int → Bool
 | _, [] => true
 | c, x :: r => decide (x ≤ c) && rgB (max c (x + 1)) r
theorem rgB_app : ∀ (l : List Int) (c x : Int), rgB c (l ++ [x]) = (rgB c l && decide (x ≤ rn c l)) := by
 intro l
 induction l with
 | nil =>
  intro c x
  show (decide (x ≤ c) && true) = (true && decide (x ≤ c))
  rw [Bool.and_true, Bool.true_and]
 | cons y r ih => intro c x; rw [List.cons_append, rgB, ih, rgB, rn, Bool.and_assoc]
end Go.Proofs.YtohmhlkdgfcaeaaGreatDoor
namespace Go.Proofs.YtohmhlkdgfcaeaaGreatDoor
open Go Go.RowKit
structure Way (l : List Int) : Prop where
 rg : rgB 0 l = true
 nn : ∀ x ∈ l, 0 ≤ x
theorem Way.nil : Way [] := ⟨rfl, by simp⟩
theorem Way.step {l : List Int} (h : Way l) {x : Nat} (hx : (x : Int) ≤ rn 0 l) : Way (l ++ [(x : Int)]) :=
 ⟨by rw [rgB_app, h.rg, decide_eq_true hx]; rfl, fun y hy => by
  rcases List.mem_append.1 hy with hy | hy
  ·exact h.nn y hy
  ·obtain rfl := List.mem_singleton.1 hy; omega⟩
end Go.Proofs.YtohmhlkdgfcaeaaGreatDoor
namespace Go.Proofs.YtohmhlkdgfcaeaaGreatDoor
open Go Go.RowKit Go.ChangeShapes Go.WideShapes
set_option maxRecDepth 100000
theorem drumNamed_lifted (os : Os) (started : os.Started) (H : Type) (enc : TypeId × Value → H) :
  ReturnsInHanded {} Tryz.checked os 13 .any (fun w args => (Rows.drumNamedSpec.pre enc Tryz.prog Tryz.f13 [] false w args ∧ laidMetH Tryz.prog Rows.drumNamedRow.laid w) ∧ sizedMet enc Tryz.prog Tryz.f13 (OpenSpec.ofChange Rows.drumNamedSpec) false w args)
   (Rows.drumNamedSpec.post enc Tryz.prog Tryz.f13 false true false false) :=
 law_row (s := Rows.drumNamedSpec) (enc := enc) started #[.agg #[.slice none 0 0, .int .i64 0, .int .i64 0, .slice none 0 0, .slice none 0 0, .slice none 0 0], .slice none 0 0] (by kernel_rfl) Tryz.func13 (by kernel_rfl) (by kernel_rfl) (by kernel_rfl) rfl
   (by
    rw [Tryz.params13]
    have h : ∀ t ∈ ([27, 23] : List Nat), t ∈ [3, 9, 23, 27, 54, 92] := by decide
    exact fun t ht => parT t (h t ht)) rfl
   (by
    rw [Tryz.params13]
    intro ds h
    match ds, h with
    | [d0, d1], _ => rfl)
   (by
    rw [Tryz.params13]
    intro W base args ds p hval hA
    obtain ⟨args⟩ := args
    obtain ⟨v0, vs0, d0, ds0, p0, q0, e0, rfl, rfl, h0, r0⟩ := trodAll_cons hA
    have e0 : args = _ := e0; subst e0
    obtain ⟨v1, vs1, d1, ds1, p1, q1, e1, rfl, rfl, h1, r1⟩ := trodAll_cons r0
    subst e1
    obtain ⟨rfl, rfl, rfl⟩ := trodAll_nil r1
    obtain ⟨x0, z0⟩ := rd_drum (hval 0 27 v0 rfl rfl) h0
    obtain ⟨x1, z1⟩ := rd_list (hval 1 23 v1 rfl rfl) h1
    refine ⟨rfl, [.agg (cDrum x0), .sl (x1.map eI)], ⟨rfl, ?_⟩, c_13 1000 x0 x1 (law_13 x0 x1)⟩
    intro j c u hc hu
    match j, hc, hu with
    | 0, hc, hu => cases hc; cases hu; exact z0
    | 1, hc, hu => cases hc; cases hu; exact z1)
theorem drumNamed_facts : factsA Tryz.prog Tryz.f13 Rows.drumNamedSpec Rows.drumNamedRow = true := by kernel_rfl
theorem drumNamed_road0 : (Rows.drumNamedRow.inPlace == Tryz.prog.inPlace 13) = true := by kernel_rfl
theorem drumNamed_road1 : (Rows.drumNamedRow.unfollowed == Tryz.prog.unfollowed 13) = true := by kernel_rfl
theorem drumNamed_road2 : (Rows.drumNamedRow.recurses == Tryz.prog.recurses 13) = true := by kernel_rfl
theorem drumNamed_road3 : (Rows.drumNamedRow.named == Tryz.prog.varsNamed 13) = true := by kernel_rfl
theorem drumNamed_row : Rows.DrumNamedSaid :=
 OpenClaim.holds_of_wide 13 Tryz.f13 rfl rfl rfl rfl rfl rfl rfl ⟨rfl, rfl, rfl, rfl, rfl⟩ rfl rfl rfl rfl rfl (by as_aux_lemma => kernel_rfl) Tryz.func13 (joined_of drumNamed_facts drumNamed_road0 drumNamed_road1 drumNamed_road2 drumNamed_road3)
  (of_decide_eq_true (by as_aux_lemma => kernel_rfl)) (by unfold Func.isWrapper; rw [if_neg (of_decide_eq_false (by as_aux_lemma => kernel_rfl))]; exact ⟨rfl, rfl⟩)
  (fun os started H enc _ => drumNamed_lifted os started H enc)
theorem drumNamed_card : Rows.DrumNamedCardSaid :=
 Claim7.holds_tied_plain_at .later [] [.data, .data, .data, .data, .pinned] true (true, "263524fd91af563947b647e8709e73ef988cdef21cccd4074f632dc410392126") true drumNamed_row (fun _ h => by cases h) (by as_aux_lemma => kernel_rfl) (fun _ h => by cases h) drumNamed_row_tie rfl ⟨rfl, rfl⟩ mainK rfl
  (fun f fn hf hfn => by
   obtain rfl : f = 13 := Option.some.inj ((show Tryz.prog.funcNamed "nacre/nacrelaw03.DrumNamed" = some 13 by as_aux_lemma => kernel_rfl).symm.trans hf) |>.symm
   obtain rfl : fn = Tryz.f13 := (Option.some.inj (Tryz.func13.symm.trans hfn)).symm
   exact ⟨looksK, fun j t ht => by
    rw [Tryz.params13] at ht
    have hm : t ∈ [27, 23] := by simpa using Array.mem_of_getElem? ht
    have h : ∀ t ∈ ([27, 23] : List Nat), t ∈ [3, 9, 23, 27, 54, 92] := by decide
    exact standK t (h t hm)⟩)
  (by as_aux_lemma => kernel_rfl)
#print axioms drumNamed_card
end Go.Proofs.YtohmhlkdgfcaeaaGreatDoor
