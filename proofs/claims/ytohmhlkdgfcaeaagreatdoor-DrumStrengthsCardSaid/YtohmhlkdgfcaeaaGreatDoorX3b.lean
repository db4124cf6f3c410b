/- DrumStrengths: the program tells between which bounds the strength of each hour of any drum lies, and in which hour a strip tells all acids apart, or the errors, as the reference does. For every input that can be read as data, the tables of Go's library being as their text lays them: the call returns true, and each argument reads behind it as before. -/
import Derived.Test.YtohmhlkdgfcaeaaGreatDoorTie
import Derived.Test.YtohmhlkdgfcaeaaGreatDoorCards
import Derived.Test.YtohmhlkdgfcaeaaGreatDoorX3a
set_option linter.unusedVariables false
set_option linter.unusedSimpArgs false
namespace Go.Proofs.YtohmhlkdgfcaeaaGreatDoor
open Go Go.RowKit
theorem fc_fold {α σ β : Type} {body : Nat → α → σ → (σ → Option β) → Option β} {fin : σ → Option β} (g : σ → α → σ) : ∀ (l : List α) (i : Nat) (s : σ), (∀ i x s K, x ∈ l → body i x s K = K (g s x)) → fc body fin i l s = fin (l.foldl g s) := by
 intro l
 induction l with
 | nil => intro i s _; rfl
 | cons x r ih =>
  intro i s h
  rw [fc, h i x s _ List.mem_cons_self, ih (i + 1) (g s x) (fun i y s K hy => h i y s K (List.mem_cons_of_mem _ hy))]
  rfl
def bdAt (d : Drum) (i h : Nat) : Span := bd d.adds d.strips (acidAt d i) (hrs d) h
def upd (s t : Span) : Span := ⟨min s.low t.low, max s.high t.high⟩
def hull (d : Drum) (l : List Nat) (h : Nat) : Span := l.foldl (fun s i => upd s (bdAt d i h)) (bdAt d (l.headD 0) h)
theorem upd_self (s : Span) : upd s s = s := by
 ext
 ·simp only [upd]; omega
 ·simp only [upd]; omega
section
variable {n : Nat} {d : Drum}
theorem bdI_lst (i : Nat) : bdI d i = lst (hrs d) (bdAt d i) := rfl
theorem bdI_get {i h : Nat} (hh : h < hrs d) : ix (bdI d i) (h : Int) = some (bdAt d i h) := ix_at (by rw [bdI_lst]; exact lst_get hh)
theorem p_85 {i h : Nat} (hh : h < hrs d) : s_85 n ⟨d, (i : Int), bdI d i⟩ (h : Int) = some (bdAt d i h).low := by unfold s_85; rw [bdI_get hh]; rfl
theorem p_86 {i h : Nat} (hh : h < hrs d) : s_86 n ⟨d, (i : Int), bdI d i⟩ (h : Int) = some (bdAt d i h).high := by unfold s_86; rw [bdI_get hh]; rfl
theorem idx_len (hd : d.ok) : (idx d).length ≤ 4 := by
 have := hd.acl
 have h1 := List.length_filter_le (PossI d) (List.range d.acids.length)
 unfold idx
 rw [List.length_range] at h1
 omega
theorem idx_mem {i : Nat} (h : i ∈ idx d) : i < d.acids.length ∧ PossI d i = true := by
 unfold idx at h
 rw [List.mem_filter, List.mem_range] at h
 exact h
theorem lst_succ (m : Nat) (c : Nat → Span) : lst (m + 1) c = lst m c ++ [c m] := by unfold lst; rw [List.range_succ, List.map_append]; rfl
theorem lst_length (m : Nat) (c : Nat → Span) : (lst m c).length = m := by simp [lst]
theorem p_25_l5 (hd : d.ok) (hn : 100 ≤ n) (K1 : Int → List Span → Option (List Span × Int)) (e : Int) {h : Nat} (hh : h < hrs d) (acc : List Span) (hacc : acc.length ≤ 100) (s : Span) :
  s_25_l5 n K1 (filL d, e) (h : Int) acc n 0 s = K1 ((h : Int) + 1) (acc ++ [(idx d).foldl (fun s i => upd s (bdAt d i h)) s]) := by
 have hl := idx_len hd
 have hhr := hrs_le hd
 have hfl : (filL d).length = (idx d).length := by simp [filL]
 have h1 := loop_list (filL d) (s_25_l5 n K1 (filL d, e) (h : Int) acc) (fun _ x s K => (s_85 n x (h : Int)).bind fun lo => (s_86 n x (h : Int)).bind fun hi => K (Span.mk (min s.low lo) (max s.high hi)))
  (fun s => (app acc [s]).bind fun v => K1 (wr ((h : Int) + 1)) v) (fun k i s => by rw [s_25_l5]) (by omega) n 0 s (by omega) (by omega)
 rw [show ((0 : Nat) : Int) = 0 from rfl, List.drop_zero] at h1
 rw [h1, fc_fold (fun s (x : Filled) => upd s ((x.strong[h]?).getD default))]
 ·rw [app_of (by simp; omega), Option.bind_some, wr_of (by omega)]
  congr 3
  unfold filL
  rw [List.foldl_map]
  congr 1
  funext s i
  rw [show (bdI d i)[h]? = some (bdAt d i h) from lst_get hh]
  rfl
 ·intro i x s K hx
  simp only [filL, List.mem_map] at hx
  obtain ⟨j, _, rfl⟩ := hx
  rw [p_85 hh, Option.bind_some, p_86 hh, Option.bind_some]
  simp only [show (bdI d j)[h]? = some (bdAt d j h) from lst_get hh]
  rfl
theorem p_25 (hn : 100 ≤ n) (hs : Short d) : s_25 n d = some (bif decide (err d true = 0) then lst (hrs d) (hull d (idx d)) else [], err d true) := by
 unfold s_25
 rw [p_84 hn hs, Option.bind_some]
 by_cases he : err d true = 0
 ·simp only [he, decide_true, Bool.not_true, cond_false, cond_true]
  have hok : okD d = true := by
   unfold err at he
   cases h : okD d with
   | true => rfl
   | false => rw [h] at he; simp at he
  have hne : idx d ≠ [] := by
   intro h
   unfold err at he
   rw [hok, h] at he
   simp at he
  have hd := okD_iff.1 hok
  have hhr := hrs_le hd
  have hH := hrs_eq hd
  obtain ⟨i0, r0, hi0⟩ : ∃ i r, idx d = i :: r := by
   cases h : idx d with
   | nil => exact absurd h hne
   | cons i r => exact ⟨i, r, rfl⟩
  have key : ∀ (r m k : Nat), m + r = hrs d → r < k → s_25_l1 n d (filL d, 0) k (m : Int) (lst m (hull d (idx d))) = some (lst (hrs d) (hull d (idx d)), 0) := by
   intro r
   induction r with
   | zero =>
    intro m k hm hk
    obtain ⟨k, rfl⟩ : ∃ k', k = k' + 1 := ⟨k - 1, by omega⟩
    have : m = hrs d := by omega
    subst this
    rw [s_25_l1, decide_eq_false (by omega), cond_false]
   | succ r ih =>
    intro m k hm hk
    obtain ⟨k, rfl⟩ : ∃ k', k = k' + 1 := ⟨k - 1, by omega⟩
    have hmH : m < hrs d := by omega
    have g0 : ix (filL d) 0 = some ⟨d, (i0 : Int), bdI d i0⟩ := by
     refine ix_at (i := 0) ?_
     unfold filL
     rw [hi0]; rfl
    rw [s_25_l1, decide_eq_true (by omega), cond_true]
    simp only [g0, Option.bind_some, bdI_get hmH]
    rw [p_25_l5 hd hn _ 0 hmH _ (by rw [lst_length]; omega)]
    have := ih (m + 1) k (by omega) (by omega)
    rw [lst_succ] at this
    have e : hull d (idx d) m = (idx d).foldl (fun s i => upd s (bdAt d i m)) (bdAt d i0 m) := by unfold hull; rw [hi0]; rfl
    rw [e] at this
    exact_mod_cast this
  exact key (hrs d) 0 n (by omega) (by omega)
 ·simp only [decide_eq_false he, Bool.not_false, cond_true, cond_false]
theorem p_29 (hd : d.ok) (hn : 100 ≤ n) (hne : idx d ≠ []) : s_29 n d = some (lst (hrs d) (hull d (idx d))) := by
 have hhr := hrs_le hd
 have hH := hrs_eq hd
 have hil := idx_len hd
 unfold s_29
 rw [p_80 hd hn, Option.bind_some]
 have first : ∀ (K1 : Int → List Span → Option (List Span)) (i0 : Nat) (r m k : Nat), m + r = hrs d → r < k → s_29_l15 K1 d 0 (bdI d i0, true) k (m : Int) (lst m (bdAt d i0)) = K1 1 (lst (hrs d) (bdAt d i0)) := by
  intro K1 i0 r
  induction r with
  | zero =>
   intro m k hm hk
   obtain ⟨k, rfl⟩ : ∃ k', k = k' + 1 := ⟨k - 1, by omega⟩
   have : m = hrs d := by omega
   subst this
   rw [s_29_l15, decide_eq_false (by omega), cond_false]
   rfl
  | succ r ih =>
   intro m k hm hk
   obtain ⟨k, rfl⟩ : ∃ k', k = k' + 1 := ⟨k - 1, by omega⟩
   have hmH : m < hrs d := by omega
   have g2 : ix (lst (m + 1) (bdAt d i0)) (m : Int) = some (bdAt d i0 m) := ix_at (lst_get (by omega))
   rw [s_29_l15, decide_eq_true (by omega), cond_true, show decide ((0 : Int) = 0) = true from rfl, cond_true]
   simp only [bdI_get hmH, Option.bind_some]
   rw [app_of (by rw [lst_length]; simp; omega), Option.bind_some, ← lst_succ]
   unfold s_29_j18
   simp only [g2, bdI_get hmH, Option.bind_some]
   have hset : sts (lst (m + 1) (bdAt d i0)) (m : Int) (Span.mk (min (bdAt d i0 m).low (bdAt d i0 m).low) (max (bdAt d i0 m).high (bdAt d i0 m).high)) = lst (m + 1) (bdAt d i0) := by
    have h1 := upd_self (bdAt d i0 m)
    unfold upd at h1
    rw [h1]
    refine (lst_set (m := m)).trans (lst_congr (fun h _ => ?_))
    by_cases e : h = m
    ·subst e; rw [if_pos rfl]
    ·rw [if_neg e]
   rw [hset, wr_of (by omega)]
   exact_mod_cast ih (m + 1) k (by omega) (by omega)
 have more : ∀ (K1 : Int → List Span → Option (List Span)) (j p : Nat) (c : Nat → Span), 0 < p → p ≤ 100 → ∀ (r m k : Nat), m + r = hrs d → r < k → s_29_l15 K1 d (p : Int) (bdI d j, true) k (m : Int) (lst (hrs d) (fun h => if h < m then upd (c h) (bdAt d j h) else c h)) = K1 ((p : Int) + 1) (lst (hrs d) (fun h => upd (c h) (bdAt d j h))) := by
  intro K1 j p c hp hp2 r
  induction r with
  | zero =>
   intro m k hm hk
   obtain ⟨k, rfl⟩ : ∃ k', k = k' + 1 := ⟨k - 1, by omega⟩
   have : m = hrs d := by omega
   subst this
   rw [s_29_l15, decide_eq_false (by omega), cond_false, wr_of (by omega)]
   congr 1
   exact lst_congr (fun h hh => by rw [if_pos hh])
  | succ r ih =>
   intro m k hm hk
   obtain ⟨k, rfl⟩ : ∃ k', k = k' + 1 := ⟨k - 1, by omega⟩
   have hmH : m < hrs d := by omega
   have g2 : ix (lst (hrs d) (fun h => if h < m then upd (c h) (bdAt d j h) else c h)) (m : Int) = some (c m) := by
    rw [ix_at (lst_get hmH), if_neg (by omega)]
   rw [s_29_l15, decide_eq_true (by omega), cond_true, decide_eq_false (by omega), cond_false]
   unfold s_29_j18
   simp only [g2, bdI_get hmH, Option.bind_some]
   have hset : sts (lst (hrs d) (fun h => if h < m then upd (c h) (bdAt d j h) else c h)) (m : Int) (Span.mk (min (c m).low (bdAt d j m).low) (max (c m).high (bdAt d j m).high)) = lst (hrs d) (fun h => if h < m + 1 then upd (c h) (bdAt d j h) else c h) := by
    refine (lst_set (m := m)).trans (lst_congr (fun h _ => ?_))
    by_cases e : h = m
    ·subst e; rw [if_pos rfl, if_pos (by omega)]; rfl
    ·rw [if_neg e]
     by_cases h1 : h < m
     ·rw [if_pos h1, if_pos (by omega)]
     ·rw [if_neg h1, if_neg (by omega)]
   rw [hset, wr_of (by omega)]
   exact_mod_cast ih (m + 1) k (by omega) (by omega)
 have rest : ∀ (r : List Nat) (p k : Nat) (c : Nat → Span), (idx d).drop p = r → 0 < p → p ≤ (idx d).length → (idx d).length < k + p → s_29_l1 n d (intL (idx d)) k (p : Int) (lst (hrs d) c) = some (lst (hrs d) (fun h => r.foldl (fun s i => upd s (bdAt d i h)) (c h))) := by
  intro r
  induction r with
  | nil =>
   intro p k c hr hp hp2 hk
   have hpl : (idx d).length ≤ p := List.drop_eq_nil_iff.1 hr
   obtain ⟨k, rfl⟩ : ∃ k', k = k' + 1 := ⟨k - 1, by omega⟩
   rw [s_29_l1, decide_eq_false (by simp [intL]; omega), cond_false]
   rfl
  | cons j r ih =>
   intro p k c hr hp hp2 hk
   have hpl : p < (idx d).length := by
    rcases Nat.lt_or_ge p (idx d).length with h | h
    ·exact h
    ·rw [List.drop_eq_nil_of_le h] at hr; cases hr
   obtain ⟨k, rfl⟩ : ∃ k', k = k' + 1 := ⟨k - 1, by omega⟩
   rw [List.drop_eq_getElem_cons hpl] at hr
   obtain ⟨hj, hr2⟩ := List.cons.inj hr
   have hjm : j ∈ idx d := by rw [← hj]; exact List.getElem_mem hpl
   obtain ⟨m1, m2⟩ := idx_mem hjm
   have g : ix (intL (idx d)) (p : Int) = some (j : Int) := ix_at (by unfold intL; rw [List.getElem?_map, List.getElem?_eq_getElem hpl, hj]; rfl)
   rw [s_29_l1, decide_eq_true (by simp [intL]; omega), cond_true, g, Option.bind_some, q_90 hd hn m1, m2]
   simp only [Option.bind_some, cond_true]
   have h1 := more (s_29_l1 n d (intL (idx d)) k) j p c hp (by omega) (hrs d) 0 n (by omega) (by omega)
   have e0 : lst (hrs d) (fun h => if h < 0 then upd (c h) (bdAt d j h) else c h) = lst (hrs d) c := lst_congr (fun h _ => by rw [if_neg (by omega)])
   rw [e0] at h1
   rw [show ((0 : Nat) : Int) = 0 from rfl] at h1
   rw [h1]
   have := ih (p + 1) k (fun h => upd (c h) (bdAt d j h)) hr2 (by omega) (by omega) (by omega)
   exact_mod_cast this
 obtain ⟨i0, r0, hi0⟩ : ∃ i r, idx d = i :: r := by
  cases h : idx d with
  | nil => exact absurd h hne
  | cons i r => exact ⟨i, r, rfl⟩
 obtain ⟨m1, m2⟩ := idx_mem (show i0 ∈ idx d by rw [hi0]; exact List.mem_cons_self)
 obtain ⟨n', hn'⟩ : ∃ n', n = n' + 1 := ⟨n - 1, by omega⟩
 have g : ix (intL (idx d)) 0 = some (i0 : Int) := ix_at (i := 0) (by unfold intL; rw [hi0]; rfl)
 have h0 : s_29_l1 n d (intL (idx d)) (n' + 1) 0 [] = s_29_l15 (s_29_l1 n d (intL (idx d)) n') d 0 (bdI d i0, true) n 0 [] := by
  rw [s_29_l1, decide_eq_true (by rw [hi0]; simp [intL]), cond_true, g, Option.bind_some, q_90 hd hn m1, m2]
  rfl
 rw [show s_29_l1 n d (intL (idx d)) n 0 [] = s_29_l1 n d (intL (idx d)) (n' + 1) 0 [] by rw [hn'], h0]
 have h1 := first (s_29_l1 n d (intL (idx d)) n') i0 (hrs d) 0 n (by omega) (by omega)
 rw [show ((0 : Nat) : Int) = 0 from rfl] at h1
 rw [show lst 0 (bdAt d i0) = [] from rfl] at h1
 rw [h1]
 have h2 := rest r0 1 n' (bdAt d i0) (by rw [hi0]; rfl) (by omega) (by rw [hi0]; simp) (by omega)
 rw [show ((1 : Nat) : Int) = 1 from rfl] at h2
 rw [h2]
 refine congrArg some (lst_congr (fun h _ => ?_))
 unfold hull
 rw [hi0]
 simp only [List.headD_cons, List.foldl_cons, upd_self]
end
end Go.Proofs.YtohmhlkdgfcaeaaGreatDoor
namespace Go.Proofs.YtohmhlkdgfcaeaaGreatDoor
open Go Go.RowKit
def ap (off : Int) (x y : Span) : Bool := decide (2 * off < x.low - y.high) || decide (2 * off < y.low - x.high)
def prs (f : Nat → Span) (off : Int) : List Nat → List Nat → Bool
 | _, [] => true
 | pre, x :: r => pre.all (fun y => ap off (f x) (f y)) && prs f off (pre ++ [x]) r
def firstH (p : Nat → Bool) : Nat → Nat → Int
 | 0, _ => -1
 | r + 1, m => bif p m then (m : Int) else firstH p r (m + 1)
section
variable {n : Nat} {d : Drum} {off : Int}
theorem bdAt_small (hd : d.ok) {i h : Nat} (hi : i ∈ idx d) (hh : h < hrs d) : (bdAt d i h).small := by
 obtain ⟨m1, m2⟩ := idx_mem hi
 have hhr := hrs_le hd
 unfold PossI at m2
 simp only [Bool.and_eq_true, decide_eq_true_eq] at m2
 exact bd_small hd (acidAt_ok hd m1) hhr.2 m2.2 hh
theorem p_88_l16 (hd : d.ok) (hn : 100 ≤ n) (ho : 0 ≤ off ∧ off ≤ 50) (K1 : Int → Option Bool) {h : Nat} (hh : h < hrs d) (p : Int) {x : Nat} (hx : x ∈ idx d) (pre : List Nat) (hpre : ∀ y ∈ pre, y ∈ idx d) (hl : pre.length ≤ 50) :
  s_88_l16 n K1 (h : Int) off p ⟨d, (x : Int), bdI d x⟩ (pre.map fun (i : Nat) => ⟨d, (i : Int), bdI d i⟩) n 0 = bif pre.all (fun y => ap off (bdAt d x h) (bdAt d y h)) then K1 (wr (p + 1)) else some false := by
 have h1 := loop_all (pre.map fun (i : Nat) => (⟨d, (i : Int), bdI d i⟩ : Filled)) (s_88_l16 n K1 (h : Int) off p ⟨d, (x : Int), bdI d x⟩ (pre.map fun (i : Nat) => ⟨d, (i : Int), bdI d i⟩)) (fun y => ap off (bdAt d x h) ((y.strong[h]?).getD default)) (K1 (wr (p + 1))) (fun k i => by
  rw [s_88_l16]
  by_cases hi : i < pre.length
  ·have hi' : i < (pre.map fun (i : Nat) => (⟨d, (i : Int), bdI d i⟩ : Filled)).length := by simpa using hi
   rw [ix_at (List.getElem?_eq_getElem hi'), List.getElem_map]
   have hy := hpre _ (List.getElem_mem hi)
   have b1 := bdAt_small hd hx hh
   have b2 := bdAt_small hd hy hh
   simp only [Span.small] at b1 b2
   simp only [Option.bind_some, p_85 hh, p_86 hh, show (bdI d pre[i])[h]? = some (bdAt d pre[i] h) from lst_get hh, Option.getD_some]
   rw [wr_of (x := (bdAt d x h).low - (bdAt d pre[i] h).high) (by omega), wr_of (x := (bdAt d pre[i] h).low - (bdAt d x h).high) (by omega), wr_of (x := 2 * off) (by omega)]
   congr 1
   unfold s_88_j22 ap
   by_cases c1 : (bdAt d x h).low - (bdAt d pre[i] h).high ≤ 2 * off
   ·rw [decide_eq_true c1, cond_true, decide_eq_false (show ¬ (2 * off < (bdAt d x h).low - (bdAt d pre[i] h).high) by omega), Bool.false_or]
    by_cases c2 : (bdAt d pre[i] h).low - (bdAt d x h).high ≤ 2 * off
    ·rw [decide_eq_true c2, cond_true, decide_eq_false (by omega), cond_false]
    ·rw [decide_eq_false c2, cond_false, decide_eq_true (by omega), cond_true]
   ·rw [decide_eq_false c1, cond_false, decide_eq_true (show (2 * off < (bdAt d x h).low - (bdAt d pre[i] h).high) by omega), Bool.true_or, cond_true, cond_false]
  ·have e1 : decide ((i : Int) < (((pre.map fun (i : Nat) => (⟨d, (i : Int), bdI d i⟩ : Filled)).length : Nat) : Int)) = false := decide_eq_false (by simp; omega)
   rw [e1, cond_false, cond_false]) (by simp; omega) (k := n) (by simp; omega)
 rw [h1, List.all_map]
 congr 1
 apply List.all_congr rfl
 intro y
 simp only [Function.comp_apply, show (bdI d y)[h]? = some (bdAt d y h) from lst_get hh, Option.getD_some]
theorem p_88 (hd : d.ok) (hn : 100 ≤ n) (ho : 0 ≤ off ∧ off ≤ 50) {h : Nat} (hh : h < hrs d) : s_88 n (filL d) (h : Int) off = some (prs (fun i => bdAt d i h) off [] (idx d)) := by
 have hil := idx_len hd
 have key : ∀ (r pre : List Nat) (k : Nat), idx d = pre ++ r → r.length < k → s_88_l1 n (filL d) (h : Int) off k (pre.length : Int) = some (prs (fun i => bdAt d i h) off pre r) := by
  intro r
  induction r with
  | nil =>
   intro pre k hr hk
   obtain ⟨k, rfl⟩ : ∃ k', k = k' + 1 := ⟨k - 1, by simp at hk; omega⟩
   rw [s_88_l1, decide_eq_false (by simp [filL, hr]), cond_false]
   rfl
  | cons x r ih =>
   intro pre k hr hk
   have hlen : (idx d).length = pre.length + (r.length + 1) := by rw [hr]; simp
   obtain ⟨k, rfl⟩ : ∃ k', k = k' + 1 := ⟨k - 1, by simp at hk; omega⟩
   have hf : filL d = (pre.map fun (i : Nat) => (⟨d, (i : Int), bdI d i⟩ : Filled)) ++ ⟨d, (x : Int), bdI d x⟩ :: r.map fun (i : Nat) => (⟨d, (i : Int), bdI d i⟩ : Filled) := by unfold filL; rw [hr]; simp
   have g1 : ix (filL d) (pre.length : Int) = some ⟨d, (x : Int), bdI d x⟩ := ix_at (by rw [hf, List.getElem?_append_right (by simp)]; simp)
   have g2 : subl (filL d) 0 (pre.length : Int) = some (pre.map fun (i : Nat) => (⟨d, (i : Int), bdI d i⟩ : Filled)) := by
    unfold subl
    have hle : (pre.length : Int) ≤ ((filL d).length : Int) := by rw [hf]; simp; omega
    rw [decide_eq_true (show (0 : Int) ≤ 0 by omega), decide_eq_true (show (0 : Int) ≤ (pre.length : Int) by omega), decide_eq_true hle]
    simp only [Bool.and_self, cond_true, Int.toNat_natCast, Int.toNat_zero, List.drop_zero]
    rw [hf, List.take_left' (by simp)]
   rw [s_88_l1, decide_eq_true (by rw [hf]; simp; omega), cond_true, g1, Option.bind_some, g2, Option.bind_some]
   rw [p_88_l16 hd hn ho _ hh _ (by rw [hr]; simp) pre (fun y hy => by rw [hr]; simp [hy]) (by omega)]
   rw [wr_of (by omega)]
   have := ih (pre ++ [x]) k (by rw [hr]; simp) (by simp at hk; omega)
   rw [List.length_append] at this
   push_cast at this
   rw [prs]
   cases pre.all (fun y => ap off (bdAt d x h) (bdAt d y h))
   ·rfl
   ·rw [cond_true, Bool.true_and]; exact this
 exact key (idx d) [] n rfl (by omega)
theorem p_30_l61 (hd : d.ok) (hn : 100 ≤ n) (ho : 0 ≤ off ∧ off ≤ 50) (K46 : Bool → Int → Option Int) {h : Nat} (hh : h < hrs d) {pre r : List Nat} {x : Nat} (hr : idx d = pre ++ x :: r) : ∀ (q m k : Nat) (fl : Bool), m + q = pre.length → q < k →
  s_30_l61 n K46 d off (intL (idx d)) (h : Int) (pre.length : Int) k fl (m : Int) = K46 (fl && (pre.drop m).all (fun y => ap off (bdAt d x h) (bdAt d y h))) ((pre.length : Int) + 1) := by
 have hil := idx_len hd
 have hlen : (idx d).length = pre.length + (r.length + 1) := by rw [hr]; simp
 have gx : ix (intL (idx d)) (pre.length : Int) = some (x : Int) := ix_at (by unfold intL; rw [List.getElem?_map, hr, List.getElem?_append_right (by omega)]; simp)
 obtain ⟨x1, x2⟩ := idx_mem (show x ∈ idx d by rw [hr]; simp)
 intro q
 induction q with
 | zero =>
  intro m k fl hm hk
  obtain ⟨k, rfl⟩ : ∃ k', k = k' + 1 := ⟨k - 1, by omega⟩
  rw [s_30_l61, decide_eq_false (by omega), cond_false, wr_of (by omega), List.drop_eq_nil_of_le (by omega)]
  simp
 | succ q ih =>
  intro m k fl hm hk
  obtain ⟨k, rfl⟩ : ∃ k', k = k' + 1 := ⟨k - 1, by omega⟩
  have hml : m < pre.length := by omega
  have hy : pre[m] ∈ idx d := by rw [hr]; exact List.mem_append_left _ (List.getElem_mem hml)
  obtain ⟨y1, y2⟩ := idx_mem hy
  have gy : ix (intL (idx d)) (m : Int) = some ((pre[m] : Nat) : Int) := ix_at (by unfold intL; rw [List.getElem?_map, hr, List.getElem?_append_left hml, List.getElem?_eq_getElem hml]; rfl)
  have b1 := bdAt_small hd (show x ∈ idx d by rw [hr]; simp) hh
  have b2 := bdAt_small hd hy hh
  simp only [Span.small] at b1 b2
  have hw : wr ((m : Int) + 1) = ((m + 1 : Nat) : Int) := by rw [wr_of (by omega)]; push_cast; rfl
  rw [s_30_l61, decide_eq_true (by omega), cond_true, gx, Option.bind_some, q_90 hd hn x1, x2, gy]
  simp only [Option.bind_some, cond_true, q_90 hd hn y1, y2, bdI_get hh, hw]
  rw [List.drop_eq_getElem_cons hml, List.all_cons]
  cases fl with
  | false =>
   rw [cond_false, ih (m + 1) k false (by omega) (by omega)]
   simp
  | true =>
   rw [cond_true, wr_of (x := (bdAt d x h).low - (bdAt d pre[m] h).high) (by omega), wr_of (x := (bdAt d pre[m] h).low - (bdAt d x h).high) (by omega), wr_of (x := 2 * off) (by omega)]
   rw [ih (m + 1) k true (by omega) (by omega), ih (m + 1) k _ (by omega) (by omega)]
   unfold ap
   cases decide (2 * off < (bdAt d x h).low - (bdAt d pre[m] h).high)
   ·simp only [cond_false, Bool.false_or, Bool.true_and]
   ·simp only [cond_true, Bool.true_or, Bool.true_and]
theorem p_30_l46 (hd : d.ok) (hn : 100 ≤ n) (ho : 0 ≤ off ∧ off ≤ 50) (K1 : Int → Option Int) {h : Nat} (hh : h < hrs d) : ∀ (r pre : List Nat) (k : Nat) (fl : Bool), idx d = pre ++ r → r.length < k →
  s_30_l46 n K1 d off (intL (idx d)) (h : Int) k fl (pre.length : Int) = bif fl && prs (fun i => bdAt d i h) off pre r then some (h : Int) else K1 ((h : Int) + 1) := by
 have hil := idx_len hd
 have hhr := hrs_le hd
 intro r
 induction r with
 | nil =>
  intro pre k fl hr hk
  obtain ⟨k, rfl⟩ : ∃ k', k = k' + 1 := ⟨k - 1, by simp at hk; omega⟩
  rw [s_30_l46, decide_eq_false (by simp [intL, hr]), cond_false, wr_of (by omega), prs, Bool.and_true]
 | cons x r ih =>
  intro pre k fl hr hk
  have hlen : (idx d).length = pre.length + (r.length + 1) := by rw [hr]; simp
  obtain ⟨k, rfl⟩ : ∃ k', k = k' + 1 := ⟨k - 1, by simp at hk; omega⟩
  rw [s_30_l46, decide_eq_true (by simp [intL]; omega), cond_true]
  have h1 := p_30_l61 (n := n) hd hn ho (s_30_l46 n K1 d off (intL (idx d)) (h : Int) k) hh hr pre.length 0 n fl (by omega) (by omega)
  rw [show ((0 : Nat) : Int) = 0 from rfl, List.drop_zero] at h1
  rw [h1]
  have := ih (pre ++ [x]) k (fl && pre.all (fun y => ap off (bdAt d x h) (bdAt d y h))) (by rw [hr]; simp) (by simp at hk; omega)
  rw [List.length_append] at this
  push_cast at this
  rw [prs, ← Bool.and_assoc]
  exact this
def tellsAt (d : Drum) (off : Int) (h : Nat) : Bool := prs (fun i => bdAt d i h) off [] (idx d)
theorem p_30 (hd : d.ok) (hn : 100 ≤ n) (ho : 0 ≤ off ∧ off ≤ 50) : s_30 n d off = some (firstH (tellsAt d off) (hrs d) 0) := by
 have hil := idx_len hd
 have hhr := hrs_le hd
 have hH := hrs_eq hd
 unfold s_30
 rw [p_80 hd hn, Option.bind_some]
 have key : ∀ (r m k : Nat), m + r = hrs d → r < k → s_30_l1 n d off (intL (idx d)) k (m : Int) = some (firstH (tellsAt d off) r m) := by
  intro r
  induction r with
  | zero =>
   intro m k hm hk
   obtain ⟨k, rfl⟩ : ∃ k', k = k' + 1 := ⟨k - 1, by omega⟩
   rw [s_30_l1, decide_eq_false (by omega), cond_false]
   rfl
  | succ r ih =>
   intro m k hm hk
   obtain ⟨k, rfl⟩ : ∃ k', k = k' + 1 := ⟨k - 1, by omega⟩
   rw [s_30_l1, decide_eq_true (by omega), cond_true]
   have h1 := p_30_l46 (n := n) hd hn ho (s_30_l1 n d off (intL (idx d)) k) (show m < hrs d by omega) (idx d) [] n true rfl (by omega)
   rw [show ((([] : List Nat).length : Nat) : Int) = 0 from rfl] at h1
   rw [h1, Bool.true_and, firstH]
   have := ih (m + 1) k (by omega) (by omega)
   push_cast at this
   rw [this]
   unfold tellsAt
   cases prs (fun i => bdAt d i m) off [] (idx d) <;> rfl
 exact key (hrs d) 0 n (by omega) (by omega)
theorem p_26 (hn : 100 ≤ n) (hs : Short d) : s_26 n d off = some (bif decide (err d (inb off 0 50) = 0) then (bif decide (firstH (tellsAt d off) (hrs d) 0 < 0) then (0, 5) else (firstH (tellsAt d off) (hrs d) 0, 0)) else (0, err d (inb off 0 50))) := by
 unfold s_26
 rw [p_87, Option.bind_some, p_84 hn hs, Option.bind_some]
 by_cases he : err d (inb off 0 50) = 0
 ·simp only [he, decide_true, Bool.not_true, cond_false, cond_true]
  have hok : okD d = true ∧ inb off 0 50 = true := by
   unfold err at he
   cases h : okD d <;> cases h2 : inb off 0 50 <;> rw [h, h2] at he <;> simp at he ⊢
  have hd := okD_iff.1 hok.1
  have ho := inb_iff.1 hok.2
  have hhr := hrs_le hd
  have hH := hrs_eq hd
  have key : ∀ (r m k : Nat), m + r = hrs d → r < k → s_26_l1 n d off (filL d, 0) k (m : Int) = some (bif decide (firstH (tellsAt d off) r m < 0) then (0, 5) else (firstH (tellsAt d off) r m, 0)) := by
   intro r
   induction r with
   | zero =>
    intro m k hm hk
    obtain ⟨k, rfl⟩ : ∃ k', k = k' + 1 := ⟨k - 1, by omega⟩
    rw [s_26_l1, decide_eq_false (by omega), cond_false]
    rfl
   | succ r ih =>
    intro m k hm hk
    obtain ⟨k, rfl⟩ : ∃ k', k = k' + 1 := ⟨k - 1, by omega⟩
    rw [s_26_l1, decide_eq_true (by omega), cond_true]
    simp only [p_88 hd hn ho (show m < hrs d by omega), Option.bind_some, firstH]
    rw [wr_of (by omega)]
    have := ih (m + 1) k (by omega) (by omega)
    push_cast at this
    rw [this]
    show (bif tellsAt d off m then _ else _) = _
    rcases Bool.eq_false_or_eq_true (tellsAt d off m) with ht | ht
    ·simp only [ht, cond_true]
     rw [decide_eq_false (by omega), cond_false]
    ·simp only [ht, cond_false]
  exact key (hrs d) 0 n (by omega) (by omega)
 ·simp only [decide_eq_false he, Bool.not_false, cond_true, cond_false]
theorem law_3 (d : Drum) (off : Int) : s_3 1000 d off = some true := by
 unfold s_3
 rw [p_23, Option.bind_some]
 cases hsh : shortB d with
 | false => simp only [Bool.not_false, cond_true, p_24, Option.bind_some]
 | true =>
  have hs := shortB_iff.1 hsh
  have hn : 100 ≤ 1000 := by omega
  simp only [Bool.not_true, cond_false, p_25 hn hs, p_26 hn hs, p_27 hn hs, Option.bind_some]
  have last : ∀ (v : Int × Int), v = (bif decide (err d (inb off 0 50) = 0) then (bif decide (firstH (tellsAt d off) (hrs d) 0 < 0) then (0, 5) else (firstH (tellsAt d off) (hrs d) 0, 0)) else (0, err d (inb off 0 50))) → s_3_j3 1000 d off v = some true := by
   intro v hv
   have h4 : s_3_j3 1000 d off v = s_3_j4 1000 d off v (err d (inb off 0 50)) := by
    unfold s_3_j3
    rw [p_27 hn hs, p_27 hn hs]
    unfold inb
    cases decide (0 ≤ off) <;> rfl
   rw [h4]
   unfold s_3_j4
   by_cases he : err d (inb off 0 50) = 0
   ·have hok : okD d = true ∧ inb off 0 50 = true := by
     unfold err at he
     cases h : okD d <;> cases h2 : inb off 0 50 <;> rw [h, h2] at he <;> simp at he ⊢
    rw [he] at hv ⊢
    simp only [decide_true, cond_true] at hv ⊢
    rw [p_30 (okD_iff.1 hok.1) hn (inb_iff.1 hok.2), Option.bind_some]
    generalize firstH (tellsAt d off) (hrs d) 0 = t at hv ⊢
    by_cases ht : t < 0
    ·rw [decide_eq_true ht, cond_true] at hv ⊢
     subst hv
     unfold s_3_j5
     rw [p_24]; rfl
    ·rw [decide_eq_false ht, cond_false] at hv ⊢
     subst hv
     unfold s_3_j5
     rw [p_24]
     simp
   ·rw [decide_eq_false he, cond_false] at hv ⊢
    subst hv
    unfold s_3_j5
    rw [p_24, decide_eq_false he]
    simp
  by_cases he : err d true = 0
  ·have hok : okD d = true := by
    unfold err at he
    cases h : okD d with
    | true => rfl
    | false => rw [h] at he; simp at he
   have hne : idx d ≠ [] := by
    intro h
    unfold err at he
    rw [hok, h] at he
    simp at he
   have hhr := hrs_le (okD_iff.1 hok)
   simp only [he, decide_true, Bool.not_true, cond_false, cond_true, p_29 (okD_iff.1 hok) hn hne, Option.bind_some]
   rw [p_28 hn _ _ (by rw [lst_length]; omega), Option.bind_some, decide_eq_true rfl]
   unfold s_3_j2
   exact last _ rfl
  ·simp only [decide_eq_false he, Bool.not_false, cond_true, cond_false, decide_true, Bool.not_true]
   unfold s_3_j1
   exact last _ rfl
end
end Go.Proofs.YtohmhlkdgfcaeaaGreatDoor
namespace Go.Proofs.YtohmhlkdgfcaeaaGreatDoor
open Go Go.RowKit Go.ChangeShapes Go.WideShapes
set_option maxRecDepth 100000
theorem drumStrengths_lifted (os : Os) (started : os.Started) (H : Type) (enc : TypeId × Value → H) :
  ReturnsInHanded {} Tryz.checked os 3 .any (fun w args => (Rows.drumStrengthsSpec.pre enc Tryz.prog Tryz.f3 [] false w args ∧ laidMetH Tryz.prog Rows.drumStrengthsRow.laid w) ∧ sizedMet enc Tryz.prog Tryz.f3 (OpenSpec.ofChange Rows.drumStrengthsSpec) false w args)
   (Rows.drumStrengthsSpec.post enc Tryz.prog Tryz.f3 false true false false) :=
 law_row (s := Rows.drumStrengthsSpec) (enc := enc) started #[.agg #[.slice none 0 0, .int .i64 0, .int .i64 0, .slice none 0 0, .slice none 0 0, .slice none 0 0], .int .i64 0] (by kernel_rfl) Tryz.func3 (by kernel_rfl) (by kernel_rfl) (by kernel_rfl) rfl
   (by
    rw [Tryz.params3]
    have h : ∀ t ∈ ([27, 3] : List Nat), t ∈ [3, 9, 23, 27, 54, 92] := by decide
    exact fun t ht => parT t (h t ht)) rfl
   (by
    rw [Tryz.params3]
    intro ds h
    match ds, h with
    | [d0, d1], _ => rfl)
   (by
    rw [Tryz.params3]
    intro W base args ds p hval hA
    obtain ⟨args⟩ := args
    obtain ⟨v0, vs0, d0, ds0, p0, q0, e0, rfl, rfl, h0, r0⟩ := trodAll_cons hA
    have e0 : args = _ := e0; subst e0
    obtain ⟨v1, vs1, d1, ds1, p1, q1, e1, rfl, rfl, h1, r1⟩ := trodAll_cons r0
    subst e1
    obtain ⟨rfl, rfl, rfl⟩ := trodAll_nil r1
    obtain ⟨x0, z0⟩ := rd_drum (hval 0 27 v0 rfl rfl) h0
    obtain ⟨x1, z1⟩ := rd_int (hval 1 3 v1 rfl rfl)
    refine ⟨rfl, [.agg (cDrum x0), .i x1], ⟨rfl, ?_⟩, c_3 1000 x0 x1 (law_3 x0 x1)⟩
    intro j c u hc hu
    match j, hc, hu with
    | 0, hc, hu => cases hc; cases hu; exact z0
    | 1, hc, hu => cases hc; cases hu; exact z1)
theorem drumStrengths_facts : factsA Tryz.prog Tryz.f3 Rows.drumStrengthsSpec Rows.drumStrengthsRow = true := by kernel_rfl
theorem drumStrengths_road0 : (Rows.drumStrengthsRow.inPlace == Tryz.prog.inPlace 3) = true := by kernel_rfl
theorem drumStrengths_road1 : (Rows.drumStrengthsRow.unfollowed == Tryz.prog.unfollowed 3) = true := by kernel_rfl
theorem drumStrengths_road2 : (Rows.drumStrengthsRow.recurses == Tryz.prog.recurses 3) = true := by kernel_rfl
theorem drumStrengths_road3 : (Rows.drumStrengthsRow.named == Tryz.prog.varsNamed 3) = true := by kernel_rfl
theorem drumStrengths_row : Rows.DrumStrengthsSaid :=
 OpenClaim.holds_of_wide 3 Tryz.f3 rfl rfl rfl rfl rfl rfl rfl ⟨rfl, rfl, rfl, rfl, rfl⟩ rfl rfl rfl rfl rfl (by as_aux_lemma => kernel_rfl) Tryz.func3 (joined_of drumStrengths_facts drumStrengths_road0 drumStrengths_road1 drumStrengths_road2 drumStrengths_road3)
  (of_decide_eq_true (by as_aux_lemma => kernel_rfl)) (by unfold Func.isWrapper; rw [if_neg (of_decide_eq_false (by as_aux_lemma => kernel_rfl))]; exact ⟨rfl, rfl⟩)
  (fun os started H enc _ => drumStrengths_lifted os started H enc)
theorem drumStrengths_card : Rows.DrumStrengthsCardSaid :=
 Claim7.holds_tied_plain_at .later [] [.data, .data, .data, .data, .pinned] true (true, "263524fd91af563947b647e8709e73ef988cdef21cccd4074f632dc410392126") true drumStrengths_row (fun _ h => by cases h) (by as_aux_lemma => kernel_rfl) (fun _ h => by cases h) drumStrengths_row_tie rfl ⟨rfl, rfl⟩ mainK rfl
  (fun f fn hf hfn => by
   obtain rfl : f = 3 := Option.some.inj ((show Tryz.prog.funcNamed "nacre/nacrelaw03.DrumStrengths" = some 3 by as_aux_lemma => kernel_rfl).symm.trans hf) |>.symm
   obtain rfl : fn = Tryz.f3 := (Option.some.inj (Tryz.func3.symm.trans hfn)).symm
   exact ⟨looksK, fun j t ht => by
    rw [Tryz.params3] at ht
    have hm : t ∈ [27, 3] := by simpa using Array.mem_of_getElem? ht
    have h : ∀ t ∈ ([27, 3] : List Nat), t ∈ [3, 9, 23, 27, 54, 92] := by decide
    exact standK t (h t hm)⟩)
  (by as_aux_lemma => kernel_rfl)
#print axioms drumStrengths_card
end Go.Proofs.YtohmhlkdgfcaeaaGreatDoor
namespace Go.Proofs.YtohmhlkdgfcaeaaGreatDoor
open Go Go.RowKit
section
variable {α : Type} (lt : α → α → Bool)
def least : α → List α → α
 | x, [] => x
 | x, y :: r => least (bif lt y x then y else x) r
end
end Go.Proofs.YtohmhlkdgfcaeaaGreatDoor
namespace Go.Proofs.YtohmhlkdgfcaeaaGreatDoor
open Go Go.RowKit
def rn : Int → List Int → Int
 | c, [] => c
 | c, x :: r => rn (max c (x + 1)) r
def rgB : Int → List Int → Bool
 | _, [] => true
 | c, x :: r => decide (x ≤ c) && rgB (max c (x + 1)) r
theorem rgB_app : ∀ (l : List Int) (c x : Int), rgB c (l ++ [x]) = (rgB c l && decide (x ≤ rn c l)) := by
 intro l
 induction l with
 | nil =>
  intro c x
  show (decide (x ≤ c) && true) = (true && decide (x ≤ c))
  rw [Bool.and_true, Bool.true_and]
 | cons y r ih => intro c x; rw [List.cons_append, rgB, ih, rgB, rn, Bool.and_assoc]
end Go.Proofs.YtohmhlkdgfcaeaaGreatDoor
namespace Go.Proofs.YtohmhlkdgfcaeaaGreatDoor
open Go Go.RowKit
structure Way (l : List Int) : Prop where
 rg : rgB 0 l = true
 nn : ∀ x ∈ l, 0 ≤ x
theorem Way.nil : Way [] := ⟨rfl, by simp⟩
theorem Way.step {l : List Int} (h : Way l) {x : Nat} (hx : (x : Int) ≤ rn 0 l) : Way (l ++ [(x : Int)]) :=
 ⟨by rw [rgB_app, h.rg, decide_eq_true hx]; rfl, fun y hy => by
  rcases List.mem_append.1 hy with hy | hy
  ·exact h.nn y hy
  ·obtain rfl := List.mem_singleton.1 hy; omega⟩
end Go.Proofs.YtohmhlkdgfcaeaaGreatDoor
