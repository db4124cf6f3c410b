/- DrumTops: the program tells the least number that must be put in before any hour of any drum, or the errors, as the reference does. For every input that can be read as data, the tables of Go's library being as their text lays them: the call returns true, and each argument reads behind it as before. -/
import Derived.Test.YtohmhlkdgfcaeaaGreatDoorTie
import Derived.Test.YtohmhlkdgfcaeaaGreatDoorCards
import Derived.Test.YtohmhlkdgfcaeaaGreatDoorX5a
set_option linter.unusedVariables false
set_option linter.unusedSimpArgs false
namespace Go.Proofs.YtohmhlkdgfcaeaaGreatDoor
open Go Go.RowKit
def acidAt (d : Drum) (i : Nat) : Acid := d.acids.getD i default
def hrs (d : Drum) : Nat := d.hours.toNat
def PossI (d : Drum) (i : Nat) : Bool := hasB d.known i && decide (Poss d.adds d.strips (acidAt d i) (hrs d))
def bdI (d : Drum) (i : Nat) : List Span := bdL d (acidAt d i) (hrs d)
def idx (d : Drum) : List Nat := (List.range d.acids.length).filter (PossI d)
section
variable {n : Nat} {d : Drum}
theorem acidAt_get {i : Nat} (hi : i < d.acids.length) : d.acids[i]? = some (acidAt d i) := by
 unfold acidAt
 rw [List.getD_eq_getElem?_getD, List.getElem?_eq_getElem hi]; rfl
theorem acidAt_ok (hd : d.ok) {i : Nat} (hi : i < d.acids.length) : (acidAt d i).ok := hd.ac _ (List.mem_of_getElem? (acidAt_get hi))
theorem hrs_eq (hd : d.ok) : d.hours = (hrs d : Int) := by have := hd.hr; unfold hrs; omega
theorem hrs_le (hd : d.ok) : 1 ≤ hrs d ∧ hrs d ≤ 12 := by have := hd.hr; unfold hrs; omega
theorem q_90 (hd : d.ok) (hn : 100 ≤ n) {i : Nat} (hi : i < d.acids.length) : s_90 n d (i : Int) = some (bif PossI d i then (bdI d i, true) else ([], false)) := by
 rw [p_90 hd hn (acidAt_get hi)]
 unfold PossI bdI hrs
 by_cases h1 : hasB d.known i = true <;> by_cases h2 : Poss d.adds d.strips (acidAt d i) d.hours.toNat <;> simp [h1, h2]
theorem q_173 (hd : d.ok) (hn : 100 ≤ n) {i : Nat} (hi : i < d.acids.length) : (Poss d.adds d.strips (acidAt d i) (hrs d) → s_173 n d i = some (.ok ⟨d, i, bdI d i⟩)) ∧ (¬ Poss d.adds d.strips (acidAt d i) (hrs d) → Err (s_173 n d i)) :=
 p_173 hd hn (acidAt_get hi)
theorem app_of {α : Type} {l l2 : List α} (h : l.length + l2.length ≤ 1000000) : app l l2 = some (l ++ l2) := by
 unfold app; rw [decide_eq_true h]; rfl
def intL (l : List Nat) : List Int := l.map fun (j : Nat) => (j : Int)
theorem p_80 (hd : d.ok) (hn : 100 ≤ n) : s_80 n d = some (intL (idx d)) := by
 have hl := hd.acl
 have h1 := loop_nat ((d.acids.length : Nat) : Int) (s_80_l1 n d) (fun i s K => (s_90 n d i).bind fun v => bif v.2 then (app s [i]).bind fun s' => K s' else K s) (fun s => some s) (fun k i s => by rw [s_80_l1]) (by omega) d.acids.length n 0 [] (by omega) (by omega) (by omega)
 unfold s_80
 rw [h1]
 have key : ∀ (r i : Nat) (s : List Int), i + r = d.acids.length → s.length ≤ i → fn ((d.acids.length : Nat) : Int) (fun i s K => (s_90 n d i).bind fun v => bif v.2 then (app s [i]).bind fun s' => K s' else K s) (fun s => some s) r (i : Int) s = some (s ++ intL ((List.range' i r).filter (PossI d))) := by
  intro r
  induction r with
  | zero => intro i s _ _; simp [fn, intL]
  | succ r ih =>
   intro i s hi hs
   have hc : ((i : Int) + 1) = ((i + 1 : Nat) : Int) := by push_cast; rfl
   simp only [fn]
   rw [q_90 hd hn (by omega), Option.bind_some, List.range'_succ, List.filter_cons, hc]
   cases hp : PossI d i with
   | false => simp only [cond_false]; rw [ih (i + 1) s (by omega) (by omega)]; rfl
   | true =>
    simp only [cond_true]
    rw [app_of (by simp; omega), Option.bind_some, ih (i + 1) _ (by omega) (by simp; omega)]
    simp [intL]
 have := key d.acids.length 0 [] (by omega) (by simp)
 rw [← List.range_eq_range'] at this
 exact this
theorem p_89 (hd : d.ok) (hn : 100 ≤ n) : s_89 n d = some (!(idx d).isEmpty) := by
 unfold s_89
 rw [p_80 hd hn, Option.bind_some]
 cases h : idx d with
 | nil => rfl
 | cons x r => simp [intL]
def err (d : Drum) (fine : Bool) : Int := bif !okD d || !fine then 2 else bif (idx d).isEmpty then 7 else 0
theorem p_27 (hn : 100 ≤ n) (hs : Short d) (fine : Bool) : s_27 n d fine = some (err d fine) := by
 unfold s_27 err s_27_j1
 rw [p_39 hn hs, Option.bind_some]
 cases hok : okD d with
 | false => rfl
 | true =>
  rw [p_89 (okD_iff.1 hok) hn]
  cases fine
  ·rfl
  ·cases (idx d).isEmpty <;> rfl
def filL (d : Drum) : List Filled := (idx d).map fun (i : Nat) => ⟨d, (i : Int), bdI d i⟩
theorem p_171 (hd : d.ok) (hn : 100 ≤ n) : s_171 n d n 0 [] = some (filL d) := by
 have hl := hd.acl
 have hkn := hd.kn
 have hpw := (pow_bound (i := d.acids.length) (by omega)).2
 have hpw4 : (2 : Int) ^ d.acids.length ≤ 16 := by
  have : (2 : Nat) ^ d.acids.length ≤ 2 ^ 4 := Nat.pow_le_pow_right (by omega) hl.2
  exact_mod_cast this
 have h1 := loop_nat ((d.acids.length : Nat) : Int) (s_171 n d) (fun i s K => (s_145 n d.known i).bind fun b => bif !b then K s else (s_173 n d i).bind fun r => match r with
     | .error v => bif isRule v then K s else none
     | .ok f => (app s [f]).bind fun l' => K l') (fun s => some s) (fun k i s => by rw [s_171]; rfl) (by omega) d.acids.length n 0 [] (by omega) (by omega) (by omega)
 rw [h1]
 have key : ∀ (r i : Nat) (s : List Filled), i + r = d.acids.length → s.length ≤ i → fn ((d.acids.length : Nat) : Int) (fun i s K => (s_145 n d.known i).bind fun b => bif !b then K s else (s_173 n d i).bind fun r => match r with
     | .error v => bif isRule v then K s else none
     | .ok f => (app s [f]).bind fun l' => K l') (fun s => some s) r (i : Int) s = some (s ++ ((List.range' i r).filter (PossI d)).map fun (i : Nat) => (⟨d, (i : Int), bdI d i⟩ : Filled)) := by
  intro r
  induction r with
  | zero => intro i s _ _; simp [fn]
  | succ r ih =>
   intro i s hi hs
   have hc : ((i : Int) + 1) = ((i + 1 : Nat) : Int) := by push_cast; rfl
   simp only [fn]
   rw [p_145 (by omega) (by omega) (by omega), Option.bind_some, List.range'_succ, List.filter_cons, hc]
   cases hp : hasB d.known i with
   | false =>
    have : PossI d i = false := by unfold PossI; rw [hp]; rfl
    rw [this]
    simp only [Bool.not_false, cond_true]
    rw [ih (i + 1) s (by omega) (by omega)]; rfl
   | true =>
    simp only [Bool.not_true, cond_false]
    obtain ⟨k1, k2⟩ := q_173 (n := n) hd hn (show i < d.acids.length by omega)
    by_cases hpo : Poss d.adds d.strips (acidAt d i) (hrs d)
    ·have : PossI d i = true := by unfold PossI; rw [hp, decide_eq_true hpo]; rfl
     rw [this, k1 hpo]
     simp only [Option.bind_some, if_true]
     rw [app_of (by simp; omega), Option.bind_some, ih (i + 1) _ (by omega) (by simp; omega)]
     simp
    ·have : PossI d i = false := by unfold PossI; rw [hp, decide_eq_false hpo]; rfl
     obtain ⟨v, hv, he⟩ := k2 hpo
     rw [this, he]
     simp only [Option.bind_some, hv, cond_true]
     rw [ih (i + 1) s (by omega) (by omega)]; rfl
 have := key d.acids.length 0 [] (by omega) (by simp)
 rw [← List.range_eq_range'] at this
 exact this
theorem p_84 (hn : 100 ≤ n) (hs : Short d) (fine : Bool) : s_84 n d fine = some (bif decide (err d fine = 0) then filL d else [], err d fine) := by
 unfold s_84 err
 rw [p_104 hn hs, Option.bind_some]
 cases hok : okD d with
 | false => rfl
 | true =>
  cases fine
  ·rfl
  ·simp only [Bool.not_true, Bool.or_self, cond_false]
   rw [p_171 (okD_iff.1 hok) hn, Option.bind_some]
   have : (filL d).isEmpty = (idx d).isEmpty := by unfold filL; cases idx d <;> rfl
   rw [this]
   cases (idx d).isEmpty <;> rfl
end
end Go.Proofs.YtohmhlkdgfcaeaaGreatDoor
namespace Go.Proofs.YtohmhlkdgfcaeaaGreatDoor
open Go Go.RowKit
theorem fc_fold {α σ β : Type} {body : Nat → α → σ → (σ → Option β) → Option β} {fin : σ → Option β} (g : σ → α → σ) : ∀ (l : List α) (i : Nat) (s : σ), (∀ i x s K, x ∈ l → body i x s K = K (g s x)) → fc body fin i l s = fin (l.foldl g s) := by
 intro l
 induction l with
 | nil => intro i s _; rfl
 | cons x r ih =>
  intro i s h
  rw [fc, h i x s _ List.mem_cons_self, ih (i + 1) (g s x) (fun i y s K hy => h i y s K (List.mem_cons_of_mem _ hy))]
  rfl
def bdAt (d : Drum) (i h : Nat) : Span := bd d.adds d.strips (acidAt d i) (hrs d) h
section
variable {n : Nat} {d : Drum}
theorem bdI_lst (i : Nat) : bdI d i = lst (hrs d) (bdAt d i) := rfl
theorem bdI_get {i h : Nat} (hh : h < hrs d) : ix (bdI d i) (h : Int) = some (bdAt d i h) := ix_at (by rw [bdI_lst]; exact lst_get hh)
theorem p_85 {i h : Nat} (hh : h < hrs d) : s_85 n ⟨d, (i : Int), bdI d i⟩ (h : Int) = some (bdAt d i h).low := by unfold s_85; rw [bdI_get hh]; rfl
theorem p_86 {i h : Nat} (hh : h < hrs d) : s_86 n ⟨d, (i : Int), bdI d i⟩ (h : Int) = some (bdAt d i h).high := by unfold s_86; rw [bdI_get hh]; rfl
theorem idx_len (hd : d.ok) : (idx d).length ≤ 4 := by
 have := hd.acl
 have h1 := List.length_filter_le (PossI d) (List.range d.acids.length)
 unfold idx
 rw [List.length_range] at h1
 omega
theorem idx_mem {i : Nat} (h : i ∈ idx d) : i < d.acids.length ∧ PossI d i = true := by
 unfold idx at h
 rw [List.mem_filter, List.mem_range] at h
 exact h
theorem lst_length (m : Nat) (c : Nat → Span) : (lst m c).length = m := by simp [lst]
end
end Go.Proofs.YtohmhlkdgfcaeaaGreatDoor
namespace Go.Proofs.YtohmhlkdgfcaeaaGreatDoor
open Go Go.RowKit
def firstH (p : Nat → Bool) : Nat → Nat → Int
 | 0, _ => -1
 | r + 1, m => bif p m then (m : Int) else firstH p r (m + 1)
end Go.Proofs.YtohmhlkdgfcaeaaGreatDoor
namespace Go.Proofs.YtohmhlkdgfcaeaaGreatDoor
open Go Go.RowKit
def qt (p x : Int) : Int := (x * p).tdiv 100
def cut (p : Int) (g : Nat → Int) : Nat → Int
 | 0 => 0
 | t + 1 => cut p g t + qt p (g t)
def stateAt (b : Batch) (g : Nat → Int) (t : Nat) : State := ⟨max 0 (b.rough - cut b.polish g t), max 0 (b.thick - cut b.eat g t)⟩
theorem qt_le {p x : Int} (hp : 0 ≤ p ∧ p ≤ 100) (hx : 0 ≤ x ∧ x ≤ 5000) : 0 ≤ qt p x ∧ qt p x ≤ 5000 := by
 unfold qt
 have h1 : 0 ≤ x * p := Int.mul_nonneg hx.1 hp.1
 have h2 : x * p ≤ x * 100 := Int.mul_le_mul_of_nonneg_left hp.2 hx.1
 rw [Int.tdiv_eq_ediv_of_nonneg h1]
 omega
theorem p_quo {p x : Int} (hp : 0 ≤ p ∧ p ≤ 100) (hx : 0 ≤ x ∧ x ≤ 5000) : quo .i64 (wr (x * p)) 100 = some (qt p x) := by
 have h1 : 0 ≤ x * p := Int.mul_nonneg hx.1 hp.1
 have h2 : x * p ≤ x * 100 := Int.mul_le_mul_of_nonneg_left hp.2 hx.1
 have h3 := qt_le hp hx
 rw [wr_of (by omega)]
 unfold quo
 rw [show decide ((100 : Int) = 0) = false from rfl, cond_false]
 exact congrArg some (wr_of (by unfold qt at h3; omega))
theorem cut_le {p : Int} {g : Nat → Int} (hp : 0 ≤ p ∧ p ≤ 100) : ∀ (t : Nat), (∀ h, h < t → 0 ≤ g h ∧ g h ≤ 5000) → 0 ≤ cut p g t ∧ cut p g t ≤ 5000 * t := by
 intro t
 induction t with
 | zero => intro _; simp [cut]
 | succ t ih =>
  intro h
  have h1 := ih (fun i hi => h i (by omega))
  have h2 := qt_le hp (h t (by omega))
  rw [cut]
  push_cast
  omega
def lstI (m : Nat) (c : Nat → Int) : List Int := (List.range m).map c
theorem lstI_succ (m : Nat) (c : Nat → Int) : lstI (m + 1) c = lstI m c ++ [c m] := by unfold lstI; rw [List.range_succ, List.map_append]; rfl
theorem lstI_length (m : Nat) (c : Nat → Int) : (lstI m c).length = m := by simp [lstI]
theorem lstI_get {m h : Nat} {c : Nat → Int} (hh : h < m) : (lstI m c)[h]? = some (c h) := by unfold lstI; rw [List.getElem?_map, List.getElem?_range hh]; rfl
section
variable {n : Nat} {d : Drum} {b : Batch} {g : Nat → Int} {t : Nat}
theorem p_166 {p : Int} (hp : 0 ≤ p ∧ p ≤ 100) (hn : 100 ≤ n) (ht : t ≤ 50) (hg : ∀ h, h < t → 0 ≤ g h ∧ g h ≤ 5000) : s_166 n (lstI t (fun h => qt p (g h))) = some (cut p g t) := by
 have key : ∀ (r m k : Nat), m + r = t → r < k → s_166_l1 (lstI t (fun h => qt p (g h))) k (cut p g m) (m : Int) = some (cut p g t) := by
  intro r
  induction r with
  | zero =>
   intro m k hm hk
   obtain ⟨k, rfl⟩ : ∃ k', k = k' + 1 := ⟨k - 1, by omega⟩
   have : m = t := by omega
   subst this
   rw [s_166_l1, decide_eq_false (by rw [lstI_length]; omega), cond_false]
  | succ r ih =>
   intro m k hm hk
   obtain ⟨k, rfl⟩ : ∃ k', k = k' + 1 := ⟨k - 1, by omega⟩
   have h1 := cut_le hp m (fun h hh => hg h (by omega))
   have h2 := qt_le hp (hg m (by omega))
   rw [s_166_l1, decide_eq_true (by rw [lstI_length]; omega), cond_true, ix_at (lstI_get (by omega)), Option.bind_some, wr_of (x := cut p g m + qt p (g m)) (by omega), wr_of (by omega)]
   exact_mod_cast ih (m + 1) k (by omega) (by omega)
 exact key t 0 n (by omega) (by omega)
theorem p_118 (hb : b.ok) (hn : 100 ≤ n) (ht : t ≤ 50) {f : Int → Option Int} (hf : ∀ h, h < t → f (h : Int) = some (g h)) (hg : ∀ h, h < t → 0 ≤ g h ∧ g h ≤ 5000) : s_118 n b (t : Int) f = some (stateAt b g t) := by
 obtain ⟨h1, h2, h3, h4, h5, h6⟩ := hb
 have key : ∀ (r m k : Nat), m + r = t → r < k → s_118_l1 n f b (t : Int) k (m : Int) (lstI m (fun h => qt b.polish (g h))) (lstI m (fun h => qt b.eat (g h))) = some (stateAt b g t) := by
  intro r
  induction r with
  | zero =>
   intro m k hm hk
   obtain ⟨k, rfl⟩ : ∃ k', k = k' + 1 := ⟨k - 1, by omega⟩
   have : m = t := by omega
   subst this
   have c1 := cut_le h5 m hg
   have c2 := cut_le h6 m hg
   rw [s_118_l1, decide_eq_false (by omega), cond_false, p_166 h5 hn ht hg, Option.bind_some, p_166 h6 hn ht hg, Option.bind_some, wr_of (by omega), wr_of (by omega)]
   rfl
  | succ r ih =>
   intro m k hm hk
   obtain ⟨k, rfl⟩ : ∃ k', k = k' + 1 := ⟨k - 1, by omega⟩
   rw [s_118_l1, decide_eq_true (by omega), cond_true, hf m (by omega), Option.bind_some, p_quo h5 (hg m (by omega)), Option.bind_some, app_of (by rw [lstI_length]; simp; omega), Option.bind_some,
    p_quo h6 (hg m (by omega)), Option.bind_some, app_of (by rw [lstI_length]; simp; omega), Option.bind_some, wr_of (by omega)]
   have := ih (m + 1) k (by omega) (by omega)
   rw [lstI_succ, lstI_succ] at this
   exact_mod_cast this
 exact key t 0 n (by omega) (by omega)
theorem p_140 (hb : b.ok) (hn : 100 ≤ n) (ht : t ≤ 50) {l : List Int} (hl : ∀ h, h < t → l[h]? = some (g h)) (hg : ∀ h, h < t → 0 ≤ g h ∧ g h ≤ 5000) : s_140 n b l (t : Int) = some (stateAt b g t) := by
 obtain ⟨h1, h2, h3, h4, h5, h6⟩ := hb
 have key : ∀ (r m k : Nat), m + r = t → r < k → s_140_l1 b l (t : Int) k (b.rough - cut b.polish g m) (b.thick - cut b.eat g m) (m : Int) = some (stateAt b g t) := by
  intro r
  induction r with
  | zero =>
   intro m k hm hk
   obtain ⟨k, rfl⟩ : ∃ k', k = k' + 1 := ⟨k - 1, by omega⟩
   have : m = t := by omega
   subst this
   rw [s_140_l1, decide_eq_false (by omega), cond_false]
   rfl
  | succ r ih =>
   intro m k hm hk
   obtain ⟨k, rfl⟩ : ∃ k', k = k' + 1 := ⟨k - 1, by omega⟩
   have hgm := hg m (by omega)
   have c1 := cut_le h5 m (fun h hh => hg h (by omega))
   have c2 := cut_le h6 m (fun h hh => hg h (by omega))
   have q1 := qt_le h5 hgm
   have q2 := qt_le h6 hgm
   rw [s_140_l1, decide_eq_true (by omega), cond_true, ix_at (hl m (by omega))]
   simp only [Option.bind_some, p_quo h5 hgm, p_quo h6 hgm]
   rw [wr_of (x := b.rough - cut b.polish g m - qt b.polish (g m)) (by omega), wr_of (x := b.thick - cut b.eat g m - qt b.eat (g m)) (by omega), wr_of (by omega)]
   have := ih (m + 1) k (by omega) (by omega)
   rw [show b.rough - cut b.polish g m - qt b.polish (g m) = b.rough - cut b.polish g (m + 1) by rw [cut]; omega, show b.thick - cut b.eat g m - qt b.eat (g m) = b.thick - cut b.eat g (m + 1) by rw [cut]; omega]
   exact_mod_cast this
 have := key t 0 n (by omega) (by omega)
 simpa [cut, s_140] using this
theorem p_73 (hn : 100 ≤ n) {H : Nat} (hH : H ≤ 50) (c : Nat → Span) (hi : Bool) : s_73 n (lst H c) hi = some (lstI H (fun h => bif hi then (c h).high else (c h).low)) := by
 have key : ∀ (r m k : Nat), m + r = H → r < k → s_73_l1 (lst H c) hi k (m : Int) (lstI m (fun h => bif hi then (c h).high else (c h).low)) = some (lstI H (fun h => bif hi then (c h).high else (c h).low)) := by
  intro r
  induction r with
  | zero =>
   intro m k hm hk
   obtain ⟨k, rfl⟩ : ∃ k', k = k' + 1 := ⟨k - 1, by omega⟩
   have : m = H := by omega
   subst this
   rw [s_73_l1, decide_eq_false (by rw [lst_length]; omega), cond_false]
  | succ r ih =>
   intro m k hm hk
   obtain ⟨k, rfl⟩ : ∃ k', k = k' + 1 := ⟨k - 1, by omega⟩
   have := ih (m + 1) k (by omega) (by omega)
   rw [lstI_succ] at this
   have e1 : wr ((m : Int) + 1) = ((m + 1 : Nat) : Int) := by rw [wr_of (by omega)]; push_cast; rfl
   rw [s_73_l1, decide_eq_true (by rw [lst_length]; omega), cond_true, ix_at (lst_get (by omega)), e1]
   cases hi with
   | false =>
    simp only [Option.bind_some, cond_false] at this ⊢
    rw [app_of (by rw [lstI_length]; simp; omega), Option.bind_some]
    exact this
   | true =>
    simp only [Option.bind_some, cond_true] at this ⊢
    rw [app_of (by rw [lstI_length]; simp; omega), Option.bind_some]
    exact this
 exact key H 0 n (by omega) (by omega)
def loS (d : Drum) (b : Batch) (i t : Nat) : State := stateAt b (fun h => (bdAt d i h).low) t
def hiS (d : Drum) (b : Batch) (i t : Nat) : State := stateAt b (fun h => (bdAt d i h).high) t
def bOf (d : Drum) (b : Batch) (t i : Nat) : Bounds := ⟨⟨(hiS d b i t).rough, (loS d b i t).rough⟩, ⟨(hiS d b i t).thick, (loS d b i t).thick⟩⟩
def updB (x y : Bounds) : Bounds := ⟨⟨min x.rough.low y.rough.low, max x.rough.high y.rough.high⟩, ⟨min x.thick.low y.thick.low, max x.thick.high y.thick.high⟩⟩
def bnds (d : Drum) (b : Batch) (t : Nat) : Bounds := (idx d).foldl (fun s i => updB s (bOf d b t i)) (bOf d b t ((idx d).headD 0))
theorem updB_self (x : Bounds) : updB x x = x := by
 unfold updB
 ext <;> simp only <;> omega
theorem bdAt_pos (hd : d.ok) {i h : Nat} (hi : i ∈ idx d) (hh : h < hrs d) : 0 ≤ (bdAt d i h).low ∧ (bdAt d i h).low ≤ (bdAt d i h).high ∧ (bdAt d i h).high ≤ 1300 := by
 obtain ⟨m1, m2⟩ := idx_mem hi
 have hhr := hrs_le hd
 unfold PossI at m2
 simp only [Bool.and_eq_true, decide_eq_true_eq] at m2
 have h1 := fw_low (st := d.strips) (acidAt_ok hd m1) hd.ad h
 have h2 := bd_ok (acidAt_ok hd m1) hd.ad m2.2 hh
 simp only [Span.ne] at h2
 unfold bdAt
 omega
theorem p_118lo (hd : d.ok) (hn : 100 ≤ n) (hb : b.ok) {i : Nat} (hi : i ∈ idx d) (ht : t ≤ hrs d) : s_118 n b (t : Int) (fun z => s_85 n ⟨d, (i : Int), bdI d i⟩ z) = some (loS d b i t) := by
 have hhr := hrs_le hd
 exact p_118 hb hn (by omega) (fun h hh => p_85 (by omega)) (fun h hh => by have := bdAt_pos hd hi (show h < hrs d by omega); omega)
theorem p_118hi (hd : d.ok) (hn : 100 ≤ n) (hb : b.ok) {i : Nat} (hi : i ∈ idx d) (ht : t ≤ hrs d) : s_118 n b (t : Int) (fun z => s_86 n ⟨d, (i : Int), bdI d i⟩ z) = some (hiS d b i t) := by
 have hhr := hrs_le hd
 exact p_118 hb hn (by omega) (fun h hh => p_86 (by omega)) (fun h hh => by have := bdAt_pos hd hi (show h < hrs d by omega); omega)
theorem p_140lo (hd : d.ok) (hn : 100 ≤ n) (hb : b.ok) {i : Nat} (hi : i ∈ idx d) (ht : t ≤ hrs d) : s_140 n b (lstI (hrs d) (fun h => (bdAt d i h).low)) (t : Int) = some (loS d b i t) := by
 have hhr := hrs_le hd
 exact p_140 hb hn (by omega) (fun h hh => lstI_get (by omega)) (fun h hh => by have := bdAt_pos hd hi (show h < hrs d by omega); omega)
theorem p_140hi (hd : d.ok) (hn : 100 ≤ n) (hb : b.ok) {i : Nat} (hi : i ∈ idx d) (ht : t ≤ hrs d) : s_140 n b (lstI (hrs d) (fun h => (bdAt d i h).high)) (t : Int) = some (hiS d b i t) := by
 have hhr := hrs_le hd
 exact p_140 hb hn (by omega) (fun h hh => lstI_get (by omega)) (fun h hh => by have := bdAt_pos hd hi (show h < hrs d by omega); omega)
theorem p_120 (hd : d.ok) (hn : 100 ≤ n) (hb : b.ok) (hne : idx d ≠ []) (ht : t ≤ hrs d) : s_120 n (filL d) b (t : Int) = some (bnds d b t) := by
 have hil := idx_len hd
 obtain ⟨i0, r0, hi0⟩ : ∃ i r, idx d = i :: r := by
  cases h : idx d with
  | nil => exact absurd h hne
  | cons i r => exact ⟨i, r, rfl⟩
 have hfl : (filL d).length = (idx d).length := by simp [filL]
 have rest : ∀ (r : List Nat) (p k : Nat) (x : Bounds), (idx d).drop p = r → 0 < p → p ≤ (idx d).length → (idx d).length < k + p → s_120_l1 n (filL d) b (t : Int) k (p : Int) x = some (r.foldl (fun s i => updB s (bOf d b t i)) x) := by
  intro r
  induction r with
  | nil =>
   intro p k x hr hp hp2 hk
   have hpl : (idx d).length ≤ p := List.drop_eq_nil_iff.1 hr
   obtain ⟨k, rfl⟩ : ∃ k', k = k' + 1 := ⟨k - 1, by omega⟩
   rw [s_120_l1, decide_eq_false (by omega), cond_false]
   rfl
  | cons j r ih =>
   intro p k x hr hp hp2 hk
   have hpl : p < (idx d).length := by
    rcases Nat.lt_or_ge p (idx d).length with h | h
    ·exact h
    ·rw [List.drop_eq_nil_of_le h] at hr; cases hr
   obtain ⟨k, rfl⟩ : ∃ k', k = k' + 1 := ⟨k - 1, by omega⟩
   rw [List.drop_eq_getElem_cons hpl] at hr
   obtain ⟨hj, hr2⟩ := List.cons.inj hr
   have hjm : j ∈ idx d := by rw [← hj]; exact List.getElem_mem hpl
   have gx : ix (filL d) (p : Int) = some ⟨d, (j : Int), bdI d j⟩ := ix_at (by unfold filL; rw [List.getElem?_map, List.getElem?_eq_getElem hpl, hj]; rfl)
   rw [s_120_l1, decide_eq_true (by omega), cond_true, gx, Option.bind_some, p_118lo hd hn hb hjm ht, Option.bind_some, p_118hi hd hn hb hjm ht, Option.bind_some, decide_eq_false (by omega), cond_false, wr_of (by omega)]
   exact_mod_cast ih (p + 1) k _ hr2 (by omega) (by omega) (by omega)
 obtain ⟨n', hn'⟩ : ∃ n', n = n' + 1 := ⟨n - 1, by omega⟩
 have him : i0 ∈ idx d := by rw [hi0]; exact List.mem_cons_self
 have g0 : ix (filL d) 0 = some ⟨d, (i0 : Int), bdI d i0⟩ := ix_at (i := 0) (by unfold filL; rw [hi0]; rfl)
 have h0 : s_120_l1 n (filL d) b (t : Int) (n' + 1) 0 (Bounds.mk (Span.mk 0 0) (Span.mk 0 0)) = s_120_l1 n (filL d) b (t : Int) n' 1 (bOf d b t i0) := by
  rw [s_120_l1, decide_eq_true (by rw [hfl, hi0]; simp), cond_true, g0, Option.bind_some, p_118lo hd hn hb him ht, Option.bind_some, p_118hi hd hn hb him ht, Option.bind_some]
  rfl
 unfold s_120
 rw [show s_120_l1 n (filL d) b (t : Int) n 0 (Bounds.mk (Span.mk 0 0) (Span.mk 0 0)) = s_120_l1 n (filL d) b (t : Int) (n' + 1) 0 (Bounds.mk (Span.mk 0 0) (Span.mk 0 0)) by rw [hn'], h0]
 have h1 := rest r0 1 n' (bOf d b t i0) (by rw [hi0]; rfl) (by omega) (by rw [hi0]; simp) (by omega)
 rw [show ((1 : Nat) : Int) = 1 from rfl] at h1
 rw [h1]
 unfold bnds
 rw [hi0]
 simp only [List.headD_cons, List.foldl_cons, updB_self]
theorem p_94 (hd : d.ok) (hn : 100 ≤ n) {j : Nat} (hj : d.batches[j]? = some b) (hne : idx d ≠ []) (ht : t ≤ hrs d) : s_94 n d (j : Int) (t : Int) = some (bnds d b t) := by
 have hil := idx_len hd
 have hhr := hrs_le hd
 have hb := hd.bt b (List.mem_of_getElem? hj)
 obtain ⟨i0, r0, hi0⟩ : ∃ i r, idx d = i :: r := by
  cases h : idx d with
  | nil => exact absurd h hne
  | cons i r => exact ⟨i, r, rfl⟩
 have hfl : (intL (idx d)).length = (idx d).length := by simp [intL]
 have step : ∀ (p k : Nat) (x : Bounds) (i : Nat), (idx d)[p]? = some i → s_94_l1 n d (j : Int) (t : Int) (intL (idx d)) (k + 1) (p : Int) x = s_94_l1 n d (j : Int) (t : Int) (intL (idx d)) k ((p : Int) + 1) (updB (bif decide ((p : Int) = 0) then bOf d b t i else x) (bOf d b t i)) := by
  intro p k x i hi
  have hpl := (List.getElem?_eq_some_iff.1 hi).1
  have him : i ∈ idx d := List.mem_of_getElem? hi
  obtain ⟨m1, m2⟩ := idx_mem him
  have gx : ix (intL (idx d)) (p : Int) = some (i : Int) := ix_at (by unfold intL; rw [List.getElem?_map, hi]; rfl)
  have e1 : s_73 n (bdI d i) false = some (lstI (hrs d) (fun h => (bdAt d i h).low)) := p_73 hn (by omega) (bdAt d i) false
  have e2 : s_73 n (bdI d i) true = some (lstI (hrs d) (fun h => (bdAt d i h).high)) := p_73 hn (by omega) (bdAt d i) true
  rw [s_94_l1, decide_eq_true (by omega), cond_true, gx, Option.bind_some, q_90 hd hn m1, m2]
  simp only [Option.bind_some, cond_true, ix_at hj, e1, e2, p_140lo hd hn hb him ht, p_140hi hd hn hb him ht]
  unfold s_94_j4
  rw [wr_of (by omega)]
  cases decide ((p : Int) = 0) <;> rfl
 have rest : ∀ (r : List Nat) (p k : Nat) (x : Bounds), (idx d).drop p = r → 0 < p → p ≤ (idx d).length → (idx d).length < k + p → s_94_l1 n d (j : Int) (t : Int) (intL (idx d)) k (p : Int) x = some (r.foldl (fun s i => updB s (bOf d b t i)) x) := by
  intro r
  induction r with
  | nil =>
   intro p k x hr hp hp2 hk
   have hpl : (idx d).length ≤ p := List.drop_eq_nil_iff.1 hr
   obtain ⟨k, rfl⟩ : ∃ k', k = k' + 1 := ⟨k - 1, by omega⟩
   rw [s_94_l1, decide_eq_false (by omega), cond_false]
   rfl
  | cons q r ih =>
   intro p k x hr hp hp2 hk
   have hpl : p < (idx d).length := by
    rcases Nat.lt_or_ge p (idx d).length with h | h
    ·exact h
    ·rw [List.drop_eq_nil_of_le h] at hr; cases hr
   obtain ⟨k, rfl⟩ : ∃ k', k = k' + 1 := ⟨k - 1, by omega⟩
   rw [List.drop_eq_getElem_cons hpl] at hr
   obtain ⟨hq, hr2⟩ := List.cons.inj hr
   rw [step p k x q (by rw [List.getElem?_eq_getElem hpl, hq]), decide_eq_false (by omega), cond_false]
   exact_mod_cast ih (p + 1) k _ hr2 (by omega) (by omega) (by omega)
 obtain ⟨n', hn'⟩ : ∃ n', n = n' + 1 := ⟨n - 1, by omega⟩
 have h0 := step 0 n' (Bounds.mk (Span.mk 0 0) (Span.mk 0 0)) i0 (by rw [hi0]; rfl)
 rw [show decide (((0 : Nat) : Int) = 0) = true from rfl, cond_true, updB_self] at h0
 unfold s_94
 rw [p_80 hd hn, Option.bind_some]
 rw [show s_94_l1 n d (j : Int) (t : Int) (intL (idx d)) n 0 (Bounds.mk (Span.mk 0 0) (Span.mk 0 0)) = s_94_l1 n d (j : Int) (t : Int) (intL (idx d)) (n' + 1) ((0 : Nat) : Int) (Bounds.mk (Span.mk 0 0) (Span.mk 0 0)) by rw [hn']; rfl, h0]
 have h1 := rest r0 1 n' (bOf d b t i0) (by rw [hi0]; rfl) (by omega) (by rw [hi0]; simp) (by omega)
 rw [show (((0 : Nat) : Int) + 1) = ((1 : Nat) : Int) from rfl, h1]
 unfold bnds
 rw [hi0]
 simp only [List.headD_cons, List.foldl_cons, updB_self]
end
end Go.Proofs.YtohmhlkdgfcaeaaGreatDoor
namespace Go.Proofs.YtohmhlkdgfcaeaaGreatDoor
open Go Go.RowKit
def lastH (p : Nat → Bool) : Nat → Int
 | 0 => -1
 | m + 1 => bif p m then (m : Int) else lastH p m
def smP (d : Drum) (b : Batch) (t : Nat) : Bool := decide ((bnds d b t).rough.high ≤ b.goal)
def thP (d : Drum) (b : Batch) (t : Nat) : Bool := decide (b.least ≤ (bnds d b t).thick.low)
section
variable {n : Nat} {d : Drum} {b : Batch}
theorem fil_head (hne : idx d ≠ []) : ∃ i0 : Nat, ix (filL d) 0 = some ⟨d, (i0 : Int), bdI d i0⟩ := by
 obtain ⟨i0, r0, hi0⟩ : ∃ i r, idx d = i :: r := by
  cases h : idx d with
  | nil => exact absurd h hne
  | cons i r => exact ⟨i, r, rfl⟩
 exact ⟨i0, ix_at (i := 0) (by unfold filL; rw [hi0]; rfl)⟩
theorem p_92 (hd : d.ok) (hn : 100 ≤ n) (hb : b.ok) (hne : idx d ≠ []) : s_92 n (filL d) b = some (firstH (smP d b) (hrs d + 1) 0) := by
 have hhr := hrs_le hd
 have hH := hrs_eq hd
 obtain ⟨i0, g0⟩ := fil_head hne
 have key : ∀ (r m k : Nat), m + r = hrs d + 1 → r < k → s_92_l1 n (filL d) b ⟨d, (i0 : Int), bdI d i0⟩ k (m : Int) = some (firstH (smP d b) r m) := by
  intro r
  induction r with
  | zero =>
   intro m k hm hk
   obtain ⟨k, rfl⟩ : ∃ k', k = k' + 1 := ⟨k - 1, by omega⟩
   rw [s_92_l1, wr_of (x := d.hours + 1) (by omega), decide_eq_false (by omega), cond_false]
   rfl
  | succ r ih =>
   intro m k hm hk
   obtain ⟨k, rfl⟩ : ∃ k', k = k' + 1 := ⟨k - 1, by omega⟩
   rw [s_92_l1, wr_of (x := d.hours + 1) (by omega), decide_eq_true (by omega), cond_true, p_120 hd hn hb hne (by omega), Option.bind_some, wr_of (by omega), firstH]
   have := ih (m + 1) k (by omega) (by omega)
   push_cast at this
   rw [this]
   show (bif smP d b m then _ else _) = _
   cases smP d b m <;> rfl
 unfold s_92
 rw [g0, Option.bind_some]
 exact key (hrs d + 1) 0 n (by omega) (by omega)
theorem p_93 (hd : d.ok) (hn : 100 ≤ n) (hb : b.ok) (hne : idx d ≠ []) : s_93 n (filL d) b = some (lastH (thP d b) (hrs d + 1)) := by
 have hhr := hrs_le hd
 have hH := hrs_eq hd
 obtain ⟨i0, g0⟩ := fil_head hne
 have key : ∀ (m k : Nat), m ≤ hrs d + 1 → m < k → s_93_l1 n (filL d) b k ((m : Int) - 1) = some (lastH (thP d b) m) := by
  intro m
  induction m with
  | zero =>
   intro k hm hk
   obtain ⟨k, rfl⟩ : ∃ k', k = k' + 1 := ⟨k - 1, by omega⟩
   rw [s_93_l1, decide_eq_false (by omega), cond_false]
   rfl
  | succ m ih =>
   intro k hm hk
   obtain ⟨k, rfl⟩ : ∃ k', k = k' + 1 := ⟨k - 1, by omega⟩
   have e0 : (((m + 1 : Nat) : Int) - 1) = (m : Int) := by omega
   rw [s_93_l1, e0, decide_eq_true (by omega), cond_true, p_120 hd hn hb hne (by omega), Option.bind_some, wr_of (by omega), lastH, ih k (by omega) (by omega)]
   show (bif thP d b m then _ else _) = _
   cases thP d b m <;> rfl
 unfold s_93
 rw [g0, Option.bind_some]
 have := key (hrs d + 1) n (by omega) (by omega)
 rw [show (((hrs d + 1 : Nat) : Int) - 1) = d.hours by omega] at this
 exact this
theorem p_33 (hd : d.ok) (hn : 100 ≤ n) {j : Nat} (hj : d.batches[j]? = some b) (hne : idx d ≠ []) : s_33 n d (j : Int) = some (firstH (smP d b) (hrs d + 1) 0) := by
 have hhr := hrs_le hd
 have hH := hrs_eq hd
 have key : ∀ (r m k : Nat), m + r = hrs d + 1 → r < k → s_33_l1 n d (j : Int) k (m : Int) = some (firstH (smP d b) r m) := by
  intro r
  induction r with
  | zero =>
   intro m k hm hk
   obtain ⟨k, rfl⟩ : ∃ k', k = k' + 1 := ⟨k - 1, by omega⟩
   rw [s_33_l1, decide_eq_false (by omega), cond_false]
   rfl
  | succ r ih =>
   intro m k hm hk
   obtain ⟨k, rfl⟩ : ∃ k', k = k' + 1 := ⟨k - 1, by omega⟩
   rw [s_33_l1, decide_eq_true (by omega), cond_true, p_94 hd hn hj hne (by omega), Option.bind_some, ix_at hj, Option.bind_some, wr_of (by omega), firstH]
   have := ih (m + 1) k (by omega) (by omega)
   push_cast at this
   rw [this]
   show (bif smP d b m then _ else _) = _
   cases smP d b m <;> rfl
 unfold s_33
 exact key (hrs d + 1) 0 n (by omega) (by omega)
theorem p_34 (hd : d.ok) (hn : 100 ≤ n) {j : Nat} (hj : d.batches[j]? = some b) (hne : idx d ≠ []) : s_34 n d (j : Int) = some (lastH (thP d b) (hrs d + 1)) := by
 have hhr := hrs_le hd
 have hH := hrs_eq hd
 have key : ∀ (m k : Nat), m ≤ hrs d + 1 → m < k → s_34_l1 n d (j : Int) k ((m : Int) - 1) = some (lastH (thP d b) m) := by
  intro m
  induction m with
  | zero =>
   intro k hm hk
   obtain ⟨k, rfl⟩ : ∃ k', k = k' + 1 := ⟨k - 1, by omega⟩
   rw [s_34_l1, decide_eq_false (by omega), cond_false]
   rfl
  | succ m ih =>
   intro k hm hk
   obtain ⟨k, rfl⟩ : ∃ k', k = k' + 1 := ⟨k - 1, by omega⟩
   have e0 : (((m + 1 : Nat) : Int) - 1) = (m : Int) := by omega
   rw [s_34_l1, e0, decide_eq_true (by omega), cond_true, p_94 hd hn hj hne (by omega), Option.bind_some, ix_at hj, Option.bind_some, wr_of (by omega), lastH, ih k (by omega) (by omega)]
   show (bif thP d b m then _ else _) = _
   cases thP d b m <;> rfl
 unfold s_34
 have := key (hrs d + 1) n (by omega) (by omega)
 rw [show (((hrs d + 1 : Nat) : Int) - 1) = d.hours by omega] at this
 exact this
theorem err_zero {fine : Bool} (he : err d fine = 0) : okD d = true ∧ fine = true ∧ idx d ≠ [] := by
 unfold err at he
 cases h : okD d <;> cases h2 : fine <;> rw [h, h2] at he <;> simp at he
 refine ⟨rfl, rfl, fun h3 => ?_⟩
 rw [h3] at he
 simp at he
end
end Go.Proofs.YtohmhlkdgfcaeaaGreatDoor
namespace Go.Proofs.YtohmhlkdgfcaeaaGreatDoor
open Go Go.RowKit
set_option maxRecDepth 4000
attribute [local irreducible] W Ops GS GSG
def s_5_j4 (n : Nat) (v103 : (Int × Int)) (v113 : Int) (v114 : Int) : Option (Bool) := bif (!decide (v113 = 0)) then ( bif (decide (v103.2 = v113)) then ( bif (decide (v103.1 = 0)) then ( (s_24 n ).bind fun v115 => some (v115) ) else ( some (false) ) ) else ( some (false) ) ) else ( bif (decide (v103.2 = 0)) then ( bif (decide (v103.1 = v114)) then ( (s_24 n ).bind fun v116 => some (v116) ) else (
 some (false) ) ) else ( some (false) ) )
def s_5_j3 (n : Nat) (v0 : Drum) (v1 : Int) (v2 : Int) (v103 : (Int × Int)) (v111 : Int) : Option (Bool) := bif (decide (v111 = 0)) then ( (s_37 n v0 v1 v2).bind fun v112 => bif (decide (v112 < 0)) then ( s_5_j4 n v103 5 v112 ) else ( s_5_j4 n v103 v111 v112 ) ) else ( s_5_j4 n v103 v111 0 )
def s_5_j2 (n : Nat) (v0 : Drum) (v1 : Int) (v2 : Int) (v103 : (Int × Int)) (v108 : Int) (v110 : Bool) : Option (Bool) := bif v110 then ( s_5_j3 n v0 v1 v2 v103 7 ) else ( s_5_j3 n v0 v1 v2 v103 v108 )
def s_5_j1 (n : Nat) (v0 : Drum) (v1 : Int) (v2 : Int) (v103 : (Int × Int)) (v108 : Int) : Option (Bool) := bif (decide (v108 = 0)) then ( (s_36 n v0 v1).bind fun v109 => s_5_j2 n v0 v1 v2 v103 v108 v109 ) else ( s_5_j2 n v0 v1 v2 v103 v108 false )
def s_5 (n : Nat) (v0 : Drum) (v1 : Int) (v2 : Int) : Option (Bool) := (s_23 n v0).bind fun v101 => bif (!v101) then ( (s_24 n ).bind fun v102 => some (v102) ) else ( (s_35 n v0 v1 v2).bind fun v103 => bif (decide (0 ≤ v1)) then ( bif (decide (v1 < v0.hours)) then ( bif (decide (v1 < v2)) then ( (s_27 n v0 (decide (v2 ≤ v0.hours))).bind fun v104 => s_5_j1 n v0 v1 v2 v103 v104 ) else (
 (s_27 n v0 false).bind fun v105 => s_5_j1 n v0 v1 v2 v103 v105 ) ) else ( (s_27 n v0 false).bind fun v106 => s_5_j1 n v0 v1 v2 v103 v106 ) ) else ( (s_27 n v0 false).bind fun v107 => s_5_j1 n v0 v1 v2 v103 v107 ) )
theorem c_5 (n : Nat) (v0 : Drum) (v1 : Int) (v2 : Int) {r : (Bool)} (h : s_5 n v0 v1 v2 = some r) :
  Fun Tryz.prog 5 [.agg (cDrum v0), .val (.int .i64 v1), .val (.int .i64 v2)] (.ret (.b r)) := by
 unfold s_5 at h
 refine enterW 80 Tryz.func5 q q q ?_
 intro w0 F0
 change W _ _ (Ev [(0, .pv (.agg (cDrum v0))), (1, .pv (.i v1)), (2, .pv (.i v2))]) _
 refine W.seq<|W.region<|ob (g_box q q q q q) q q<|va q q q q q<|on0<|Sq.n<|W.seq<|W.seq<|W.region<|ov (g_loadA q q q q q ag_27 sz_27 q q) q ?_
 obtain ⟨v101, e101, h⟩ := bind_some h
 refine ov (g_call q q q ca_23 q (c_23 _ _ e101)) q<|ov (g_not q q q q) q<|on0<|Sq.n<|W.cond (b := (!v101)) q (fun hc => ?_) (fun hc => ?_)
 ·have h := bif_t h hc
  refine W.seq<|W.region ?_
  obtain ⟨v102, e102, h⟩ := bind_some h
  refine ov (g_call q q q ca_24 q (c_24 _  e102)) q<|va q q q q q<|on0<|Sq.n<|W.ret<|Sq.r ?_
  obtain rfl := Option.some.inj h
  exact Fin.r q (.cons (.tmp _ _ q) .nil) q
 ·have h := bif_f h hc
  refine W.skip<|Sq.n<|W.seq<|W.region<|ov (g_loadA q q q q q ag_27 sz_27 q q) q<|vm q q q q q<|vm q q q q q ?_
  obtain ⟨v103, e103, h⟩ := bind_some h
  refine ov (g_call q q q ca_35 q (c_35 _ _ _ _ e103)) q<|vm q q q q q<|ov (g_extract q q q q q) q<|ov (g_extract q q q q q) q<|va q q q q q<|va q q q q q<|on0<|Sq.n<|W.seqJ (σ := Int) (fun s => (⟨[(1, .pv (.i v1)), (2, .pv (.i v2)), (3, .box 3 0), (7, .pv (.i v103.1)), (8, .pv (.i v103.2)), (9, .pv (.i s))], [(3, 27, [.pv (.sl (List.map cAcid v0.acids)), .pv (.i v0.known), .pv (.i v0.hours), .pv (.sl (List.map eI v0.adds)), .pv (.sl (List.map cStrip v0.strips)), .pv (.sl (List.map cBatch v0.batches))])], []⟩ : Env)) (fun s => s_5_j1 n v0 v1 v2 v103 s = some r) ?_ ?_
  ·refine W.region<|ov (g_loadA q q q q q ag_27 sz_27 q q) q<|vm q q q q q<|ov (g_geq q q q q q) q<|vm q q q q q<|Ops.split 25 q (fun hb => ?_) (fun hb => ?_)
   ·have h := bif_t h hb
    refine on q q q<|vm q q q q q<|on q q q<|ov (g_fld q q q q fl_27_2) q<|on q q q<|ov (g_load1 q q q q q q ag_3) q<|on q q q<|ov (g_lss q q q q q) q<|vt q q q q q q<|vm q q q q q<|Ops.split 31 q (fun hb => ?_) (fun hb => ?_)
    ·have h := bif_t h hb
     refine on q q q<|vm q q q q q<|on q q q<|vm q q q q q<|on q q q<|ov (g_gtr q q q q q) q<|vt q q q q q q<|vm q q q q q<|Ops.split 36 q (fun hb => ?_) (fun hb => ?_)
     ·have h := bif_t h hb
      refine on q q q<|vm q q q q q<|on q q q<|ov (g_fld q q q q fl_27_2) q<|on q q q<|ov (g_load1 q q q q q q ag_3) q<|on q q q<|ov (g_leq q q q q q) q<|vt q q q q q q ?_
      obtain ⟨v104, e104, h⟩ := bind_some h
      refine ov (g_call q q q ca_27 q (c_27 _ _ _ e104)) q<|va q q q q q<|on0<|Sq.n<|⟨v104, h, has_mk ⟨q, q, q, q, q, q, trivial⟩ ⟨q, trivial⟩ trivial q⟩
     ·have h := bif_f h hb
      refine o2 q q q q q q<|o2 q q q q q q<|o2 q q q q q q<|o2 q q q q q q<|vf q q q q q q ?_
      obtain ⟨v105, e105, h⟩ := bind_some h
      refine ov (g_call q q q ca_27 q (c_27 _ _ _ e105)) q<|va q q q q q<|on0<|Sq.n<|⟨v105, h, has_mk ⟨q, q, q, q, q, q, trivial⟩ ⟨q, trivial⟩ trivial q⟩
    ·have h := bif_f h hb
     refine o2 q q q q q q<|o2 q q q q q q<|o2 q q q q q q<|vf q q q q q q<|vm q q q q q<|o2 q q q q q q<|o2 q q q q q q<|o2 q q q q q q<|o2 q q q q q q<|vf q q q q q q ?_
     obtain ⟨v106, e106, h⟩ := bind_some h
     refine ov (g_call q q q ca_27 q (c_27 _ _ _ e106)) q<|va q q q q q<|on0<|Sq.n<|⟨v106, h, has_mk ⟨q, q, q, q, q, q, trivial⟩ ⟨q, trivial⟩ trivial q⟩
   ·have h := bif_f h hb
    refine o2 q q q q q q<|o2 q q q q q q<|o2 q q q q q q<|o2 q q q q q q<|vf q q q q q q<|vm q q q q q<|o2 q q q q q q<|o2 q q q q q q<|o2 q q q q q q<|vf q q q q q q<|vm q q q q q<|o2 q q q q q q<|o2 q q q q q q<|o2 q q q q q q<|o2 q q q q q q<|vf q q q q q q ?_
    obtain ⟨v107, e107, h⟩ := bind_some h
    refine ov (g_call q q q ca_27 q (c_27 _ _ _ e107)) q<|va q q q q q<|on0<|Sq.n<|⟨v107, h, has_mk ⟨q, q, q, q, q, q, trivial⟩ ⟨q, trivial⟩ trivial q⟩
  ·rintro v108 h
   change s_5_j1 n v0 v1 v2 v103 v108 = some r at h
   unfold s_5_j1 at h
   change W _ _ (⟨[(1, .pv (.i v1)), (2, .pv (.i v2)), (3, .box 3 0), (7, .pv (.i v103.1)), (8, .pv (.i v103.2)), (9, .pv (.i v108))], [(3, 27, [.pv (.sl (List.map cAcid v0.acids)), .pv (.i v0.known), .pv (.i v0.hours), .pv (.sl (List.map eI v0.adds)), .pv (.sl (List.map cStrip v0.strips)), .pv (.sl (List.map cBatch v0.batches))])], []⟩ : Env) _
   refine W.seqJ (σ := Int) (fun s => (⟨[(1, .pv (.i v1)), (2, .pv (.i v2)), (3, .box 3 0), (7, .pv (.i v103.1)), (8, .pv (.i v103.2)), (9, .pv (.i s))], [(3, 27, [.pv (.sl (List.map cAcid v0.acids)), .pv (.i v0.known), .pv (.i v0.hours), .pv (.sl (List.map eI v0.adds)), .pv (.sl (List.map cStrip v0.strips)), .pv (.sl (List.map cBatch v0.batches))])], []⟩ : Env)) (fun s => s_5_j3 n v0 v1 v2 v103 s = some r) ?_ ?_
   ·refine W.seqJ (σ := Bool) (fun s => (⟨[(1, .pv (.i v1)), (2, .pv (.i v2)), (3, .box 3 0), (7, .pv (.i v103.1)), (8, .pv (.i v103.2)), (9, .pv (.i v108)), (49, .pv (.b s))], [(3, 27, [.pv (.sl (List.map cAcid v0.acids)), .pv (.i v0.known), .pv (.i v0.hours), .pv (.sl (List.map eI v0.adds)), .pv (.sl (List.map cStrip v0.strips)), .pv (.sl (List.map cBatch v0.batches))])], []⟩ : Env)) (fun s => s_5_j2 n v0 v1 v2 v103 v108 s = some r) ?_ ?_
    ·refine W.region<|vm q q q q q<|ov (g_eql q q q q q) q<|vm q q q q q<|Ops.split 45 q (fun hb => ?_) (fun hb => ?_)
     ·have h := bif_t h hb
      refine on q q q<|ov (g_loadA q q q q q ag_27 sz_27 q q) q<|on q q q<|vm q q q q q<|on q q q ?_
      obtain ⟨v109, e109, h⟩ := bind_some h
      refine ov (g_call q q q ca_36 q (c_36 _ _ _ e109)) q<|vt q q q q q q<|on0<|Sq.n<|⟨v109, h, has_mk ⟨q, q, q, q, q, q, q, trivial⟩ ⟨q, trivial⟩ trivial q⟩
     ·have h := bif_f h hb
      refine o2 q q q q q q<|o2 q q q q q q<|o2 q q q q q q<|vf q q q q q q<|on0<|Sq.n<|⟨false, h, has_mk ⟨q, q, q, q, q, q, q, trivial⟩ ⟨q, trivial⟩ trivial q⟩
    ·rintro v110 h
     change s_5_j2 n v0 v1 v2 v103 v108 v110 = some r at h
     unfold s_5_j2 at h
     change W _ _ (⟨[(1, .pv (.i v1)), (2, .pv (.i v2)), (3, .box 3 0), (7, .pv (.i v103.1)), (8, .pv (.i v103.2)), (9, .pv (.i v108)), (49, .pv (.b v110))], [(3, 27, [.pv (.sl (List.map cAcid v0.acids)), .pv (.i v0.known), .pv (.i v0.hours), .pv (.sl (List.map eI v0.adds)), .pv (.sl (List.map cStrip v0.strips)), .pv (.sl (List.map cBatch v0.batches))])], []⟩ : Env) _
     refine W.cond (b := v110) q (fun hc => ?_) (fun hc => ?_)
     ·have h := bif_t h hc
      refine W.region<|va q q q q q<|on0<|Sq.n<|⟨7, h, has_mk ⟨q, q, q, q, q, q, trivial⟩ ⟨q, trivial⟩ trivial q⟩
     ·have h := bif_f h hc
      refine W.skip<|Sq.n<|⟨v108, h, has_mk ⟨q, q, q, q, q, q, trivial⟩ ⟨q, trivial⟩ trivial q⟩
   ·rintro v111 h
    change s_5_j3 n v0 v1 v2 v103 v111 = some r at h
    unfold s_5_j3 at h
    change W _ _ (⟨[(1, .pv (.i v1)), (2, .pv (.i v2)), (3, .box 3 0), (7, .pv (.i v103.1)), (8, .pv (.i v103.2)), (9, .pv (.i v111))], [(3, 27, [.pv (.sl (List.map cAcid v0.acids)), .pv (.i v0.known), .pv (.i v0.hours), .pv (.sl (List.map eI v0.adds)), .pv (.sl (List.map cStrip v0.strips)), .pv (.sl (List.map cBatch v0.batches))])], []⟩ : Env) _
    refine W.seq<|W.region<|va q q q q q<|on0<|Sq.n<|W.seqJ (σ := Int × Int) (fun s => (Ev [(7, .pv (.i v103.1)), (8, .pv (.i v103.2)), (9, .pv (.i s.1)), (10, .pv (.i s.2))])) (fun s => s_5_j4 n v103 s.1 s.2 = some r) ?_ ?_
    ·refine W.seq<|W.region<|vm q q q q q<|ov (g_eql q q q q q) q<|on0<|Sq.n<|W.cond (b := (decide (v111 = 0))) q (fun hc => ?_) (fun hc => ?_)
     ·have h := bif_t h hc
      refine W.seq<|W.region<|ov (g_loadA q q q q q ag_27 sz_27 q q) q<|vm q q q q q<|vm q q q q q ?_
      obtain ⟨v112, e112, h⟩ := bind_some h
      refine ov (g_call q q q ca_37 q (c_37 _ _ _ _ e112)) q<|va q q q q q<|on0<|Sq.n<|W.seq<|W.region<|vm q q q q q<|ov (g_lss q q q q q) q<|on0<|Sq.n<|W.cond (b := (decide (v112 < 0))) q (fun hc => ?_) (fun hc => ?_)
      ·have h := bif_t h hc
       refine W.region<|va q q q q q<|on0<|Sq.n<|⟨(5, v112), h, has_mk ⟨q, q, q, q, trivial⟩ trivial trivial q⟩
      ·have h := bif_f h hc
       refine W.skip<|Sq.n<|⟨(v111, v112), h, has_mk ⟨q, q, q, q, trivial⟩ trivial trivial q⟩
     ·have h := bif_f h hc
      refine W.skip<|Sq.n<|⟨(v111, 0), h, has_mk ⟨q, q, q, q, trivial⟩ trivial trivial q⟩
    ·rintro ⟨v113, v114⟩ h
     change s_5_j4 n v103 v113 v114 = some r at h
     unfold s_5_j4 at h
     change W _ _ (Ev [(7, .pv (.i v103.1)), (8, .pv (.i v103.2)), (9, .pv (.i v113)), (10, .pv (.i v114))]) _
     refine W.seq<|W.seq<|W.region<|vm q q q q q<|ov (g_neq q q q q q) q<|on0<|Sq.n<|W.cond (b := (!decide (v113 = 0))) q (fun hc => ?_) (fun hc => ?_)
     ·have h := bif_t h hc
      refine W.seq<|W.region<|vm q q q q q<|vm q q q q q<|ov (g_eql q q q q q) q<|vm q q q q q<|Ops.split 63 q (fun hb => ?_) (fun hb => ?_)
      ·have h := bif_t h hb
       refine on q q q<|vm q q q q q<|on q q q<|ov (g_eql q q q q q) q<|vt q q q q q q<|vm q q q q q<|Ops.split 67 q (fun hb => ?_) (fun hb => ?_)
       ·have h := bif_t h hb
        refine on q q q ?_
        obtain ⟨v115, e115, h⟩ := bind_some h
        refine ov (g_call q q q ca_24 q (c_24 _  e115)) q<|vt q q q q q q<|va q q q q q<|on0<|Sq.n<|W.ret<|Sq.r ?_
        obtain rfl := Option.some.inj h
        exact Fin.r q (.cons (.tmp _ _ q) .nil) q
       ·have h := bif_f h hb
        refine o2 q q q q q q<|vf q q q q q q<|va q q q q q<|on0<|Sq.n<|W.ret<|Sq.r ?_
        obtain rfl := Option.some.inj h
        exact Fin.r q (.cons (.tmp _ _ q) .nil) q
      ·have h := bif_f h hb
       refine o2 q q q q q q<|o2 q q q q q q<|vf q q q q q q<|vm q q q q q<|o2 q q q q q q<|vf q q q q q q<|va q q q q q<|on0<|Sq.n<|W.ret<|Sq.r ?_
       obtain rfl := Option.some.inj h
       exact Fin.r q (.cons (.tmp _ _ q) .nil) q
     ·have h := bif_f h hc
      refine W.skip<|Sq.n<|W.seq<|W.region<|vm q q q q q<|ov (g_eql q q q q q) q<|vm q q q q q<|Ops.split 72 q (fun hb => ?_) (fun hb => ?_)
      ·have h := bif_t h hb
       refine on q q q<|vm q q q q q<|on q q q<|vm q q q q q<|on q q q<|ov (g_eql q q q q q) q<|vt q q q q q q<|vm q q q q q<|Ops.split 77 q (fun hb => ?_) (fun hb => ?_)
       ·have h := bif_t h hb
        refine on q q q ?_
        obtain ⟨v116, e116, h⟩ := bind_some h
        refine ov (g_call q q q ca_24 q (c_24 _  e116)) q<|vt q q q q q q<|va q q q q q<|on0<|Sq.n<|W.ret ?_
        obtain rfl := Option.some.inj h
        exact Fin.r q (.cons (.tmp _ _ q) .nil) q
       ·have h := bif_f h hb
        refine o2 q q q q q q<|vf q q q q q q<|va q q q q q<|on0<|Sq.n<|W.ret ?_
        obtain rfl := Option.some.inj h
        exact Fin.r q (.cons (.tmp _ _ q) .nil) q
      ·have h := bif_f h hb
       refine o2 q q q q q q<|o2 q q q q q q<|o2 q q q q q q<|vf q q q q q q<|vm q q q q q<|o2 q q q q q q<|vf q q q q q q<|va q q q q q<|on0<|Sq.n<|W.ret ?_
       obtain rfl := Option.some.inj h
       exact Fin.r q (.cons (.tmp _ _ q) .nil) q
end Go.Proofs.YtohmhlkdgfcaeaaGreatDoor
namespace Go.Proofs.YtohmhlkdgfcaeaaGreatDoor
open Go Go.RowKit
theorem loop_app {α β γ : Type} (l : List α) (f : Nat → α → Option β) (g : α → β) (hf : ∀ i x, l[i]? = some x → f i x = some (g x)) (L : Nat → Int → List β → Option γ) (fin : List β → Option γ)
  (h : ∀ (k i : Nat) (s : List β), L (k + 1) (i : Int) s = bif decide ((i : Int) < ((l.length : Nat) : Int)) then (ix l (i : Int)).bind (fun x => (f i x).bind fun y => (app s [y]).bind fun s' => L k (wr ((i : Int) + 1)) s') else fin s)
  (hl : l.length ≤ 1000) {n : Nat} (hn : l.length < n) : L n 0 [] = fin (l.map g) := by
 have h1 := loop_list l L (fun i x s K => (f i x).bind fun y => (app s [y]).bind fun s' => K s') fin h (by omega) n 0 [] (by omega) (by omega)
 rw [show ((0 : Nat) : Int) = 0 from rfl] at h1
 rw [h1]
 have key : ∀ (r : List α) (i : Nat) (s : List β), l.drop i = r → s.length ≤ i → fc (fun i x s K => (f i x).bind fun y => (app s [y]).bind fun s' => K s') fin i r s = fin (s ++ r.map g) := by
  intro r
  induction r with
  | nil => intro i s _ _; simp [fc]
  | cons x r ih =>
   intro i s hi hs
   have hil : i < l.length := by
    rcases Nat.lt_or_ge i l.length with h | h
    ·exact h
    ·rw [List.drop_eq_nil_of_le h] at hi; cases hi
   rw [List.drop_eq_getElem_cons hil] at hi
   obtain ⟨hx, hr⟩ := List.cons.inj hi
   rw [fc, hf i x (by rw [List.getElem?_eq_getElem hil, hx]), Option.bind_some, app_of (by simp; omega), Option.bind_some, ih (i + 1) _ hr (by simp; omega)]
   simp
 rw [List.drop_zero]
 simpa using key l 0 [] (by simp) (by simp)
end Go.Proofs.YtohmhlkdgfcaeaaGreatDoor
namespace Go.Proofs.YtohmhlkdgfcaeaaGreatDoor
open Go Go.RowKit
def winP (d : Drum) (b : Batch) : Span := bif decide (firstH (smP d b) (hrs d + 1) 0 < 0) then ⟨1, 0⟩ else ⟨firstH (smP d b) (hrs d + 1) 0, lastH (thP d b) (hrs d + 1)⟩
def winR (d : Drum) (b : Batch) : Span :=
 bif decide (firstH (smP d b) (hrs d + 1) 0 < 0) || (decide (lastH (thP d b) (hrs d + 1) < 0) || decide (lastH (thP d b) (hrs d + 1) < firstH (smP d b) (hrs d + 1) 0)) then ⟨1, 0⟩ else ⟨firstH (smP d b) (hrs d + 1) 0, lastH (thP d b) (hrs d + 1)⟩
def wsP (d : Drum) : List Span := d.batches.map (winP d)
def wsR (d : Drum) : List Span := d.batches.map (winR d)
section
variable {n : Nat} {d : Drum}
theorem p_98 (hd : d.ok) (hn : 100 ≤ n) (hne : idx d ≠ []) : s_98 n d (filL d) = some ⟨wsP d⟩ := by
 have hbt := hd.btl
 unfold s_98
 refine loop_app d.batches (fun _ b => (s_92 n (filL d) b).bind fun v124 => (s_93 n (filL d) b).bind fun v125 => bif decide (v124 < 0) then s_144 n else some (Span.mk v124 v125)) (winP d) (fun i b hb => ?_) (s_98_l1 n d (filL d)) (fun s => some (Windows.mk s)) (fun k i s => ?_) (by omega) (by omega)
 ·have hb' := hd.bt b (List.mem_of_getElem? hb)
  rw [p_92 hd hn hb' hne, Option.bind_some, p_93 hd hn hb' hne, Option.bind_some]
  unfold winP s_144
  cases decide (firstH (smP d b) (hrs d + 1) 0 < 0) <;> rfl
 ·rw [s_98_l1]
  by_cases hi : i < d.batches.length
  ·have hb' := hd.bt _ (List.getElem_mem hi)
   rw [ix_at (List.getElem?_eq_getElem hi), Option.bind_some, Option.bind_some, p_92 hd hn hb' hne, Option.bind_some, Option.bind_some, p_93 hd hn hb' hne, Option.bind_some, Option.bind_some]
   unfold s_144 s_98_j5
   cases decide (firstH (smP d d.batches[i]) (hrs d + 1) 0 < 0) <;> rfl
  ·have e1 : decide ((i : Int) < ((d.batches.length : Nat) : Int)) = false := decide_eq_false (by omega)
   rw [e1, cond_false, cond_false]
theorem p_55 (hd : d.ok) (hn : 100 ≤ n) (hne : idx d ≠ []) : s_55 n d = some (wsR d) := by
 have hbt := hd.btl
 unfold s_55
 refine loop_app d.batches (fun _ b => some (winR d b)) (winR d) (fun i b hb => rfl) (s_55_l1 n d) (fun s => some s) (fun k i s => ?_) (by omega) (by omega)
 rw [s_55_l1]
 by_cases hi : i < d.batches.length
 ·have hb := List.getElem?_eq_getElem hi
  rw [ix_at hb, Option.bind_some, p_33 hd hn hb hne, Option.bind_some, p_34 hd hn hb hne, Option.bind_some, Option.bind_some]
  unfold s_55_j8 s_55_j9 winR
  cases decide (firstH (smP d d.batches[i]) (hrs d + 1) 0 < 0) <;> cases decide (lastH (thP d d.batches[i]) (hrs d + 1) < 0) <;> cases decide (lastH (thP d d.batches[i]) (hrs d + 1) < firstH (smP d d.batches[i]) (hrs d + 1) 0) <;> rfl
 ·have e1 : decide ((i : Int) < ((d.batches.length : Nat) : Int)) = false := decide_eq_false (by omega)
  rw [e1, cond_false, cond_false]
theorem p_100 (n : Nat) (w : List Span) (hw : w.length ≤ 6) : s_100 n ⟨w⟩ = some (2 ^ w.length - 1) := by
 have hpv := pow_bound (i := w.length) hw
 unfold s_100
 have hshl : shl .i64 1 ((List.length w : Nat) : Int) = some (2 ^ w.length) := by
  unfold shl
  rw [show decide ((0 : Int) ≤ ((List.length w : Nat) : Int)) = true from decide_eq_true (by omega), cond_true]
  have hm : min ((List.length w : Nat) : Int).toNat IntKind.i64.bits = w.length := by
   show min w.length 64 = w.length
   omega
  rw [hm, Int.one_mul]
  exact congrArg some (wr_of (by omega))
 rw [hshl, Option.bind_some, wr_of (by omega)]
theorem hasB_full : ∀ m, m < 6 → ∀ i, i < m → hasB (2 ^ m - 1) i = true := by decide
end
end Go.Proofs.YtohmhlkdgfcaeaaGreatDoor
namespace Go.Proofs.YtohmhlkdgfcaeaaGreatDoor
open Go Go.RowKit
def pickF (set : Int) : Nat → List Span → List Span
 | _, [] => []
 | i, s :: r => if hasB set i = true then s :: pickF set (i + 1) r else pickF set (i + 1) r
def com (w : List Span) (set : Int) : Span := capL ⟨0, 12⟩ (pickF set 0 w)
theorem and_one6 : ∀ x : Nat, x < 64 → bits .and .i64 (x : Int) 1 = (x : Int) % 2 := by decide
section
variable {n : Nat} {d : Drum} {b : Batch}
theorem p_145w {set : Int} {i : Nat} (hi : i ≤ 6) (h0 : 0 ≤ set) (h1 : set ≤ 63) : s_145 n set i = some (hasB set i) := by
 unfold s_145
 have hp := pow_bound hi
 have e1 : shr .i64 set (i : Int) = some (set / 2 ^ i) := by
  unfold shr
  rw [show decide ((0 : Int) ≤ (i : Int)) = true from decide_eq_true (by omega), cond_true]
  have hm : min ((i : Nat) : Int).toNat IntKind.i64.bits = i := by
   show min i 64 = i
   omega
  rw [hm, Int.fdiv_eq_ediv_of_nonneg _ (by omega)]
 rw [e1, Option.bind_some, hasB]
 have h3 : 0 ≤ set / 2 ^ i := Int.ediv_nonneg h0 (by omega)
 have h4 : set / 2 ^ i ≤ set := Int.ediv_le_self _ h0
 obtain ⟨x, hx⟩ := Int.eq_ofNat_of_zero_le h3
 rw [hx, and_one6 x (by omega)]
theorem common_pick (set : Int) : ∀ (w : List Span) (i : Nat) (o : Span), commonFrom (w.map spanP) set i (o.low, o.high) = spanP (capL o (pickF set i w)) := by
 intro w
 induction w with
 | nil => intro i o; rfl
 | cons s r ih =>
  intro i o
  have e : setHas set i = hasB set i := by
   unfold setHas hasB
   rw [Bool.eq_iff_iff]
   simp
  rw [List.map_cons, commonFrom, e, pickF]
  by_cases h : hasB set i = true
  ·rw [if_pos h, if_pos h]
   exact ih (i + 1) (cap o s)
  ·rw [if_neg h, if_neg h]
   exact ih (i + 1) o
theorem p_102 (hn : 100 ≤ n) (w : List Span) (hw : w.length ≤ 6) {set : Int} (h0 : 0 ≤ set) (h1 : set ≤ 63) : s_102 n ⟨w⟩ set = some (com w set) := by
 have e : s_102m n ⟨w⟩ set = some (com w set) := by
  unfold s_102m
  have h1 := loop_list w (s_102m_l1 n ⟨w⟩ set) (fun i x s K => bif hasB set i then K (cap s x) else K s) (fun s => some s) (fun k i s => by
   rw [s_102m_l1]
   by_cases hi : i < w.length
   ·rw [ix_at (List.getElem?_eq_getElem hi), Option.bind_some, Option.bind_some, p_145w (by omega) h0 h1, Option.bind_some]
    rfl
   ·have e1 : decide ((i : Int) < ((w.length : Nat) : Int)) = false := decide_eq_false (by omega)
    simp only [e1, cond_false]) (by omega) n 0 ⟨0, 12⟩ (by omega) (by omega)
  rw [show ((0 : Nat) : Int) = 0 from rfl, List.drop_zero] at h1
  rw [h1]
  have key : ∀ (l : List Span) (i : Nat) (s : Span), fc (fun i x s K => bif hasB set i then K (cap s x) else K s) (fun s => some s) i l s = some (capL s (pickF set i l)) := by
   intro l
   induction l with
   | nil => intro i s; rfl
   | cons x r ih =>
    intro i s
    rw [fc, pickF]
    by_cases h : hasB set i = true
    ·rw [h, cond_true, if_pos rfl, ih]; rfl
    ·have h' : hasB set i = false := by simpa using h
     rw [h', cond_false, if_neg (by simp), ih]
  exact key w 0 _
 unfold s_102
 rw [e, Option.bind_some]
 have hc := common_pick set w 0 ⟨0, 12⟩
 have hcm : commonOf (w.map spanP) set = spanP (com w set) := hc
 simp only [hcm, decide_true, cond_true]
theorem p_99 (hn : 100 ≤ n) (w : List Span) (hw : w.length ≤ 6) {set : Int} (h0 : 0 ≤ set) (h1 : set ≤ 63) : s_99 n ⟨w⟩ set = some (decide (com w set).ne) := by
 unfold s_99
 rw [p_102 hn w hw h0 h1]
 rfl
theorem pickF_full : ∀ (w : List Span) (m i : Nat), m < 6 → i + w.length = m → pickF (2 ^ m - 1) i w = w := by
 intro w
 induction w with
 | nil => intro m i _ _; rfl
 | cons s r ih =>
  intro m i hm hi
  simp only [List.length_cons] at hi
  rw [pickF, if_pos (hasB_full m hm i (by omega)), ih m (i + 1) hm (by omega)]
theorem com_full (w : List Span) (hw : w.length < 6) : com w (2 ^ w.length - 1) = comm w := by
 unfold com comm
 rw [pickF_full w w.length 0 hw (by omega)]
theorem wsP_len : (wsP d).length = d.batches.length := by simp [wsP]
end
end Go.Proofs.YtohmhlkdgfcaeaaGreatDoor
namespace Go.Proofs.YtohmhlkdgfcaeaaGreatDoor
open Go Go.RowKit
section
variable {n : Nat} {d : Drum} {tr : Truth}
theorem mem_ne {s : Span} {x : Int} (h : s.mem x) : s.ne := by unfold Span.mem Span.ne at *; omega
end
end Go.Proofs.YtohmhlkdgfcaeaaGreatDoor
namespace Go.Proofs.YtohmhlkdgfcaeaaGreatDoor
open Go Go.RowKit
def putD (d : Drum) (v : Nat) (x : Int) : Drum := ⟨d.acids, d.known, d.hours, d.adds.set v x, d.strips, d.batches⟩
section
variable {n : Nat} {d : Drum} {v : Nat} {x : Int}
theorem putD_ok (hd : d.ok) (hx : 0 ≤ x ∧ x ≤ 100) : (putD d v x).ok := by
 refine ⟨hd.acl, hd.kn, hd.hr, ?_, hd.stl, hd.btl, hd.ac, ?_, hd.st, hd.bt⟩
 ·show (((d.adds.set v x).length : Nat) : Int) = d.hours
  rw [List.length_set]; exact hd.adl
 ·intro y hy
  rcases List.mem_or_eq_of_mem_set hy with h | rfl
  ·exact hd.ad y h
  ·exact hx
theorem addAt_set {i : Nat} (h : i ≠ v) : addAt (d.adds.set v x) i = addAt d.adds i := by
 unfold addAt
 rw [List.getD_eq_getElem?_getD, List.getD_eq_getElem?_getD, List.getElem?_set_ne (Ne.symm h)]
def noLate (d : Drum) (v : Nat) : Prop := ∀ s ∈ d.strips, s.hour < (v : Int)
theorem noLate_at (h : noLate d v) {i : Nat} (hi : v ≤ i) : stripsAt d.strips i = [] := by
 unfold stripsAt
 rw [List.filter_eq_nil_iff.2]
 ·rfl
 ·intro s hs
  have := h s hs
  simp only [beq_iff_eq]
  omega
theorem fw_late (hd : d.ok) (h : noLate d v) {a : Acid} (ha : a.ok) (ad : List Int) (hp : ∀ i, i < v → (fw ad d.strips a i).ne) : ∀ i, (fw ad d.strips a i).ne := by
 intro i
 obtain ⟨h1, h2⟩ := ha
 simp only [Span.ok] at h1 h2
 induction i with
 | zero =>
  by_cases hv : 0 < v
  ·exact hp 0 hv
  ·rw [fw, noLate_at h (by omega)]
   simp only [capL, List.foldl_nil, start, Span.ne]
   omega
 | succ i ih =>
  by_cases hv : i + 1 < v
  ·exact hp _ hv
  ·rw [fw, noLate_at h (by omega)]
   simp only [capL, List.foldl_nil, aft, Span.ne] at *
   omega
theorem put_poss (hd : d.ok) (h : noLate d v) {a : Acid} (ha : a.ok) : Poss (d.adds.set v x) d.strips a (hrs d) ↔ Poss d.adds d.strips a (hrs d) := by
 have hfw : ∀ i, i < v → fw (d.adds.set v x) d.strips a i = fw d.adds d.strips a i := fun i hi => fw_congr i (fun j hj => ⟨addAt_set (by omega), rfl⟩)
 constructor
 ·intro hp i hi
  by_cases hiv : i < v
  ·rw [← hfw i hiv]; exact hp i hi
  ·exact fw_late hd h ha d.adds (fun j hj => by rw [← hfw j hj]; exact hp j (by omega)) i
 ·intro hp i hi
  by_cases hiv : i < v
  ·rw [hfw i hiv]; exact hp i hi
  ·exact fw_late hd h ha (d.adds.set v x) (fun j hj => by rw [hfw j hj]; exact hp j (by omega)) i
theorem put_idx (hd : d.ok) (h : noLate d v) : idx (putD d v x) = idx d := by
 unfold idx
 show (List.range d.acids.length).filter (PossI (putD d v x)) = _
 apply List.filter_congr
 intro i hi
 rw [List.mem_range] at hi
 unfold PossI
 show (hasB d.known i && decide (Poss (d.adds.set v x) d.strips (acidAt d i) (hrs d))) = _
 congr 1
 rw [decide_eq_decide]
 exact put_poss hd h (acidAt_ok hd hi)
theorem win_memR {b : Batch} (hd : d.ok) {t : Int} : (winR d b).mem t ↔ (winP d b).mem t := by
 unfold winR winP
 by_cases h1 : firstH (smP d b) (hrs d + 1) 0 < 0
 ·rw [decide_eq_true h1, Bool.true_or, cond_true]
 ·rw [decide_eq_false h1, Bool.false_or, cond_false]
  by_cases h2 : lastH (thP d b) (hrs d + 1) < 0
  ·rw [decide_eq_true h2, Bool.true_or, cond_true]
   simp only [Span.mem]
   omega
  ·rw [decide_eq_false h2, Bool.false_or]
   by_cases h3 : lastH (thP d b) (hrs d + 1) < firstH (smP d b) (hrs d + 1) 0
   ·rw [decide_eq_true h3, cond_true]
    simp only [Span.mem]
    omega
   ·rw [decide_eq_false h3, cond_false]
theorem comm_memR (hd : d.ok) {t : Int} : (comm (wsR d)).mem t ↔ (comm (wsP d)).mem t := by
 rw [mem_comm, mem_comm]
 unfold wsR wsP
 simp only [List.mem_map, forall_exists_index, and_imp, forall_apply_eq_imp_iff₂, win_memR hd]
theorem p_62 (hn : 100 ≤ n) (w : List Span) (hw : w.length ≤ 50) : s_62 n w [] 0 = some (comm w) := by
 unfold s_62
 have h1 := loop_list w (s_62_l1 n w [] 0) (fun i x s K => K (cap s x)) (fun s => some s) (fun k i s => by
  rw [s_62_l1]
  by_cases hi : i < w.length
  ·unfold s_62_j4
   simp only [ix_at (List.getElem?_eq_getElem hi), Option.bind_some, p_138, List.length_nil]
   rfl
  ·have e1 : decide ((i : Int) < ((w.length : Nat) : Int)) = false := decide_eq_false (by omega)
   rw [e1, cond_false, cond_false]) (by omega) n 0 ⟨0, 12⟩ (by omega) (by omega)
 rw [show ((0 : Nat) : Int) = 0 from rfl, List.drop_zero] at h1
 rw [h1, fc_fold (fun s x => cap s x) _ _ _ (fun _ _ _ _ _ => rfl)]
 rfl
theorem p_36 (hn : 100 ≤ n) (hs : Short d) (t : Int) : s_36 n d t = some (d.strips.any (fun s => decide (t ≤ s.hour))) := by
 have h7 := hs.c
 unfold s_36
 have h1 := loop_list d.strips (fun k i (_ : Unit) => s_36_l1 d t k i) (fun _ y s K => bif decide (t ≤ y.hour) then some true else K s) (fun _ => some false) (fun k i _ => by rw [s_36_l1]) (by omega) n 0 () (by omega) (by omega)
 rw [show ((0 : Nat) : Int) = 0 from rfl, List.drop_zero] at h1
 rw [h1]
 have key : ∀ (r : List Strip) (i : Nat), fc (σ := Unit) (fun _ y s K => bif decide (t ≤ y.hour) then some true else K s) (fun _ => some false) i r () = some (r.any (fun s => decide (t ≤ s.hour))) := by
  intro r
  induction r with
  | nil => intro i; rfl
  | cons y r ih =>
   intro i
   rw [fc, ih, List.any_cons]
   cases decide (t ≤ y.hour) <;> rfl
 exact key _ 0
theorem late_iff : d.strips.any (fun s => decide ((v : Int) ≤ s.hour)) = false ↔ noLate d v := by
 rw [List.any_eq_false]
 unfold noLate
 constructor
 ·intro h s hs
  have := h s hs
  rw [decide_eq_true_eq] at this
  omega
 ·intro h s hs
  rw [decide_eq_true_eq]
  have := h s hs
  omega
def topP (d : Drum) (v : Nat) (t : Int) (x : Nat) : Bool := decide ((comm (wsP (putD d v (x : Int)))).mem t)
theorem put_short (hs : Short d) : Short (putD d v x) := ⟨hs.a, (by show (d.adds.set v x).length ≤ 15; rw [List.length_set]; exact hs.b), hs.c, hs.e⟩
theorem p_37 (hd : d.ok) (hn : 200 ≤ n) (hl : noLate d v) (hv : v < hrs d) (hne : idx d ≠ []) (t : Int) : s_37 n d (v : Int) t = some (firstH (topP d v t) 101 0) := by
 have hadl := hd.adl
 have hH := hrs_eq hd
 have hhr := hrs_le hd
 have hbt := hd.btl
 unfold s_37
 have key : ∀ (r m k : Nat), m + r = 101 → r < k → s_37_l1 n d (v : Int) t k (m : Int) = some (firstH (topP d v t) r m) := by
  intro r
  induction r with
  | zero =>
   intro m k hm hk
   obtain ⟨k, rfl⟩ : ∃ k', k = k' + 1 := ⟨k - 1, by omega⟩
   rw [s_37_l1, decide_eq_false (by omega), cond_false]
   rfl
  | succ r ih =>
   intro m k hm hk
   obtain ⟨k, rfl⟩ : ∃ k', k = k' + 1 := ⟨k - 1, by omega⟩
   have hok := putD_ok (v := v) hd (x := (m : Int)) (by omega)
   have e49 : s_49 n d (v : Int) (m : Int) = some (putD d v (m : Int)) := by
    unfold s_49
    rw [app_of (by simp; omega), Option.bind_some, List.nil_append, add_at hd (h := v) (by omega)]
    rfl
   have hne' : idx (putD d v (m : Int)) ≠ [] := by rw [put_idx hd hl]; exact hne
   rw [s_37_l1, decide_eq_true (by omega), cond_true, e49, Option.bind_some, p_55 hok (by omega) hne', Option.bind_some, p_62 (by omega) _ (by show (d.batches.map _).length ≤ 50; rw [List.length_map]; omega), Option.bind_some, p_103, Option.bind_some, firstH, wr_of (by omega)]
   have e : inb t (comm (wsR (putD d v (m : Int)))).low (comm (wsR (putD d v (m : Int)))).high = topP d v t m := by
    unfold topP
    rw [Bool.eq_iff_iff, inb_iff, decide_eq_true_eq, ← comm_memR hok]
    rfl
   have := ih (m + 1) k (by omega) (by omega)
   push_cast at this
   rw [e, this]
   cases topP d v t m <;> rfl
 exact key 101 0 n (by omega) (by omega)
theorem p_35_l3 (hd : d.ok) (hs : Short d) (hn : 200 ≤ n) (hl : noLate d v) (hv : v < hrs d) (hne : idx d ≠ []) (t : Int) : ∀ (r m k : Nat) (l : List Int), m + r = 101 → r < k → l.length = d.adds.length → (∀ y, l.set v y = d.adds.set v y) →
  s_35_l3 n d (v : Int) t k (m : Int) l = some (bif decide (firstH (topP d v t) r m < 0) then (0, 5) else (firstH (topP d v t) r m, 0)) := by
 have hadl := hd.adl
 have hH := hrs_eq hd
 have hhr := hrs_le hd
 have hbt := hd.btl
 intro r
 induction r with
 | zero =>
  intro m k l hm hk hll hset
  obtain ⟨k, rfl⟩ : ∃ k', k = k' + 1 := ⟨k - 1, by omega⟩
  rw [s_35_l3, decide_eq_false (by omega), cond_false]
  rfl
 | succ r ih =>
  intro m k l hm hk hll hset
  obtain ⟨k, rfl⟩ : ∃ k', k = k' + 1 := ⟨k - 1, by omega⟩
  have hok := putD_ok (v := v) hd (x := (m : Int)) (by omega)
  have hne' : idx (putD d v (m : Int)) ≠ [] := by rw [put_idx hd hl]; exact hne
  have hsp : Short (putD d v (m : Int)) := put_short hs
  have hpd : (Drum.mk d.acids d.known d.hours (sts l (v : Int) (m : Int)) d.strips d.batches) = putD d v (m : Int) := by
   show (Drum.mk d.acids d.known d.hours (l.set v (m : Int)) d.strips d.batches) = _
   rw [hset]; rfl
  have he : err (putD d v (m : Int)) true = 0 := by
   unfold err
   rw [okD_iff.2 hok]
   cases h : idx (putD d v (m : Int)) with
   | nil => exact absurd h hne'
   | cons => rfl
  have hwl : (wsP (putD d v (m : Int))).length ≤ 6 := by rw [wsP_len]; show d.batches.length ≤ 6; omega
  have hpv := pow_bound (i := (wsP (putD d v (m : Int))).length) hwl
  have gx : ix l (v : Int) = some (l.getD v 0) := by
   have hvl : v < l.length := by omega
   rw [ix_at (List.getElem?_eq_getElem hvl), List.getD_eq_getElem?_getD, List.getElem?_eq_getElem hvl]; rfl
  have hrec : s_35_l3 n d (v : Int) t k (wr ((m : Int) + 1)) (sts l (v : Int) (m : Int)) = some (bif decide (firstH (topP d v t) r (m + 1) < 0) then (0, 5) else (firstH (topP d v t) r (m + 1), 0)) := by
   rw [wr_of (by omega)]
   have := ih (m + 1) k (l.set v (m : Int)) (by omega) (by omega) (by rw [List.length_set]; exact hll) (fun y => by rw [List.set_set, hset])
   push_cast at this
   exact this
  rw [s_35_l3, decide_eq_true (by omega), cond_true, gx, Option.bind_some, hpd, p_84 (by omega) hsp, Option.bind_some, he]
  simp only [decide_true, cond_true]
  rw [p_98 hok (by omega) hne', Option.bind_some, p_100 n _ hwl, Option.bind_some, p_99 (by omega) _ hwl (by omega) (by omega), Option.bind_some, com_full _ (by rw [wsP_len]; show d.batches.length < 6; omega)]
  have hj : ∀ c : Bool, c = topP d v t m → s_35_j9 (s_35_l3 n d (v : Int) t k) (v : Int) (m : Int) l c = some (bif decide (firstH (topP d v t) (r + 1) m < 0) then (0, 5) else (firstH (topP d v t) (r + 1) m, 0)) := by
   intro c hc
   unfold s_35_j9
   rw [hrec, hc]
   rcases Bool.eq_false_or_eq_true (topP d v t m) with hp | hp
   ·rw [firstH, hp, cond_true, cond_true, decide_eq_false (by omega), cond_false]
   ·rw [firstH, hp, cond_false, cond_false]
  by_cases hc : (comm (wsP (putD d v (m : Int)))).ne
  ·rw [decide_eq_true hc, cond_true, Option.bind_some, p_102 (by omega) _ hwl (by omega) (by omega), Option.bind_some, com_full _ (by rw [wsP_len]; show d.batches.length < 6; omega)]
   unfold s_101
   rw [p_87]
   simp only [Option.bind_some]
   refine hj _ ?_
   unfold topP
   rw [Bool.eq_iff_iff, inb_iff, decide_eq_true_eq]
   rfl
  ·rw [decide_eq_false hc, cond_false]
   refine hj _ ?_
   unfold topP
   exact (decide_eq_false (fun h => hc (mem_ne h))).symm
theorem law_5 (d : Drum) (v t : Int) : s_5 1000 d v t = some true := by
 unfold s_5
 rw [p_23, Option.bind_some]
 have hn : 100 ≤ 1000 := by omega
 cases hsh : shortB d with
 | false => simp only [Bool.not_false, cond_true, p_24, Option.bind_some]
 | true =>
  have hs := shortB_iff.1 hsh
  have h7 := hs.c
  simp only [Bool.not_true, cond_false]
  have hfine : ∃ fine : Bool, (fine = true ∧ okD d = true → (∃ v' : Nat, v = (v' : Int) ∧ v' < hrs d)) ∧ s_35 1000 d v t = s_35_j2 1000 d v t (err d fine) ∧ ∀ w, (bif decide (0 ≤ v) then bif decide (v < d.hours) then bif decide (v < t) then (s_27 1000 d (decide (t ≤ d.hours))).bind fun v104 => s_5_j1 1000 d v t w v104 else (s_27 1000 d false).bind fun v105 => s_5_j1 1000 d v t w v105 else (s_27 1000 d false).bind fun v106 => s_5_j1 1000 d v t w v106 else (s_27 1000 d false).bind fun v107 => s_5_j1 1000 d v t w v107) = s_5_j1 1000 d v t w (err d fine) := by
   refine ⟨decide (0 ≤ v) && (decide (v < d.hours) && (decide (v < t) && decide (t ≤ d.hours))), ?_, ?_, ?_⟩
   ·rintro ⟨h1, h2⟩
    have hH := hrs_eq (okD_iff.1 h2)
    simp only [Bool.and_eq_true, decide_eq_true_eq] at h1
    exact ⟨v.toNat, by omega, by omega⟩
   ·unfold s_35
    rw [p_87, Option.bind_some]
    cases hok : okD d with
    | false =>
     have e2 : ∀ f, err d f = 2 := fun f => by unfold err; rw [hok]; rfl
     rw [p_87, Option.bind_some, p_84 hn hs, Option.bind_some, p_84 hn hs, Option.bind_some, e2, e2, e2]
     cases inb v 0 (wr (d.hours - 1)) <;> rfl
    | true =>
     have hd := okD_iff.1 hok
     have hH := hrs_eq hd
     have hhr := hrs_le hd
     have e1 : inb v 0 (wr (d.hours - 1)) = (decide (0 ≤ v) && decide (v < d.hours)) := by
      rw [wr_of (by omega)]
      unfold inb
      congr 1
      rw [decide_eq_decide]
      omega
     rw [e1]
     by_cases h0 : 0 ≤ v
     ·by_cases h1 : v < d.hours
      ·rw [decide_eq_true h0, decide_eq_true h1]
       have e2 : inb t (wr (v + 1)) d.hours = (decide (v < t) && decide (t ≤ d.hours)) := by
        rw [wr_of (by omega)]
        unfold inb
        congr 1
       rw [p_87, Option.bind_some, e2]
       simp only [Bool.true_and, cond_true]
       rw [p_84 hn hs, Option.bind_some]
      ·rw [decide_eq_false h1]
       simp only [Bool.false_and, Bool.and_false, cond_false]
       rw [p_84 hn hs, Option.bind_some]
     ·rw [decide_eq_false h0]
      simp only [Bool.false_and, cond_false]
      rw [p_84 hn hs, Option.bind_some]
   ·intro w
    rw [p_27 hn hs, p_27 hn hs]
    cases decide (0 ≤ v) <;> cases decide (v < d.hours) <;> cases decide (v < t) <;> simp only [cond_true, cond_false, Option.bind_some, Bool.true_and, Bool.false_and]
  obtain ⟨fine, h1, h2, h3⟩ := hfine
  have last : ∀ w : Int × Int, s_35_j2 1000 d v t (err d fine) = some w → s_5_j1 1000 d v t w (err d fine) = some true := by
   intro w hw
   unfold s_5_j1
   by_cases he : err d fine = 0
   ·obtain ⟨g1, g2, hne⟩ := err_zero he
    have hd := okD_iff.1 g1
    obtain ⟨v', hv, hvl⟩ := h1 ⟨g2, g1⟩
    subst hv
    rw [he] at hw ⊢
    unfold s_35_j2 at hw
    simp only [decide_true, cond_true, Bool.not_true, cond_false] at hw ⊢
    rw [p_95 hn d.strips (by omega) (fun z0 => s_96 1000 z0 (v' : Int)) (fun s => decide ((v' : Int) ≤ s.hour)) (fun s _ => rfl), Option.bind_some] at hw
    rw [p_36 hn hs, Option.bind_some]
    cases hlate : d.strips.any (fun s => decide ((v' : Int) ≤ s.hour)) with
    | true =>
     rw [hlate, cond_true] at hw
     cases hw
     unfold s_5_j2 s_5_j3
     rw [cond_true, show decide ((7 : Int) = 0) = false from rfl, cond_false]
     unfold s_5_j4
     simp only [show decide ((7 : Int) = 0) = false from rfl, Bool.not_false, cond_true, decide_true, p_24, Option.bind_some]
    | false =>
     have hl := late_iff.1 hlate
     rw [hlate, cond_false] at hw
     have e97 : s_97 1000 d.adds = some d.adds := by
      unfold s_97
      have := hs.b
      rw [app_of (by simp; omega)]
      rfl
     rw [e97, Option.bind_some] at hw
     have e35 := p_35_l3 hd hs (n := 1000) (by omega) hl hvl hne t 101 0 1000 d.adds (by omega) (by omega) rfl (fun _ => rfl)
     rw [show ((0 : Nat) : Int) = 0 from rfl] at e35
     rw [e35] at hw
     have hw := (Option.some.inj hw).symm
     unfold s_5_j2 s_5_j3
     simp only [cond_false, decide_true, cond_true]
     rw [p_37 hd (by omega) hl hvl hne, Option.bind_some]
     generalize firstH (topP d v' t) 101 0 = s at hw ⊢
     by_cases hs0 : s < 0
     ·rw [decide_eq_true hs0, cond_true] at hw ⊢
      rw [hw]
      unfold s_5_j4
      simp only [show decide ((5 : Int) = 0) = false from rfl, Bool.not_false, cond_true, decide_true, p_24, Option.bind_some]
     ·rw [decide_eq_false hs0, cond_false] at hw ⊢
      rw [hw]
      unfold s_5_j4
      simp only [decide_true, Bool.not_true, cond_false, cond_true, p_24, Option.bind_some]
   ·unfold s_35_j2 at hw
    rw [decide_eq_false he, Bool.not_false, cond_true] at hw
    rw [decide_eq_false he, cond_false]
    cases hw
    unfold s_5_j2 s_5_j3
    rw [cond_false, decide_eq_false he, cond_false]
    unfold s_5_j4
    rw [decide_eq_false he, Bool.not_false, cond_true]
    simp only [decide_true, cond_true, p_24, Option.bind_some]
  have hex : ∃ w, s_35_j2 1000 d v t (err d fine) = some w := by
   by_cases he : err d fine = 0
   ·obtain ⟨g1, g2, hne⟩ := err_zero he
    have hd := okD_iff.1 g1
    obtain ⟨v', hv, hvl⟩ := h1 ⟨g2, g1⟩
    subst hv
    rw [he]
    unfold s_35_j2
    simp only [decide_true, Bool.not_true, cond_false]
    rw [p_95 hn d.strips (by omega) (fun z0 => s_96 1000 z0 (v' : Int)) (fun s => decide ((v' : Int) ≤ s.hour)) (fun s _ => rfl), Option.bind_some]
    cases hlate : d.strips.any (fun s => decide ((v' : Int) ≤ s.hour)) with
    | true => exact ⟨_, rfl⟩
    | false =>
     have hl := late_iff.1 hlate
     have e97 : s_97 1000 d.adds = some d.adds := by
      unfold s_97
      have := hs.b
      rw [app_of (by simp; omega)]
      rfl
     rw [cond_false, e97, Option.bind_some]
     have := p_35_l3 hd hs (n := 1000) (by omega) hl hvl hne t 101 0 1000 d.adds (by omega) (by omega) rfl (fun _ => rfl)
     exact ⟨_, this⟩
   ·unfold s_35_j2
    rw [decide_eq_false he]
    exact ⟨_, rfl⟩
  obtain ⟨w, hw⟩ := hex
  rw [h2, hw, Option.bind_some, h3 w]
  exact last w hw
end
end Go.Proofs.YtohmhlkdgfcaeaaGreatDoor
namespace Go.Proofs.YtohmhlkdgfcaeaaGreatDoor
open Go Go.RowKit Go.ChangeShapes Go.WideShapes
set_option maxRecDepth 100000
theorem drumTops_lifted (os : Os) (started : os.Started) (H : Type) (enc : TypeId × Value → H) :
  ReturnsInHanded {} Tryz.checked os 5 .any (fun w args => (Rows.drumTopsSpec.pre enc Tryz.prog Tryz.f5 [] false w args ∧ laidMetH Tryz.prog Rows.drumTopsRow.laid w) ∧ sizedMet enc Tryz.prog Tryz.f5 (OpenSpec.ofChange Rows.drumTopsSpec) false w args)
   (Rows.drumTopsSpec.post enc Tryz.prog Tryz.f5 false true false false) :=
 law_row (s := Rows.drumTopsSpec) (enc := enc) started #[.agg #[.slice none 0 0, .int .i64 0, .int .i64 0, .slice none 0 0, .slice none 0 0, .slice none 0 0], .int .i64 0, .int .i64 0] (by kernel_rfl) Tryz.func5 (by kernel_rfl) (by kernel_rfl) (by kernel_rfl) rfl
   (by
    rw [Tryz.params5]
    have h : ∀ t ∈ ([27, 3, 3] : List Nat), t ∈ [3, 9, 23, 27, 54, 92] := by decide
    exact fun t ht => parT t (h t ht)) rfl
   (by
    rw [Tryz.params5]
    intro ds h
    match ds, h with
    | [d0, d1, d2], _ => rfl)
   (by
    rw [Tryz.params5]
    intro W base args ds p hval hA
    obtain ⟨args⟩ := args
    obtain ⟨v0, vs0, d0, ds0, p0, q0, e0, rfl, rfl, h0, r0⟩ := trodAll_cons hA
    have e0 : args = _ := e0; subst e0
    obtain ⟨v1, vs1, d1, ds1, p1, q1, e1, rfl, rfl, h1, r1⟩ := trodAll_cons r0
    subst e1
    obtain ⟨v2, vs2, d2, ds2, p2, q2, e2, rfl, rfl, h2, r2⟩ := trodAll_cons r1
    subst e2
    obtain ⟨rfl, rfl, rfl⟩ := trodAll_nil r2
    obtain ⟨x0, z0⟩ := rd_drum (hval 0 27 v0 rfl rfl) h0
    obtain ⟨x1, z1⟩ := rd_int (hval 1 3 v1 rfl rfl)
    obtain ⟨x2, z2⟩ := rd_int (hval 2 3 v2 rfl rfl)
    refine ⟨rfl, [.agg (cDrum x0), .i x1, .i x2], ⟨rfl, ?_⟩, c_5 1000 x0 x1 x2 (law_5 x0 x1 x2)⟩
    intro j c u hc hu
    match j, hc, hu with
    | 0, hc, hu => cases hc; cases hu; exact z0
    | 1, hc, hu => cases hc; cases hu; exact z1
    | 2, hc, hu => cases hc; cases hu; exact z2)
theorem drumTops_facts : factsA Tryz.prog Tryz.f5 Rows.drumTopsSpec Rows.drumTopsRow = true := by kernel_rfl
theorem drumTops_road0 : (Rows.drumTopsRow.inPlace == Tryz.prog.inPlace 5) = true := by kernel_rfl
theorem drumTops_road1 : (Rows.drumTopsRow.unfollowed == Tryz.prog.unfollowed 5) = true := by kernel_rfl
theorem drumTops_road2 : (Rows.drumTopsRow.recurses == Tryz.prog.recurses 5) = true := by kernel_rfl
theorem drumTops_road3 : (Rows.drumTopsRow.named == Tryz.prog.varsNamed 5) = true := by kernel_rfl
theorem drumTops_row : Rows.DrumTopsSaid :=
 OpenClaim.holds_of_wide 5 Tryz.f5 rfl rfl rfl rfl rfl rfl rfl ⟨rfl, rfl, rfl, rfl, rfl⟩ rfl rfl rfl rfl rfl (by as_aux_lemma => kernel_rfl) Tryz.func5 (joined_of drumTops_facts drumTops_road0 drumTops_road1 drumTops_road2 drumTops_road3)
  (of_decide_eq_true (by as_aux_lemma => kernel_rfl)) (by unfold Func.isWrapper; rw [if_neg (of_decide_eq_false (by as_aux_lemma => kernel_rfl))]; exact ⟨rfl, rfl⟩)
  (fun os started H enc _ => drumTops_lifted os started H enc)
theorem drumTops_card : Rows.DrumTopsCardSaid :=
 Claim7.holds_tied_plain_at .later [] [.data, .data, .data, .data, .pinned] true (true, "263524fd91af563947b647e8709e73ef988cdef21cccd4074f632dc410392126") true drumTops_row (fun _ h => by cases h) (by as_aux_lemma => kernel_rfl) (fun _ h => by cases h) drumTops_row_tie rfl ⟨rfl, rfl⟩ mainK rfl
  (fun f fn hf hfn => by
   obtain rfl : f = 5 := Option.some.inj ((show Tryz.prog.funcNamed "nacre/nacrelaw03.DrumTops" = some 5 by as_aux_lemma => kernel_rfl).symm.trans hf) |>.symm
   obtain rfl : fn = Tryz.f5 := (Option.some.inj (Tryz.func5.symm.trans hfn)).symm
   exact ⟨looksK, fun j t ht => by
    rw [Tryz.params5] at ht
    have hm : t ∈ [27, 3, 3] := by simpa using Array.mem_of_getElem? ht
    have h : ∀ t ∈ ([27, 3, 3] : List Nat), t ∈ [3, 9, 23, 27, 54, 92] := by decide
    exact standK t (h t hm)⟩)
  (by as_aux_lemma => kernel_rfl)
#print axioms drumTops_card
end Go.Proofs.YtohmhlkdgfcaeaaGreatDoor
namespace Go.Proofs.YtohmhlkdgfcaeaaGreatDoor
open Go Go.RowKit
section
variable {α : Type} (lt : α → α → Bool)
def least : α → List α → α
 | x, [] => x
 | x, y :: r => least (bif lt y x then y else x) r
end
end Go.Proofs.YtohmhlkdgfcaeaaGreatDoor
namespace Go.Proofs.YtohmhlkdgfcaeaaGreatDoor
open Go Go.RowKit
def rn : Int → List Int → Int
 | c, [] => c
 | c, x :: r => rn (max c (x + 1)) r
def rgB : Int → List Int → Bool
 | _, [] => true
 | c, x :: r => decide (x ≤ c) && rgB (max c (x + 1)) r
theorem rgB_app : ∀ (l : List Int) (c x : Int), rgB c (l ++ [x]) = (rgB c l && decide (x ≤ rn c l)) := by
 intro l
 induction l with
 | nil =>
  intro c x
  show (decide (x ≤ c) && true) = (true && decide (x ≤ c))
  rw [Bool.and_true, Bool.true_and]
 | cons y r ih => intro c x; rw [List.cons_append, rgB, ih, rgB, rn, Bool.and_assoc]
end Go.Proofs.YtohmhlkdgfcaeaaGreatDoor
namespace Go.Proofs.YtohmhlkdgfcaeaaGreatDoor
open Go Go.RowKit
structure Way (l : List Int) : Prop where
 rg : rgB 0 l = true
 nn : ∀ x ∈ l, 0 ≤ x
theorem Way.nil : Way [] := ⟨rfl, by simp⟩
theorem Way.step {l : List Int} (h : Way l) {x : Nat} (hx : (x : Int) ≤ rn 0 l) : Way (l ++ [(x : Int)]) :=
 ⟨by rw [rgB_app, h.rg, decide_eq_true hx]; rfl, fun y hy => by
  rcases List.mem_append.1 hy with hy | hy
  ·exact h.nn y hy
  ·obtain rfl := List.mem_singleton.1 hy; omega⟩
end Go.Proofs.YtohmhlkdgfcaeaaGreatDoor
