/- DrumHours: the program tells the smooth hour and the thin hour of any batch, or the errors, as the reference does. For every input that can be read as data, the tables of Go's library being as their text lays them: the call returns true, and each argument reads behind it as before. -/
import Derived.Test.YtohmhlkdgfcaeaaGreatDoorTie
import Derived.Test.YtohmhlkdgfcaeaaGreatDoorCards
import Derived.Test.YtohmhlkdgfcaeaaGreatDoorX4a
set_option linter.unusedVariables false
set_option linter.unusedSimpArgs false
namespace Go.Proofs.YtohmhlkdgfcaeaaGreatDoor
open Go Go.RowKit
def qt (p x : Int) : Int := (x * p).tdiv 100
def cut (p : Int) (g : Nat → Int) : Nat → Int
 | 0 => 0
 | t + 1 => cut p g t + qt p (g t)
def stateAt (b : Batch) (g : Nat → Int) (t : Nat) : State := ⟨max 0 (b.rough - cut b.polish g t), max 0 (b.thick - cut b.eat g t)⟩
theorem qt_le {p x : Int} (hp : 0 ≤ p ∧ p ≤ 100) (hx : 0 ≤ x ∧ x ≤ 5000) : 0 ≤ qt p x ∧ qt p x ≤ 5000 := by
 unfold qt
 have h1 : 0 ≤ x * p := Int.mul_nonneg hx.1 hp.1
 have h2 : x * p ≤ x * 100 := Int.mul_le_mul_of_nonneg_left hp.2 hx.1
 rw [Int.tdiv_eq_ediv_of_nonneg h1]
 omega
theorem p_quo {p x : Int} (hp : 0 ≤ p ∧ p ≤ 100) (hx : 0 ≤ x ∧ x ≤ 5000) : quo .i64 (wr (x * p)) 100 = some (qt p x) := by
 have h1 : 0 ≤ x * p := Int.mul_nonneg hx.1 hp.1
 have h2 : x * p ≤ x * 100 := Int.mul_le_mul_of_nonneg_left hp.2 hx.1
 have h3 := qt_le hp hx
 rw [wr_of (by omega)]
 unfold quo
 rw [show decide ((100 : Int) = 0) = false from rfl, cond_false]
 exact congrArg some (wr_of (by unfold qt at h3; omega))
theorem cut_le {p : Int} {g : Nat → Int} (hp : 0 ≤ p ∧ p ≤ 100) : ∀ (t : Nat), (∀ h, h < t → 0 ≤ g h ∧ g h ≤ 5000) → 0 ≤ cut p g t ∧ cut p g t ≤ 5000 * t := by
 intro t
 induction t with
 | zero => intro _; simp [cut]
 | succ t ih =>
  intro h
  have h1 := ih (fun i hi => h i (by omega))
  have h2 := qt_le hp (h t (by omega))
  rw [cut]
  push_cast
  omega
def lstI (m : Nat) (c : Nat → Int) : List Int := (List.range m).map c
theorem lstI_succ (m : Nat) (c : Nat → Int) : lstI (m + 1) c = lstI m c ++ [c m] := by unfold lstI; rw [List.range_succ, List.map_append]; rfl
theorem lstI_length (m : Nat) (c : Nat → Int) : (lstI m c).length = m := by simp [lstI]
theorem lstI_get {m h : Nat} {c : Nat → Int} (hh : h < m) : (lstI m c)[h]? = some (c h) := by unfold lstI; rw [List.getElem?_map, List.getElem?_range hh]; rfl
section
variable {n : Nat} {d : Drum} {b : Batch} {g : Nat → Int} {t : Nat}
theorem p_166 {p : Int} (hp : 0 ≤ p ∧ p ≤ 100) (hn : 100 ≤ n) (ht : t ≤ 50) (hg : ∀ h, h < t → 0 ≤ g h ∧ g h ≤ 5000) : s_166 n (lstI t (fun h => qt p (g h))) = some (cut p g t) := by
 have key : ∀ (r m k : Nat), m + r = t → r < k → s_166_l1 (lstI t (fun h => qt p (g h))) k (cut p g m) (m : Int) = some (cut p g t) := by
  intro r
  induction r with
  | zero =>
   intro m k hm hk
   obtain ⟨k, rfl⟩ : ∃ k', k = k' + 1 := ⟨k - 1, by omega⟩
   have : m = t := by omega
   subst this
   rw [s_166_l1, decide_eq_false (by rw [lstI_length]; omega), cond_false]
  | succ r ih =>
   intro m k hm hk
   obtain ⟨k, rfl⟩ : ∃ k', k = k' + 1 := ⟨k - 1, by omega⟩
   have h1 := cut_le hp m (fun h hh => hg h (by omega))
   have h2 := qt_le hp (hg m (by omega))
   rw [s_166_l1, decide_eq_true (by rw [lstI_length]; omega), cond_true, ix_at (lstI_get (by omega)), Option.bind_some, wr_of (x := cut p g m + qt p (g m)) (by omega), wr_of (by omega)]
   exact_mod_cast ih (m + 1) k (by omega) (by omega)
 exact key t 0 n (by omega) (by omega)
theorem p_118 (hb : b.ok) (hn : 100 ≤ n) (ht : t ≤ 50) {f : Int → Option Int} (hf : ∀ h, h < t → f (h : Int) = some (g h)) (hg : ∀ h, h < t → 0 ≤ g h ∧ g h ≤ 5000) : s_118 n b (t : Int) f = some (stateAt b g t) := by
 obtain ⟨h1, h2, h3, h4, h5, h6⟩ := hb
 have key : ∀ (r m k : Nat), m + r = t → r < k → s_118_l1 n f b (t : Int) k (m : Int) (lstI m (fun h => qt b.polish (g h))) (lstI m (fun h => qt b.eat (g h))) = some (stateAt b g t) := by
  intro r
  induction r with
  | zero =>
   intro m k hm hk
   obtain ⟨k, rfl⟩ : ∃ k', k = k' + 1 := ⟨k - 1, by omega⟩
   have : m = t := by omega
   subst this
   have c1 := cut_le h5 m hg
   have c2 := cut_le h6 m hg
   rw [s_118_l1, decide_eq_false (by omega), cond_false, p_166 h5 hn ht hg, Option.bind_some, p_166 h6 hn ht hg, Option.bind_some, wr_of (by omega), wr_of (by omega)]
   rfl
  | succ r ih =>
   intro m k hm hk
   obtain ⟨k, rfl⟩ : ∃ k', k = k' + 1 := ⟨k - 1, by omega⟩
   rw [s_118_l1, decide_eq_true (by omega), cond_true, hf m (by omega), Option.bind_some, p_quo h5 (hg m (by omega)), Option.bind_some, app_of (by rw [lstI_length]; simp; omega), Option.bind_some,
    p_quo h6 (hg m (by omega)), Option.bind_some, app_of (by rw [lstI_length]; simp; omega), Option.bind_some, wr_of (by omega)]
   have := ih (m + 1) k (by omega) (by omega)
   rw [lstI_succ, lstI_succ] at this
   exact_mod_cast this
 exact key t 0 n (by omega) (by omega)
theorem p_140 (hb : b.ok) (hn : 100 ≤ n) (ht : t ≤ 50) {l : List Int} (hl : ∀ h, h < t → l[h]? = some (g h)) (hg : ∀ h, h < t → 0 ≤ g h ∧ g h ≤ 5000) : s_140 n b l (t : Int) = some (stateAt b g t) := by
 obtain ⟨h1, h2, h3, h4, h5, h6⟩ := hb
 have key : ∀ (r m k : Nat), m + r = t → r < k → s_140_l1 b l (t : Int) k (b.rough - cut b.polish g m) (b.thick - cut b.eat g m) (m : Int) = some (stateAt b g t) := by
  intro r
  induction r with
  | zero =>
   intro m k hm hk
   obtain ⟨k, rfl⟩ : ∃ k', k = k' + 1 := ⟨k - 1, by omega⟩
   have : m = t := by omega
   subst this
   rw [s_140_l1, decide_eq_false (by omega), cond_false]
   rfl
  | succ r ih =>
   intro m k hm hk
   obtain ⟨k, rfl⟩ : ∃ k', k = k' + 1 := ⟨k - 1, by omega⟩
   have hgm := hg m (by omega)
   have c1 := cut_le h5 m (fun h hh => hg h (by omega))
   have c2 := cut_le h6 m (fun h hh => hg h (by omega))
   have q1 := qt_le h5 hgm
   have q2 := qt_le h6 hgm
   rw [s_140_l1, decide_eq_true (by omega), cond_true, ix_at (hl m (by omega))]
   simp only [Option.bind_some, p_quo h5 hgm, p_quo h6 hgm]
   rw [wr_of (x := b.rough - cut b.polish g m - qt b.polish (g m)) (by omega), wr_of (x := b.thick - cut b.eat g m - qt b.eat (g m)) (by omega), wr_of (by omega)]
   have := ih (m + 1) k (by omega) (by omega)
   rw [show b.rough - cut b.polish g m - qt b.polish (g m) = b.rough - cut b.polish g (m + 1) by rw [cut]; omega, show b.thick - cut b.eat g m - qt b.eat (g m) = b.thick - cut b.eat g (m + 1) by rw [cut]; omega]
   exact_mod_cast this
 have := key t 0 n (by omega) (by omega)
 simpa [cut, s_140] using this
theorem p_73 (hn : 100 ≤ n) {H : Nat} (hH : H ≤ 50) (c : Nat → Span) (hi : Bool) : s_73 n (lst H c) hi = some (lstI H (fun h => bif hi then (c h).high else (c h).low)) := by
 have key : ∀ (r m k : Nat), m + r = H → r < k → s_73_l1 (lst H c) hi k (m : Int) (lstI m (fun h => bif hi then (c h).high else (c h).low)) = some (lstI H (fun h => bif hi then (c h).high else (c h).low)) := by
  intro r
  induction r with
  | zero =>
   intro m k hm hk
   obtain ⟨k, rfl⟩ : ∃ k', k = k' + 1 := ⟨k - 1, by omega⟩
   have : m = H := by omega
   subst this
   rw [s_73_l1, decide_eq_false (by rw [lst_length]; omega), cond_false]
  | succ r ih =>
   intro m k hm hk
   obtain ⟨k, rfl⟩ : ∃ k', k = k' + 1 := ⟨k - 1, by omega⟩
   have := ih (m + 1) k (by omega) (by omega)
   rw [lstI_succ] at this
   have e1 : wr ((m : Int) + 1) = ((m + 1 : Nat) : Int) := by rw [wr_of (by omega)]; push_cast; rfl
   rw [s_73_l1, decide_eq_true (by rw [lst_length]; omega), cond_true, ix_at (lst_get (by omega)), e1]
   cases hi with
   | false =>
    simp only [Option.bind_some, cond_false] at this ⊢
    rw [app_of (by rw [lstI_length]; simp; omega), Option.bind_some]
    exact this
   | true =>
    simp only [Option.bind_some, cond_true] at this ⊢
    rw [app_of (by rw [lstI_length]; simp; omega), Option.bind_some]
    exact this
 exact key H 0 n (by omega) (by omega)
def loS (d : Drum) (b : Batch) (i t : Nat) : State := stateAt b (fun h => (bdAt d i h).low) t
def hiS (d : Drum) (b : Batch) (i t : Nat) : State := stateAt b (fun h => (bdAt d i h).high) t
def bOf (d : Drum) (b : Batch) (t i : Nat) : Bounds := ⟨⟨(hiS d b i t).rough, (loS d b i t).rough⟩, ⟨(hiS d b i t).thick, (loS d b i t).thick⟩⟩
def updB (x y : Bounds) : Bounds := ⟨⟨min x.rough.low y.rough.low, max x.rough.high y.rough.high⟩, ⟨min x.thick.low y.thick.low, max x.thick.high y.thick.high⟩⟩
def bnds (d : Drum) (b : Batch) (t : Nat) : Bounds := (idx d).foldl (fun s i => updB s (bOf d b t i)) (bOf d b t ((idx d).headD 0))
theorem updB_self (x : Bounds) : updB x x = x := by
 unfold updB
 ext <;> simp only <;> omega
theorem bdAt_pos (hd : d.ok) {i h : Nat} (hi : i ∈ idx d) (hh : h < hrs d) : 0 ≤ (bdAt d i h).low ∧ (bdAt d i h).low ≤ (bdAt d i h).high ∧ (bdAt d i h).high ≤ 1300 := by
 obtain ⟨m1, m2⟩ := idx_mem hi
 have hhr := hrs_le hd
 unfold PossI at m2
 simp only [Bool.and_eq_true, decide_eq_true_eq] at m2
 have h1 := fw_low (st := d.strips) (acidAt_ok hd m1) hd.ad h
 have h2 := bd_ok (acidAt_ok hd m1) hd.ad m2.2 hh
 simp only [Span.ne] at h2
 unfold bdAt
 omega
theorem p_118lo (hd : d.ok) (hn : 100 ≤ n) (hb : b.ok) {i : Nat} (hi : i ∈ idx d) (ht : t ≤ hrs d) : s_118 n b (t : Int) (fun z => s_85 n ⟨d, (i : Int), bdI d i⟩ z) = some (loS d b i t) := by
 have hhr := hrs_le hd
 exact p_118 hb hn (by omega) (fun h hh => p_85 (by omega)) (fun h hh => by have := bdAt_pos hd hi (show h < hrs d by omega); omega)
theorem p_118hi (hd : d.ok) (hn : 100 ≤ n) (hb : b.ok) {i : Nat} (hi : i ∈ idx d) (ht : t ≤ hrs d) : s_118 n b (t : Int) (fun z => s_86 n ⟨d, (i : Int), bdI d i⟩ z) = some (hiS d b i t) := by
 have hhr := hrs_le hd
 exact p_118 hb hn (by omega) (fun h hh => p_86 (by omega)) (fun h hh => by have := bdAt_pos hd hi (show h < hrs d by omega); omega)
theorem p_140lo (hd : d.ok) (hn : 100 ≤ n) (hb : b.ok) {i : Nat} (hi : i ∈ idx d) (ht : t ≤ hrs d) : s_140 n b (lstI (hrs d) (fun h => (bdAt d i h).low)) (t : Int) = some (loS d b i t) := by
 have hhr := hrs_le hd
 exact p_140 hb hn (by omega) (fun h hh => lstI_get (by omega)) (fun h hh => by have := bdAt_pos hd hi (show h < hrs d by omega); omega)
theorem p_140hi (hd : d.ok) (hn : 100 ≤ n) (hb : b.ok) {i : Nat} (hi : i ∈ idx d) (ht : t ≤ hrs d) : s_140 n b (lstI (hrs d) (fun h => (bdAt d i h).high)) (t : Int) = some (hiS d b i t) := by
 have hhr := hrs_le hd
 exact p_140 hb hn (by omega) (fun h hh => lstI_get (by omega)) (fun h hh => by have := bdAt_pos hd hi (show h < hrs d by omega); omega)
theorem p_120 (hd : d.ok) (hn : 100 ≤ n) (hb : b.ok) (hne : idx d ≠ []) (ht : t ≤ hrs d) : s_120 n (filL d) b (t : Int) = some (bnds d b t) := by
 have hil := idx_len hd
 obtain ⟨i0, r0, hi0⟩ : ∃ i r, idx d = i :: r := by
  cases h : idx d with
  | nil => exact absurd h hne
  | cons i r => exact ⟨i, r, rfl⟩
 have hfl : (filL d).length = (idx d).length := by simp [filL]
 have rest : ∀ (r : List Nat) (p k : Nat) (x : Bounds), (idx d).drop p = r → 0 < p → p ≤ (idx d).length → (idx d).length < k + p → s_120_l1 n (filL d) b (t : Int) k (p : Int) x = some (r.foldl (fun s i => updB s (bOf d b t i)) x) := by
  intro r
  induction r with
  | nil =>
   intro p k x hr hp hp2 hk
   have hpl : (idx d).length ≤ p := List.drop_eq_nil_iff.1 hr
   obtain ⟨k, rfl⟩ : ∃ k', k = k' + 1 := ⟨k - 1, by omega⟩
   rw [s_120_l1, decide_eq_false (by omega), cond_false]
   rfl
  | cons j r ih =>
   intro p k x hr hp hp2 hk
   have hpl : p < (idx d).length := by
    rcases Nat.lt_or_ge p (idx d).length with h | h
    ·exact h
    ·rw [List.drop_eq_nil_of_le h] at hr; cases hr
   obtain ⟨k, rfl⟩ : ∃ k', k = k' + 1 := ⟨k - 1, by omega⟩
   rw [List.drop_eq_getElem_cons hpl] at hr
   obtain ⟨hj, hr2⟩ := List.cons.inj hr
   have hjm : j ∈ idx d := by rw [← hj]; exact List.getElem_mem hpl
   have gx : ix (filL d) (p : Int) = some ⟨d, (j : Int), bdI d j⟩ := ix_at (by unfold filL; rw [List.getElem?_map, List.getElem?_eq_getElem hpl, hj]; rfl)
   rw [s_120_l1, decide_eq_true (by omega), cond_true, gx, Option.bind_some, p_118lo hd hn hb hjm ht, Option.bind_some, p_118hi hd hn hb hjm ht, Option.bind_some, decide_eq_false (by omega), cond_false, wr_of (by omega)]
   exact_mod_cast ih (p + 1) k _ hr2 (by omega) (by omega) (by omega)
 obtain ⟨n', hn'⟩ : ∃ n', n = n' + 1 := ⟨n - 1, by omega⟩
 have him : i0 ∈ idx d := by rw [hi0]; exact List.mem_cons_self
 have g0 : ix (filL d) 0 = some ⟨d, (i0 : Int), bdI d i0⟩ := ix_at (i := 0) (by unfold filL; rw [hi0]; rfl)
 have h0 : s_120_l1 n (filL d) b (t : Int) (n' + 1) 0 (Bounds.mk (Span.mk 0 0) (Span.mk 0 0)) = s_120_l1 n (filL d) b (t : Int) n' 1 (bOf d b t i0) := by
  rw [s_120_l1, decide_eq_true (by rw [hfl, hi0]; simp), cond_true, g0, Option.bind_some, p_118lo hd hn hb him ht, Option.bind_some, p_118hi hd hn hb him ht, Option.bind_some]
  rfl
 unfold s_120
 rw [show s_120_l1 n (filL d) b (t : Int) n 0 (Bounds.mk (Span.mk 0 0) (Span.mk 0 0)) = s_120_l1 n (filL d) b (t : Int) (n' + 1) 0 (Bounds.mk (Span.mk 0 0) (Span.mk 0 0)) by rw [hn'], h0]
 have h1 := rest r0 1 n' (bOf d b t i0) (by rw [hi0]; rfl) (by omega) (by rw [hi0]; simp) (by omega)
 rw [show ((1 : Nat) : Int) = 1 from rfl] at h1
 rw [h1]
 unfold bnds
 rw [hi0]
 simp only [List.headD_cons, List.foldl_cons, updB_self]
theorem p_94 (hd : d.ok) (hn : 100 ≤ n) {j : Nat} (hj : d.batches[j]? = some b) (hne : idx d ≠ []) (ht : t ≤ hrs d) : s_94 n d (j : Int) (t : Int) = some (bnds d b t) := by
 have hil := idx_len hd
 have hhr := hrs_le hd
 have hb := hd.bt b (List.mem_of_getElem? hj)
 obtain ⟨i0, r0, hi0⟩ : ∃ i r, idx d = i :: r := by
  cases h : idx d with
  | nil => exact absurd h hne
  | cons i r => exact ⟨i, r, rfl⟩
 have hfl : (intL (idx d)).length = (idx d).length := by simp [intL]
 have step : ∀ (p k : Nat) (x : Bounds) (i : Nat), (idx d)[p]? = some i → s_94_l1 n d (j : Int) (t : Int) (intL (idx d)) (k + 1) (p : Int) x = s_94_l1 n d (j : Int) (t : Int) (intL (idx d)) k ((p : Int) + 1) (updB (bif decide ((p : Int) = 0) then bOf d b t i else x) (bOf d b t i)) := by
  intro p k x i hi
  have hpl := (List.getElem?_eq_some_iff.1 hi).1
  have him : i ∈ idx d := List.mem_of_getElem? hi
  obtain ⟨m1, m2⟩ := idx_mem him
  have gx : ix (intL (idx d)) (p : Int) = some (i : Int) := ix_at (by unfold intL; rw [List.getElem?_map, hi]; rfl)
  have e1 : s_73 n (bdI d i) false = some (lstI (hrs d) (fun h => (bdAt d i h).low)) := p_73 hn (by omega) (bdAt d i) false
  have e2 : s_73 n (bdI d i) true = some (lstI (hrs d) (fun h => (bdAt d i h).high)) := p_73 hn (by omega) (bdAt d i) true
  rw [s_94_l1, decide_eq_true (by omega), cond_true, gx, Option.bind_some, q_90 hd hn m1, m2]
  simp only [Option.bind_some, cond_true, ix_at hj, e1, e2, p_140lo hd hn hb him ht, p_140hi hd hn hb him ht]
  unfold s_94_j4
  rw [wr_of (by omega)]
  cases decide ((p : Int) = 0) <;> rfl
 have rest : ∀ (r : List Nat) (p k : Nat) (x : Bounds), (idx d).drop p = r → 0 < p → p ≤ (idx d).length → (idx d).length < k + p → s_94_l1 n d (j : Int) (t : Int) (intL (idx d)) k (p : Int) x = some (r.foldl (fun s i => updB s (bOf d b t i)) x) := by
  intro r
  induction r with
  | nil =>
   intro p k x hr hp hp2 hk
   have hpl : (idx d).length ≤ p := List.drop_eq_nil_iff.1 hr
   obtain ⟨k, rfl⟩ : ∃ k', k = k' + 1 := ⟨k - 1, by omega⟩
   rw [s_94_l1, decide_eq_false (by omega), cond_false]
   rfl
  | cons q r ih =>
   intro p k x hr hp hp2 hk
   have hpl : p < (idx d).length := by
    rcases Nat.lt_or_ge p (idx d).length with h | h
    ·exact h
    ·rw [List.drop_eq_nil_of_le h] at hr; cases hr
   obtain ⟨k, rfl⟩ : ∃ k', k = k' + 1 := ⟨k - 1, by omega⟩
   rw [List.drop_eq_getElem_cons hpl] at hr
   obtain ⟨hq, hr2⟩ := List.cons.inj hr
   rw [step p k x q (by rw [List.getElem?_eq_getElem hpl, hq]), decide_eq_false (by omega), cond_false]
   exact_mod_cast ih (p + 1) k _ hr2 (by omega) (by omega) (by omega)
 obtain ⟨n', hn'⟩ : ∃ n', n = n' + 1 := ⟨n - 1, by omega⟩
 have h0 := step 0 n' (Bounds.mk (Span.mk 0 0) (Span.mk 0 0)) i0 (by rw [hi0]; rfl)
 rw [show decide (((0 : Nat) : Int) = 0) = true from rfl, cond_true, updB_self] at h0
 unfold s_94
 rw [p_80 hd hn, Option.bind_some]
 rw [show s_94_l1 n d (j : Int) (t : Int) (intL (idx d)) n 0 (Bounds.mk (Span.mk 0 0) (Span.mk 0 0)) = s_94_l1 n d (j : Int) (t : Int) (intL (idx d)) (n' + 1) ((0 : Nat) : Int) (Bounds.mk (Span.mk 0 0) (Span.mk 0 0)) by rw [hn']; rfl, h0]
 have h1 := rest r0 1 n' (bOf d b t i0) (by rw [hi0]; rfl) (by omega) (by rw [hi0]; simp) (by omega)
 rw [show (((0 : Nat) : Int) + 1) = ((1 : Nat) : Int) from rfl, h1]
 unfold bnds
 rw [hi0]
 simp only [List.headD_cons, List.foldl_cons, updB_self]
end
end Go.Proofs.YtohmhlkdgfcaeaaGreatDoor
namespace Go.Proofs.YtohmhlkdgfcaeaaGreatDoor
open Go Go.RowKit
def lastH (p : Nat → Bool) : Nat → Int
 | 0 => -1
 | m + 1 => bif p m then (m : Int) else lastH p m
def smP (d : Drum) (b : Batch) (t : Nat) : Bool := decide ((bnds d b t).rough.high ≤ b.goal)
def thP (d : Drum) (b : Batch) (t : Nat) : Bool := decide (b.least ≤ (bnds d b t).thick.low)
section
variable {n : Nat} {d : Drum} {b : Batch}
theorem fil_head (hne : idx d ≠ []) : ∃ i0 : Nat, ix (filL d) 0 = some ⟨d, (i0 : Int), bdI d i0⟩ := by
 obtain ⟨i0, r0, hi0⟩ : ∃ i r, idx d = i :: r := by
  cases h : idx d with
  | nil => exact absurd h hne
  | cons i r => exact ⟨i, r, rfl⟩
 exact ⟨i0, ix_at (i := 0) (by unfold filL; rw [hi0]; rfl)⟩
theorem p_92 (hd : d.ok) (hn : 100 ≤ n) (hb : b.ok) (hne : idx d ≠ []) : s_92 n (filL d) b = some (firstH (smP d b) (hrs d + 1) 0) := by
 have hhr := hrs_le hd
 have hH := hrs_eq hd
 obtain ⟨i0, g0⟩ := fil_head hne
 have key : ∀ (r m k : Nat), m + r = hrs d + 1 → r < k → s_92_l1 n (filL d) b ⟨d, (i0 : Int), bdI d i0⟩ k (m : Int) = some (firstH (smP d b) r m) := by
  intro r
  induction r with
  | zero =>
   intro m k hm hk
   obtain ⟨k, rfl⟩ : ∃ k', k = k' + 1 := ⟨k - 1, by omega⟩
   rw [s_92_l1, wr_of (x := d.hours + 1) (by omega), decide_eq_false (by omega), cond_false]
   rfl
  | succ r ih =>
   intro m k hm hk
   obtain ⟨k, rfl⟩ : ∃ k', k = k' + 1 := ⟨k - 1, by omega⟩
   rw [s_92_l1, wr_of (x := d.hours + 1) (by omega), decide_eq_true (by omega), cond_true, p_120 hd hn hb hne (by omega), Option.bind_some, wr_of (by omega), firstH]
   have := ih (m + 1) k (by omega) (by omega)
   push_cast at this
   rw [this]
   show (bif smP d b m then _ else _) = _
   cases smP d b m <;> rfl
 unfold s_92
 rw [g0, Option.bind_some]
 exact key (hrs d + 1) 0 n (by omega) (by omega)
theorem p_93 (hd : d.ok) (hn : 100 ≤ n) (hb : b.ok) (hne : idx d ≠ []) : s_93 n (filL d) b = some (lastH (thP d b) (hrs d + 1)) := by
 have hhr := hrs_le hd
 have hH := hrs_eq hd
 obtain ⟨i0, g0⟩ := fil_head hne
 have key : ∀ (m k : Nat), m ≤ hrs d + 1 → m < k → s_93_l1 n (filL d) b k ((m : Int) - 1) = some (lastH (thP d b) m) := by
  intro m
  induction m with
  | zero =>
   intro k hm hk
   obtain ⟨k, rfl⟩ : ∃ k', k = k' + 1 := ⟨k - 1, by omega⟩
   rw [s_93_l1, decide_eq_false (by omega), cond_false]
   rfl
  | succ m ih =>
   intro k hm hk
   obtain ⟨k, rfl⟩ : ∃ k', k = k' + 1 := ⟨k - 1, by omega⟩
   have e0 : (((m + 1 : Nat) : Int) - 1) = (m : Int) := by omega
   rw [s_93_l1, e0, decide_eq_true (by omega), cond_true, p_120 hd hn hb hne (by omega), Option.bind_some, wr_of (by omega), lastH, ih k (by omega) (by omega)]
   show (bif thP d b m then _ else _) = _
   cases thP d b m <;> rfl
 unfold s_93
 rw [g0, Option.bind_some]
 have := key (hrs d + 1) n (by omega) (by omega)
 rw [show (((hrs d + 1 : Nat) : Int) - 1) = d.hours by omega] at this
 exact this
theorem p_33 (hd : d.ok) (hn : 100 ≤ n) {j : Nat} (hj : d.batches[j]? = some b) (hne : idx d ≠ []) : s_33 n d (j : Int) = some (firstH (smP d b) (hrs d + 1) 0) := by
 have hhr := hrs_le hd
 have hH := hrs_eq hd
 have key : ∀ (r m k : Nat), m + r = hrs d + 1 → r < k → s_33_l1 n d (j : Int) k (m : Int) = some (firstH (smP d b) r m) := by
  intro r
  induction r with
  | zero =>
   intro m k hm hk
   obtain ⟨k, rfl⟩ : ∃ k', k = k' + 1 := ⟨k - 1, by omega⟩
   rw [s_33_l1, decide_eq_false (by omega), cond_false]
   rfl
  | succ r ih =>
   intro m k hm hk
   obtain ⟨k, rfl⟩ : ∃ k', k = k' + 1 := ⟨k - 1, by omega⟩
   rw [s_33_l1, decide_eq_true (by omega), cond_true, p_94 hd hn hj hne (by omega), Option.bind_some, ix_at hj, Option.bind_some, wr_of (by omega), firstH]
   have := ih (m + 1) k (by omega) (by omega)
   push_cast at this
   rw [this]
   show (bif smP d b m then _ else _) = _
   cases smP d b m <;> rfl
 unfold s_33
 exact key (hrs d + 1) 0 n (by omega) (by omega)
theorem p_34 (hd : d.ok) (hn : 100 ≤ n) {j : Nat} (hj : d.batches[j]? = some b) (hne : idx d ≠ []) : s_34 n d (j : Int) = some (lastH (thP d b) (hrs d + 1)) := by
 have hhr := hrs_le hd
 have hH := hrs_eq hd
 have key : ∀ (m k : Nat), m ≤ hrs d + 1 → m < k → s_34_l1 n d (j : Int) k ((m : Int) - 1) = some (lastH (thP d b) m) := by
  intro m
  induction m with
  | zero =>
   intro k hm hk
   obtain ⟨k, rfl⟩ : ∃ k', k = k' + 1 := ⟨k - 1, by omega⟩
   rw [s_34_l1, decide_eq_false (by omega), cond_false]
   rfl
  | succ m ih =>
   intro k hm hk
   obtain ⟨k, rfl⟩ : ∃ k', k = k' + 1 := ⟨k - 1, by omega⟩
   have e0 : (((m + 1 : Nat) : Int) - 1) = (m : Int) := by omega
   rw [s_34_l1, e0, decide_eq_true (by omega), cond_true, p_94 hd hn hj hne (by omega), Option.bind_some, ix_at hj, Option.bind_some, wr_of (by omega), lastH, ih k (by omega) (by omega)]
   show (bif thP d b m then _ else _) = _
   cases thP d b m <;> rfl
 unfold s_34
 have := key (hrs d + 1) n (by omega) (by omega)
 rw [show (((hrs d + 1 : Nat) : Int) - 1) = d.hours by omega] at this
 exact this
def orNone (v : Int) : Int × Int := bif decide (v < 0) then (0, 5) else (v, 0)
def batchAt (d : Drum) (j : Int) : Batch := d.batches.getD j.toNat default
def fineB (d : Drum) (j : Int) : Bool := decide (0 ≤ j) && decide (j < ((d.batches.length : Nat) : Int))
theorem batchAt_get {j : Int} (h : fineB d j = true) : ∃ j' : Nat, j = (j' : Int) ∧ d.batches[j']? = some (batchAt d j) := by
 simp only [fineB, Bool.and_eq_true, decide_eq_true_eq] at h
 refine ⟨j.toNat, by omega, ?_⟩
 unfold batchAt
 have hl : j.toNat < d.batches.length := by omega
 rw [List.getD_eq_getElem?_getD, List.getElem?_eq_getElem hl]; rfl
theorem err_zero {fine : Bool} (he : err d fine = 0) : okD d = true ∧ fine = true ∧ idx d ≠ [] := by
 unfold err at he
 cases h : okD d <;> cases h2 : fine <;> rw [h, h2] at he <;> simp at he
 refine ⟨rfl, rfl, fun h3 => ?_⟩
 rw [h3] at he
 simp at he
theorem p_91 (hn : 100 ≤ n) (hs : Short d) (j : Int) (f : List Filled → Batch → Option Int) (v : Int) (hf : err d (fineB d j) = 0 → f (filL d) (batchAt d j) = some v) : s_91 n d j f = some (bif decide (err d (fineB d j) = 0) then orNone v else (0, err d (fineB d j))) := by
 have h8 := hs.e
 have e1 : inb j 0 (wr (((d.batches.length : Nat) : Int) - 1)) = fineB d j := by
  rw [wr_of (by omega)]
  unfold inb fineB
  congr 1
  rw [decide_eq_decide]
  omega
 unfold s_91
 rw [p_87, Option.bind_some, e1, p_84 hn hs, Option.bind_some]
 by_cases he : err d (fineB d j) = 0
 ·obtain ⟨j', hj, hb⟩ := batchAt_get (err_zero he).2.1
  simp only [he, decide_true, Bool.not_true, cond_false, cond_true]
  have hx : ix d.batches j = some (batchAt d j) := by
   have := ix_at hb
   rw [← hj] at this
   exact this
  rw [hx, Option.bind_some, hf he, Option.bind_some]
  unfold orNone
  cases decide (v < 0) <;> rfl
 ·simp only [decide_eq_false he, Bool.not_false, cond_true, cond_false]
theorem law_4 (d : Drum) (j : Int) : s_4 1000 d j = some true := by
 unfold s_4
 rw [p_23, Option.bind_some]
 cases hsh : shortB d with
 | false => simp only [Bool.not_false, cond_true, p_24, Option.bind_some]
 | true =>
  have hs := shortB_iff.1 hsh
  have hn : 100 ≤ 1000 := by omega
  have e31 : s_31 1000 d j = some (bif decide (err d (fineB d j) = 0) then orNone (firstH (smP d (batchAt d j)) (hrs d + 1) 0) else (0, err d (fineB d j))) := by
   unfold s_31
   rw [p_91 hn hs j _ (firstH (smP d (batchAt d j)) (hrs d + 1) 0) (fun he => by
    obtain ⟨h1, h2, h3⟩ := err_zero he
    have hd := okD_iff.1 h1
    obtain ⟨j', hj, hb⟩ := batchAt_get h2
    exact p_92 hd hn (hd.bt _ (List.mem_of_getElem? hb)) h3)]
   rfl
  have e32 : s_32 1000 d j = some (bif decide (err d (fineB d j) = 0) then orNone (lastH (thP d (batchAt d j)) (hrs d + 1)) else (0, err d (fineB d j))) := by
   unfold s_32
   rw [p_91 hn hs j _ (lastH (thP d (batchAt d j)) (hrs d + 1)) (fun he => by
    obtain ⟨h1, h2, h3⟩ := err_zero he
    have hd := okD_iff.1 h1
    obtain ⟨j', hj, hb⟩ := batchAt_get h2
    exact p_93 hd hn (hd.bt _ (List.mem_of_getElem? hb)) h3)]
   rfl
  have last : ∀ (v w : Int × Int), v = (bif decide (err d (fineB d j) = 0) then orNone (firstH (smP d (batchAt d j)) (hrs d + 1) 0) else (0, err d (fineB d j))) → w = (bif decide (err d (fineB d j) = 0) then orNone (lastH (thP d (batchAt d j)) (hrs d + 1)) else (0, err d (fineB d j))) → s_4_j1 1000 d j v w (err d (fineB d j)) = some true := by
   intro v w hv hw
   unfold s_4_j1
   by_cases he : err d (fineB d j) = 0
   ·obtain ⟨h1, h2, h3⟩ := err_zero he
    have hd := okD_iff.1 h1
    obtain ⟨j', hj, hb⟩ := batchAt_get h2
    rw [he] at hv hw ⊢
    simp only [decide_true, cond_true, Bool.not_true, cond_false] at hv hw ⊢
    have e1 := p_33 hd hn hb h3
    have e2 := p_34 hd hn hb h3
    rw [← hj] at e1 e2
    rw [e1, Option.bind_some, e2, Option.bind_some]
    generalize firstH (smP d (batchAt d j)) (hrs d + 1) 0 = s at hv
    generalize lastH (thP d (batchAt d j)) (hrs d + 1) = t at hw
    have hj2 : s_4_j2 1000 w t false = some true := by
     unfold s_4_j2 orNone at *
     by_cases ht : t < 0
     ·rw [decide_eq_true ht] at hw ⊢
      subst hw
      rw [p_24]; rfl
     ·rw [decide_eq_false ht] at hw ⊢
      subst hw
      rw [p_24]
      simp
    unfold orNone at hv
    by_cases hs0 : s < 0
    ·rw [decide_eq_true hs0] at hv ⊢
     subst hv
     rw [decide_eq_false (show ¬ 0 ≤ s by omega), hj2]
     rfl
    ·rw [decide_eq_false hs0] at hv ⊢
     subst hv
     rw [decide_eq_true (show 0 ≤ s by omega)]
     simp [hj2]
   ·rw [decide_eq_false he, cond_false] at hv hw
    subst hv hw
    rw [p_24, decide_eq_false he]
    simp
  simp only [Bool.not_true, cond_false, e31, e32, Option.bind_some]
  by_cases h0 : 0 ≤ j
  ·rw [decide_eq_true h0, cond_true, p_27 hn hs, Option.bind_some]
   have : fineB d j = decide (j < ((d.batches.length : Nat) : Int)) := by unfold fineB; rw [decide_eq_true h0]; rfl
   rw [← this]
   exact last _ _ rfl rfl
  ·rw [decide_eq_false h0, cond_false, p_27 hn hs, Option.bind_some]
   have : fineB d j = false := by unfold fineB; rw [decide_eq_false h0]; rfl
   rw [this] at last ⊢
   exact last _ _ rfl rfl
end
end Go.Proofs.YtohmhlkdgfcaeaaGreatDoor
namespace Go.Proofs.YtohmhlkdgfcaeaaGreatDoor
open Go Go.RowKit Go.ChangeShapes Go.WideShapes
set_option maxRecDepth 100000
theorem drumHours_lifted (os : Os) (started : os.Started) (H : Type) (enc : TypeId × Value → H) :
  ReturnsInHanded {} Tryz.checked os 4 .any (fun w args => (Rows.drumHoursSpec.pre enc Tryz.prog Tryz.f4 [] false w args ∧ laidMetH Tryz.prog Rows.drumHoursRow.laid w) ∧ sizedMet enc Tryz.prog Tryz.f4 (OpenSpec.ofChange Rows.drumHoursSpec) false w args)
   (Rows.drumHoursSpec.post enc Tryz.prog Tryz.f4 false true false false) :=
 law_row (s := Rows.drumHoursSpec) (enc := enc) started #[.agg #[.slice none 0 0, .int .i64 0, .int .i64 0, .slice none 0 0, .slice none 0 0, .slice none 0 0], .int .i64 0] (by kernel_rfl) Tryz.func4 (by kernel_rfl) (by kernel_rfl) (by kernel_rfl) rfl
   (by
    rw [Tryz.params4]
    have h : ∀ t ∈ ([27, 3] : List Nat), t ∈ [3, 9, 23, 27, 54, 92] := by decide
    exact fun t ht => parT t (h t ht)) rfl
   (by
    rw [Tryz.params4]
    intro ds h
    match ds, h with
    | [d0, d1], _ => rfl)
   (by
    rw [Tryz.params4]
    intro W base args ds p hval hA
    obtain ⟨args⟩ := args
    obtain ⟨v0, vs0, d0, ds0, p0, q0, e0, rfl, rfl, h0, r0⟩ := trodAll_cons hA
    have e0 : args = _ := e0; subst e0
    obtain ⟨v1, vs1, d1, ds1, p1, q1, e1, rfl, rfl, h1, r1⟩ := trodAll_cons r0
    subst e1
    obtain ⟨rfl, rfl, rfl⟩ := trodAll_nil r1
    obtain ⟨x0, z0⟩ := rd_drum (hval 0 27 v0 rfl rfl) h0
    obtain ⟨x1, z1⟩ := rd_int (hval 1 3 v1 rfl rfl)
    refine ⟨rfl, [.agg (cDrum x0), .i x1], ⟨rfl, ?_⟩, c_4 1000 x0 x1 (law_4 x0 x1)⟩
    intro j c u hc hu
    match j, hc, hu with
    | 0, hc, hu => cases hc; cases hu; exact z0
    | 1, hc, hu => cases hc; cases hu; exact z1)
theorem drumHours_facts : factsA Tryz.prog Tryz.f4 Rows.drumHoursSpec Rows.drumHoursRow = true := by kernel_rfl
theorem drumHours_road0 : (Rows.drumHoursRow.inPlace == Tryz.prog.inPlace 4) = true := by kernel_rfl
theorem drumHours_road1 : (Rows.drumHoursRow.unfollowed == Tryz.prog.unfollowed 4) = true := by kernel_rfl
theorem drumHours_road2 : (Rows.drumHoursRow.recurses == Tryz.prog.recurses 4) = true := by kernel_rfl
theorem drumHours_road3 : (Rows.drumHoursRow.named == Tryz.prog.varsNamed 4) = true := by kernel_rfl
theorem drumHours_row : Rows.DrumHoursSaid :=
 OpenClaim.holds_of_wide 4 Tryz.f4 rfl rfl rfl rfl rfl rfl rfl ⟨rfl, rfl, rfl, rfl, rfl⟩ rfl rfl rfl rfl rfl (by as_aux_lemma => kernel_rfl) Tryz.func4 (joined_of drumHours_facts drumHours_road0 drumHours_road1 drumHours_road2 drumHours_road3)
  (of_decide_eq_true (by as_aux_lemma => kernel_rfl)) (by unfold Func.isWrapper; rw [if_neg (of_decide_eq_false (by as_aux_lemma => kernel_rfl))]; exact ⟨rfl, rfl⟩)
  (fun os started H enc _ => drumHours_lifted os started H enc)
theorem drumHours_card : Rows.DrumHoursCardSaid :=
 Claim7.holds_tied_plain_at .later [] [.data, .data, .data, .data, .pinned] true (true, "263524fd91af563947b647e8709e73ef988cdef21cccd4074f632dc410392126") true drumHours_row (fun _ h => by cases h) (by as_aux_lemma => kernel_rfl) (fun _ h => by cases h) drumHours_row_tie rfl ⟨rfl, rfl⟩ mainK rfl
  (fun f fn hf hfn => by
   obtain rfl : f = 4 := Option.some.inj ((show Tryz.prog.funcNamed "nacre/nacrelaw03.DrumHours" = some 4 by as_aux_lemma => kernel_rfl).symm.trans hf) |>.symm
   obtain rfl : fn = Tryz.f4 := (Option.some.inj (Tryz.func4.symm.trans hfn)).symm
   exact ⟨looksK, fun j t ht => by
    rw [Tryz.params4] at ht
    have hm : t ∈ [27, 3] := by simpa using Array.mem_of_getElem? ht
    have h : ∀ t ∈ ([27, 3] : List Nat), t ∈ [3, 9, 23, 27, 54, 92] := by decide
    exact standK t (h t hm)⟩)
  (by as_aux_lemma => kernel_rfl)
#print axioms drumHours_card
end Go.Proofs.YtohmhlkdgfcaeaaGreatDoor
namespace Go.Proofs.YtohmhlkdgfcaeaaGreatDoor
open Go Go.RowKit
section
variable {α : Type} (lt : α → α → Bool)
def least : α → List α → α
 | x, [] => x
 | x, y :: r => least (bif lt y x then y else x) r
end
end Go.Proofs.YtohmhlkdgfcaeaaGreatDoor
namespace Go.Proofs.YtohmhlkdgfcaeaaGreatDoor
open Go Go.RowKit
def rn : Int → List Int → Int
 | c, [] => c
 | c, x :: r => rn (max c (x + 1)) r
def rgB : Int → List Int → Bool
 | _, [] => true
 | c, x :: r => decide (x ≤ c) && rgB (max c (x + 1)) r
theorem rgB_app : ∀ (l : List Int) (c x : Int), rgB c (l ++ [x]) = (rgB c l && decide (x ≤ rn c l)) := by
 intro l
 induction l with
 | nil =>
  intro c x
  show (decide (x ≤ c) && true) = (true && decide (x ≤ c))
  rw [Bool.and_true, Bool.true_and]
 | cons y r ih => intro c x; rw [List.cons_append, rgB, ih, rgB, rn, Bool.and_assoc]
end Go.Proofs.YtohmhlkdgfcaeaaGreatDoor
namespace Go.Proofs.YtohmhlkdgfcaeaaGreatDoor
open Go Go.RowKit
structure Way (l : List Int) : Prop where
 rg : rgB 0 l = true
 nn : ∀ x ∈ l, 0 ≤ x
theorem Way.nil : Way [] := ⟨rfl, by simp⟩
theorem Way.step {l : List Int} (h : Way l) {x : Nat} (hx : (x : Int) ≤ rn 0 l) : Way (l ++ [(x : Int)]) :=
 ⟨by rw [rgB_app, h.rg, decide_eq_true hx]; rfl, fun y hy => by
  rcases List.mem_append.1 hy with hy | hy
  ·exact h.nn y hy
  ·obtain rfl := List.mem_singleton.1 hy; omega⟩
end Go.Proofs.YtohmhlkdgfcaeaaGreatDoor
