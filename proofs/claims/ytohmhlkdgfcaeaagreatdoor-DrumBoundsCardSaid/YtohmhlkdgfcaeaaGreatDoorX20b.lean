/- DrumBounds: whatever is true of a drum, each batch is as rough and as thick as its bounds allow, after any number of hours; and an hour more never makes it rougher, or thicker. For every input that can be read as data, the tables of Go's library being as their text lays them: the call returns true, and each argument reads behind it as before. -/
import Derived.Test.YtohmhlkdgfcaeaaGreatDoorTie
import Derived.Test.YtohmhlkdgfcaeaaGreatDoorCards
import Derived.Test.YtohmhlkdgfcaeaaGreatDoorX20a
set_option linter.unusedVariables false
set_option linter.unusedSimpArgs false
namespace Go.Proofs.YtohmhlkdgfcaeaaGreatDoor
open Go Go.RowKit
section
variable {n : Nat} {d : Drum} {tr : Truth}
theorem mem_stripsAt {l : List Strip} {h : Nat} {s : Span} : s ∈ stripsAt l h ↔ ∃ x ∈ l, x.hour = (h : Int) ∧ x.span = s := by
 unfold stripsAt
 simp only [List.mem_map, List.mem_filter, beq_iff_eq]
 constructor
 ·rintro ⟨x, ⟨h1, h2⟩, h3⟩; exact ⟨x, h1, h2, h3⟩
 ·rintro ⟨x, h1, h2, h3⟩; exact ⟨x, ⟨h1, h2⟩, h3⟩
theorem fit_tru (hd : d.ok) : fitB d tr = true ↔ hasB d.known tr.acid.toNat = true ∧ Tru d.adds d.strips (trAcid d tr) (hrs d) (stren tr) := by
 have hH := hrs_eq hd
 unfold fitB
 simp only [Bool.and_eq_true, List.all_eq_true, List.mem_range]
 constructor
 ·rintro ⟨h1, h2, h3⟩
  refine ⟨h1, fun h hh => ⟨?_, fun s hs => ?_⟩⟩
  ·have := inb_iff.1 (h2 h hh)
   cases h <;> exact this
  ·obtain ⟨x, hx, hx2, rfl⟩ := mem_stripsAt.1 hs
   have h4 := inb_iff.1 (h3 x hx)
   have e : x.hour.toNat = h := by omega
   rw [e] at h4
   exact h4
 ·rintro ⟨h1, h2⟩
  refine ⟨h1, fun h hh => ?_, fun x hx => ?_⟩
  ·have := (h2 h hh).1
   refine inb_iff.2 ?_
   cases h <;> exact this
  ·obtain ⟨⟨q1, q2⟩, _⟩ := hd.st x hx
   have := (h2 x.hour.toNat (by omega)).2 x.span (mem_stripsAt.2 ⟨x, hx, by omega, rfl⟩)
   exact inb_iff.2 this
theorem fit_idx (hd : d.ok) (hsz : sizedB d tr = true) (hf : fitB d tr = true) : tr.acid.toNat ∈ idx d := by
 obtain ⟨⟨h1, h2⟩, h3⟩ := (sized_iff hd).1 hsz
 obtain ⟨h4, h5⟩ := (fit_tru hd).1 hf
 unfold idx
 rw [List.mem_filter, List.mem_range]
 refine ⟨h2, ?_⟩
 unfold PossI
 rw [h4, Bool.true_and]
 exact decide_eq_true (poss_of_tru (acidAt_ok hd h2) h5)
theorem fit_bd (hd : d.ok) (hsz : sizedB d tr = true) (hf : fitB d tr = true) {h : Nat} (hh : h < hrs d) : (bdAt d tr.acid.toNat h).mem (stren tr h) := by
 obtain ⟨⟨h1, h2⟩, h3⟩ := (sized_iff hd).1 hsz
 obtain ⟨h4, h5⟩ := (fit_tru hd).1 hf
 exact bd_sound (acidAt_ok hd h2) hd.ad h5 (hrs d - 1 - h) h (by omega)
theorem qt_mono {p x y : Int} (hp : 0 ≤ p) (hx : 0 ≤ x) (h : x ≤ y) : qt p x ≤ qt p y := by
 unfold qt
 have h1 : 0 ≤ x * p := Int.mul_nonneg hx hp
 have h2 : x * p ≤ y * p := Int.mul_le_mul_of_nonneg_right h hp
 rw [Int.tdiv_eq_ediv_of_nonneg h1, Int.tdiv_eq_ediv_of_nonneg (by omega)]
 omega
theorem cut_mono {p : Int} {g g' : Nat → Int} (hp : 0 ≤ p) : ∀ (t : Nat), (∀ h, h < t → 0 ≤ g h ∧ g h ≤ g' h) → cut p g t ≤ cut p g' t := by
 intro t
 induction t with
 | zero => intro _; simp [cut]
 | succ t ih =>
  intro h
  have h1 := ih (fun i hi => h i (by omega))
  have h2 := qt_mono hp (h t (by omega)).1 (h t (by omega)).2
  simp only [cut]
  omega
theorem state_mono {b : Batch} (hb : b.ok) {g g' : Nat → Int} {t : Nat} (h : ∀ i, i < t → 0 ≤ g i ∧ g i ≤ g' i) : (stateAt b g' t).rough ≤ (stateAt b g t).rough ∧ (stateAt b g' t).thick ≤ (stateAt b g t).thick := by
 obtain ⟨_, _, _, _, h5, h6⟩ := hb
 have h1 := cut_mono h5.1 t h
 have h2 := cut_mono h6.1 t h
 simp only [stateAt]
 omega
theorem state_step {b : Batch} (hb : b.ok) {g : Nat → Int} {t : Nat} (h : 0 ≤ g t ∧ g t ≤ 5000) : (stateAt b g (t + 1)).rough ≤ (stateAt b g t).rough ∧ (stateAt b g (t + 1)).thick ≤ (stateAt b g t).thick := by
 obtain ⟨_, _, _, _, h5, h6⟩ := hb
 have h1 := qt_le h5 h
 have h2 := qt_le h6 h
 simp only [stateAt, cut]
 omega
def inB (x : State) (s : Bounds) : Prop := (s.rough.low ≤ x.rough ∧ x.rough ≤ s.rough.high) ∧ s.thick.low ≤ x.thick ∧ x.thick ≤ s.thick.high
theorem inB_upd {x : State} {s t : Bounds} (h : inB x s ∨ inB x t) : inB x (updB s t) := by
 unfold inB updB at *
 simp only
 omega
theorem inB_fold {x : State} {b : Batch} {t i : Nat} : ∀ (l : List Nat) (s : Bounds), (inB x s ∨ (i ∈ l ∧ inB x (bOf d b t i))) → inB x (l.foldl (fun s i => updB s (bOf d b t i)) s) := by
 intro l
 induction l with
 | nil =>
  intro s h
  rcases h with h | ⟨h, _⟩
  ·exact h
  ·cases h
 | cons j r ih =>
  intro s h
  rw [List.foldl_cons]
  refine ih _ ?_
  rcases h with h | ⟨h, h2⟩
  ·exact .inl (inB_upd (.inl h))
  ·rcases List.mem_cons.1 h with rfl | h
   ·exact .inl (inB_upd (.inr h2))
   ·exact .inr ⟨h, h2⟩
theorem fit_inB (hd : d.ok) (hsz : sizedB d tr = true) (hf : fitB d tr = true) {b : Batch} (hb : b.ok) {t : Nat} (ht : t ≤ hrs d) : inB (stateAt b (stren tr) t) (bnds d b t) := by
 have hi := fit_idx hd hsz hf
 refine inB_fold (i := tr.acid.toNat) _ _ (.inr ⟨hi, ?_⟩)
 have h1 := state_mono hb (g := fun h => (bdAt d tr.acid.toNat h).low) (g' := stren tr) (t := t) (fun h hh => by
  have q := fit_bd hd hsz hf (show h < hrs d by omega)
  have q2 := bdAt_pos hd hi (show h < hrs d by omega)
  simp only [Span.mem] at q
  omega)
 have h2 := state_mono hb (g := stren tr) (g' := fun h => (bdAt d tr.acid.toNat h).high) (t := t) (fun h hh => by
  have q := fit_bd hd hsz hf (show h < hrs d by omega)
  have q2 := bdAt_pos hd hi (show h < hrs d by omega)
  simp only [Span.mem] at q
  omega)
 simp only [inB, bOf, loS, hiS]
 omega
theorem idx_err (hok : okD d = true) {i : Nat} (h : i ∈ idx d) : err d true = 0 := by
 unfold err
 rw [hok]
 cases hx : idx d with
 | nil => rw [hx] at h; cases h
 | cons => rfl
theorem err_of_ok (hok : okD d = true) : err d true = 0 ∨ err d true = 7 := by
 unfold err
 rw [hok]
 cases (idx d).isEmpty
 ·exact .inl rfl
 ·exact .inr rfl
theorem law_20 (d : Drum) (tr : Truth) (t : Int) : s_20 1000 d tr t = some true := by
 unfold s_20
 rw [p_23, Option.bind_some]
 have out : s_20_j1 1000 d tr t true = some true := by unfold s_20_j1; rw [cond_true, p_24, Option.bind_some]
 have hn : 100 ≤ 1000 := by omega
 cases hsh : shortB d with
 | false => simp only [Bool.not_false, cond_true]; exact out
 | true =>
  have hs := shortB_iff.1 hsh
  have h8 := hs.e
  simp only [Bool.not_true, cond_false, p_39 hn hs, p_44, Option.bind_some]
  cases decide (15 < ((List.length tr.strength : Nat) : Int)) with
  | true => simp only [cond_true]; exact out
  | false =>
   cases hok : okD d with
   | false => simp only [Bool.not_false, cond_true, cond_false]; exact out
   | true =>
    have hd := okD_iff.1 hok
    have hH := hrs_eq hd
    have hhr := hrs_le hd
    cases hsz : sizedB d tr with
    | false => simp only [Bool.not_false, Bool.not_true, cond_true, cond_false]; exact out
    | true =>
     simp only [Bool.not_true, cond_false]
     by_cases h0 : t < 0
     ·rw [decide_eq_true h0, cond_true]; exact out
     ·rw [decide_eq_false h0, cond_false]
      by_cases h1 : d.hours ≤ t
      ·rw [decide_eq_true h1]; exact out
      ·rw [decide_eq_false h1]
       obtain ⟨t', ht⟩ := Int.eq_ofNat_of_zero_le (show 0 ≤ t by omega)
       have f1 : fineT d t = true := inb_iff.2 (by omega)
       have f2 : fineT d (t + 1) = true := inb_iff.2 (by omega)
       have e3 : wr (t + 1) = t + 1 := wr_of (by omega)
       unfold s_20_j1
       simp only [cond_false, e3, p_47 hn hs, p_48 hn hs, Option.bind_some, f1]
       have r1 : runOk d tr t = fitB d tr := by unfold runOk; rw [hok, hsz, f1]; simp
       have r2 : runOk d tr (t + 1) = fitB d tr := by unfold runOk; rw [hok, hsz, f2]; simp
       rw [r1, r2]
       cases hf : fitB d tr with
       | false =>
        simp only [cond_false, decide_true, Bool.not_true]
        unfold s_20_j2
        rcases err_of_ok hok with he | he <;> simp [he, p_24]
       | true =>
        have hi := fit_idx hd hsz hf
        have he := idx_err hok hi
        have n1 : t.toNat = t' := by omega
        have n2 : (t + 1).toNat = t' + 1 := by omega
        simp only [cond_true, he, decide_true, Bool.not_true, cond_false, n1, n2]
        unfold s_20_j2
        have l1 : (runL d tr t').length = d.batches.length := by simp [runL]
        have l2 : (runL d tr (t' + 1)).length = d.batches.length := by simp [runL]
        have l3 : (bndL d t').length = d.batches.length := by simp [bndL]
        simp only [cond_false, decide_true, Bool.not_true, l1, l2, l3]
        unfold s_20_j3
        rw [cond_false]
        have hbt := hd.btl
        have h9 := loop_all d.batches (s_20_l4 1000 (runL d tr t', 0) (runL d tr (t' + 1), 0) (bndL d t', 0)) (fun _ => true) (some true) (fun k i => by
         rw [s_20_l4]
         simp only [l1]
         by_cases hib : i < d.batches.length
         ·have hb := hd.bt _ (List.getElem_mem hib)
          have g1 : ix (runL d tr t') (i : Int) = some (stateAt d.batches[i] (stren tr) t') := ix_at (by unfold runL; rw [List.getElem?_map, List.getElem?_eq_getElem hib]; rfl)
          have g2 : ix (runL d tr (t' + 1)) (i : Int) = some (stateAt d.batches[i] (stren tr) (t' + 1)) := ix_at (by unfold runL; rw [List.getElem?_map, List.getElem?_eq_getElem hib]; rfl)
          have g3 : ix (bndL d t') (i : Int) = some (bnds d d.batches[i] t') := ix_at (by unfold bndL; rw [List.getElem?_map, List.getElem?_eq_getElem hib]; rfl)
          have q1 := fit_inB hd hsz hf hb (t := t') (by omega)
          have q2 := fit_stren hd hsz hf (show t' < hrs d by omega)
          have q3 := state_step hb (g := stren tr) (t := t') (by omega)
          unfold inB at q1
          simp only [g1, g2, g3, Option.bind_some, ix_at (List.getElem?_eq_getElem hib)]
          rw [decide_eq_false (show ¬ ((stateAt d.batches[i] (stren tr) t').rough < (bnds d d.batches[i] t').rough.low) by omega), decide_eq_false (show ¬ ((bnds d d.batches[i] t').rough.high < (stateAt d.batches[i] (stren tr) t').rough) by omega),
           decide_eq_false (show ¬ ((stateAt d.batches[i] (stren tr) t').thick < (bnds d d.batches[i] t').thick.low) by omega), decide_eq_false (show ¬ ((bnds d d.batches[i] t').thick.high < (stateAt d.batches[i] (stren tr) t').thick) by omega),
           decide_eq_false (show ¬ ((stateAt d.batches[i] (stren tr) t').rough < (stateAt d.batches[i] (stren tr) (t' + 1)).rough) by omega), decide_eq_false (show ¬ ((stateAt d.batches[i] (stren tr) t').thick < (stateAt d.batches[i] (stren tr) (t' + 1)).thick) by omega)]
          simp only [cond_false, cond_true, s_20_j22, p_24, Option.bind_some]
         ·have e1 : decide ((i : Int) < ((d.batches.length : Nat) : Int)) = false := decide_eq_false (by omega)
          rw [e1, cond_false, cond_false, p_24, Option.bind_some]) (by omega) (k := 1000) (by omega)
        have hall : d.batches.all (fun _ => true) = true := List.all_eq_true.2 (fun _ _ => rfl)
        rw [h9, hall, cond_true]
end
end Go.Proofs.YtohmhlkdgfcaeaaGreatDoor
namespace Go.Proofs.YtohmhlkdgfcaeaaGreatDoor
open Go Go.RowKit
section
variable {α : Type} (lt : α → α → Bool)
def least : α → List α → α
 | x, [] => x
 | x, y :: r => least (bif lt y x then y else x) r
end
end Go.Proofs.YtohmhlkdgfcaeaaGreatDoor
namespace Go.Proofs.YtohmhlkdgfcaeaaGreatDoor
open Go Go.RowKit
def rn : Int → List Int → Int
 | c, [] => c
 | c, x :: r => rn (max c (x + 1)) r
def rgB : Int → List Int → Bool
 | _, [] => true
 | c, x :: r => decide (x ≤ c) && rgB (max c (x + 1)) r
theorem rgB_app : ∀ (l : List Int) (c x : Int), rgB c (l ++ [x]) = (rgB c l && decide (x ≤ rn c l)) := by
 intro l
 induction l with
 | nil =>
  intro c x
  show (decide (x ≤ c) && true) = (true && decide (x ≤ c))
  rw [Bool.and_true, Bool.true_and]
 | cons y r ih => intro c x; rw [List.cons_append, rgB, ih, rgB, rn, Bool.and_assoc]
end Go.Proofs.YtohmhlkdgfcaeaaGreatDoor
namespace Go.Proofs.YtohmhlkdgfcaeaaGreatDoor
open Go Go.RowKit
structure Way (l : List Int) : Prop where
 rg : rgB 0 l = true
 nn : ∀ x ∈ l, 0 ≤ x
theorem Way.nil : Way [] := ⟨rfl, by simp⟩
theorem Way.step {l : List Int} (h : Way l) {x : Nat} (hx : (x : Int) ≤ rn 0 l) : Way (l ++ [(x : Int)]) :=
 ⟨by rw [rgB_app, h.rg, decide_eq_true hx]; rfl, fun y hy => by
  rcases List.mem_append.1 hy with hy | hy
  ·exact h.nn y hy
  ·obtain rfl := List.mem_singleton.1 hy; omega⟩
end Go.Proofs.YtohmhlkdgfcaeaaGreatDoor
namespace Go.Proofs.YtohmhlkdgfcaeaaGreatDoor
open Go Go.RowKit Go.ChangeShapes Go.WideShapes
set_option maxRecDepth 100000
theorem drumBounds_lifted (os : Os) (started : os.Started) (H : Type) (enc : TypeId × Value → H) :
  ReturnsInHanded {} Tryz.checked os 20 .any (fun w args => (Rows.drumBoundsSpec.pre enc Tryz.prog Tryz.f20 [] false w args ∧ laidMetH Tryz.prog Rows.drumBoundsRow.laid w) ∧ sizedMet enc Tryz.prog Tryz.f20 (OpenSpec.ofChange Rows.drumBoundsSpec) false w args)
   (Rows.drumBoundsSpec.post enc Tryz.prog Tryz.f20 false true false false) :=
 law_row (s := Rows.drumBoundsSpec) (enc := enc) started #[.agg #[.slice none 0 0, .int .i64 0, .int .i64 0, .slice none 0 0, .slice none 0 0, .slice none 0 0], .agg #[.int .i64 0, .slice none 0 0], .int .i64 0] (by kernel_rfl) Tryz.func20 (by kernel_rfl) (by kernel_rfl) (by kernel_rfl) rfl
   (by
    rw [Tryz.params20]
    have h : ∀ t ∈ ([27, 54, 3] : List Nat), t ∈ [3, 9, 23, 27, 54, 92] := by decide
    exact fun t ht => parT t (h t ht)) rfl
   (by
    rw [Tryz.params20]
    intro ds h
    match ds, h with
    | [d0, d1, d2], _ => rfl)
   (by
    rw [Tryz.params20]
    intro W base args ds p hval hA
    obtain ⟨args⟩ := args
    obtain ⟨v0, vs0, d0, ds0, p0, q0, e0, rfl, rfl, h0, r0⟩ := trodAll_cons hA
    have e0 : args = _ := e0; subst e0
    obtain ⟨v1, vs1, d1, ds1, p1, q1, e1, rfl, rfl, h1, r1⟩ := trodAll_cons r0
    subst e1
    obtain ⟨v2, vs2, d2, ds2, p2, q2, e2, rfl, rfl, h2, r2⟩ := trodAll_cons r1
    subst e2
    obtain ⟨rfl, rfl, rfl⟩ := trodAll_nil r2
    obtain ⟨x0, z0⟩ := rd_drum (hval 0 27 v0 rfl rfl) h0
    obtain ⟨x1, z1⟩ := rd_truth (hval 1 54 v1 rfl rfl) h1
    obtain ⟨x2, z2⟩ := rd_int (hval 2 3 v2 rfl rfl)
    refine ⟨rfl, [.agg (cDrum x0), .agg (cTruth x1), .i x2], ⟨rfl, ?_⟩, c_20 1000 x0 x1 x2 (law_20 x0 x1 x2)⟩
    intro j c u hc hu
    match j, hc, hu with
    | 0, hc, hu => cases hc; cases hu; exact z0
    | 1, hc, hu => cases hc; cases hu; exact z1
    | 2, hc, hu => cases hc; cases hu; exact z2)
theorem drumBounds_facts : factsA Tryz.prog Tryz.f20 Rows.drumBoundsSpec Rows.drumBoundsRow = true := by kernel_rfl
theorem drumBounds_road0 : (Rows.drumBoundsRow.inPlace == Tryz.prog.inPlace 20) = true := by kernel_rfl
theorem drumBounds_road1 : (Rows.drumBoundsRow.unfollowed == Tryz.prog.unfollowed 20) = true := by kernel_rfl
theorem drumBounds_road2 : (Rows.drumBoundsRow.recurses == Tryz.prog.recurses 20) = true := by kernel_rfl
theorem drumBounds_road3 : (Rows.drumBoundsRow.named == Tryz.prog.varsNamed 20) = true := by kernel_rfl
theorem drumBounds_row : Rows.DrumBoundsSaid :=
 OpenClaim.holds_of_wide 20 Tryz.f20 rfl rfl rfl rfl rfl rfl rfl ⟨rfl, rfl, rfl, rfl, rfl⟩ rfl rfl rfl rfl rfl (by as_aux_lemma => kernel_rfl) Tryz.func20 (joined_of drumBounds_facts drumBounds_road0 drumBounds_road1 drumBounds_road2 drumBounds_road3)
  (of_decide_eq_true (by as_aux_lemma => kernel_rfl)) (by unfold Func.isWrapper; rw [if_neg (of_decide_eq_false (by as_aux_lemma => kernel_rfl))]; exact ⟨rfl, rfl⟩)
  (fun os started H enc _ => drumBounds_lifted os started H enc)
theorem drumBounds_card : Rows.DrumBoundsCardSaid :=
 Claim7.holds_tied_plain_at .later [] [.data, .data, .data, .data, .pinned] true (true, "263524fd91af563947b647e8709e73ef988cdef21cccd4074f632dc410392126") true drumBounds_row (fun _ h => by cases h) (by as_aux_lemma => kernel_rfl) (fun _ h => by cases h) drumBounds_row_tie rfl ⟨rfl, rfl⟩ mainK rfl
  (fun f fn hf hfn => by
   obtain rfl : f = 20 := Option.some.inj ((show Tryz.prog.funcNamed "nacre/nacrelaw03.DrumBounds" = some 20 by as_aux_lemma => kernel_rfl).symm.trans hf) |>.symm
   obtain rfl : fn = Tryz.f20 := (Option.some.inj (Tryz.func20.symm.trans hfn)).symm
   exact ⟨looksK, fun j t ht => by
    rw [Tryz.params20] at ht
    have hm : t ∈ [27, 54, 3] := by simpa using Array.mem_of_getElem? ht
    have h : ∀ t ∈ ([27, 54, 3] : List Nat), t ∈ [3, 9, 23, 27, 54, 92] := by decide
    exact standK t (h t hm)⟩)
  (by as_aux_lemma => kernel_rfl)
#print axioms drumBounds_card
end Go.Proofs.YtohmhlkdgfcaeaaGreatDoor
