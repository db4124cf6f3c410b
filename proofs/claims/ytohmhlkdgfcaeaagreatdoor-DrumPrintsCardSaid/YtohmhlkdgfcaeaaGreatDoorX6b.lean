/- DrumPrints: the program writes the slip of any drum as the reference does, or tells the errors, and reads it as the drum. For every input that can be read as data, the tables of Go's library being as their text lays them: the call returns true, and each argument reads behind it as before. -/
import Derived.Test.YtohmhlkdgfcaeaaGreatDoorTie
import Derived.Test.YtohmhlkdgfcaeaaGreatDoorCards
import Derived.Test.YtohmhlkdgfcaeaaGreatDoorX6a
set_option linter.unusedVariables false
set_option linter.unusedSimpArgs false
namespace Go.Proofs.YtohmhlkdgfcaeaaGreatDoor
open Go Go.RowKit
section
variable {n : Nat} {d : Drum}
theorem p_110 (hn : 1000 ≤ n) (l : Bs) (hl : l.length ≤ 700) : ∃ v, s_110 n (bs l) = some v ∧ ResT v (readP l) := by
 unfold s_110 readP
 have h0 : s_159 n (bs l) (ByteArray.mk #[10]) = some ((splt 10 l).map bs) := p_159 n l 10 (by omega)
 have hsl := spl_len 10 l
 have hcl : l.count 10 ≤ l.length := List.count_le_length
 have hpart : ∀ p ∈ splt 10 l, p.length ≤ 700 := by
  have key : ∀ l : Bs, ∀ p ∈ splt 10 l, p.length ≤ l.length := by
   intro l
   induction l with
   | nil => intro p hp; obtain rfl := List.mem_singleton.1 hp; simp
   | cons b r ih =>
    intro p hp
    rw [splt] at hp
    by_cases e : b = 10
    ·rw [if_pos e] at hp
     rcases List.mem_cons.1 hp with rfl | hp
     ·simp
     ·have := ih p hp; rw [List.length_cons]; omega
    ·rw [if_neg e] at hp
     cases hs : splt 10 r with
     | nil => exact absurd hs (spl_ne 10 r)
     | cons y ys =>
      rw [hs] at hp ih
      rcases List.mem_cons.1 hp with rfl | hp
      ·have := ih y List.mem_cons_self; simp only [List.length_cons]; omega
      ·have := ih p (List.mem_cons_of_mem _ hp); rw [List.length_cons]; omega
  intro p hp
  have := key l p hp
  omega
 have hlen : decide (3 ≤ ((((splt 10 l).map bs).length : Nat) : Int)) = decide (3 ≤ (splt 10 l).length) := by rw [decide_eq_decide, List.length_map]; omega
 rw [h0, Option.bind_some, hlen]
 obtain ⟨v, v1, v2⟩ := p_160 (n := n) (decide (3 ≤ (splt 10 l).length)) (bs l)
 rw [v1, Option.bind_some]
 by_cases c : 3 ≤ (splt 10 l).length
 ·rw [if_pos c]
  rw [if_pos (decide_eq_true c)] at v2
  have hg : ix ((splt 10 l).map bs) 0 = some (bs ((splt 10 l).getD 0 [])) := by
   refine ix_at (i := 0) ?_
   rw [List.getElem?_map, List.getElem?_eq_getElem (show 0 < (splt 10 l).length by omega), List.getD_eq_getElem?_getD, List.getElem?_eq_getElem (show 0 < (splt 10 l).length by omega)]
   rfl
  have hp0 : ((splt 10 l).getD 0 []).length ≤ 700 := by
   rw [List.getD_eq_getElem?_getD, List.getElem?_eq_getElem (show 0 < (splt 10 l).length by omega)]
   exact hpart _ (List.getElem_mem _)
  obtain ⟨w, w1, w2⟩ := p_161 (n := n) ((splt 10 l).getD 0 []) fHead (by omega) (by omega)
  have w1' : s_161 n (bs ((splt 10 l).getD 0 [])) ([(ByteArray.mk #[100, 114, 117, 109]), (ByteArray.mk #[]), (ByteArray.mk #[107, 110, 111, 119, 110]), (ByteArray.mk #[])]) = some w := w1
  have := resT_bind (β := Drum) v2 (fun v103 => (ix ((splt 10 l).map bs) 0).bind fun v104 => (s_161 n v104 ([(ByteArray.mk #[100, 114, 117, 109]), (ByteArray.mk #[]), (ByteArray.mk #[107, 110, 111, 119, 110]), (ByteArray.mk #[])])).bind fun v105 =>
   Except.casesOn (motive := fun _ => Option (Except Value (Drum))) v105 (fun p => some (.error p)) (fun v106 => (ix v106 0).bind fun v107 => (ix v106 1).bind fun v108 => (s_154 n).bind fun v109 => (subl ((splt 10 l).map bs) 1 (wr (((((splt 10 l).map bs).length : Nat) : Int) - 2))).bind fun v110 => s_110_l1 n (bs l) v107 v108 v109 v110 n 0 [] [] [] []))
   (fun _ => (told fHead ((splt 10 l).getD 0 [])).bind fun ns => (rdLines ⟨[], ns.getD 1 0, ns.getD 0 0, [], [], []⟩ (((splt 10 l).take ((splt 10 l).length - 2)).drop 1)).bind fun d => if slip d = l then some d else none)
   (fun a _ => by
    rw [hg, Option.bind_some, w1', Option.bind_some]
    refine resT_bind w2 _ _ (fun ns hns => ?_)
    obtain ⟨_, b, c4⟩ := told_spec hns
    have c4 : ns.length = 2 := c4
    have q0 : ix ns 0 = some (ns.getD 0 0) := ix_getD (i := 0) (by omega)
    have q1 : ix ns 1 = some (ns.getD 1 0) := ix_getD (i := 1) (by omega)
    have hsub : subl ((splt 10 l).map bs) 1 (wr (((((splt 10 l).map bs).length : Nat) : Int) - 2)) = some ((((splt 10 l).take ((splt 10 l).length - 2)).drop 1).map bs) := by
     rw [List.length_map, wr_of (by omega)]
     unfold subl
     have e : (((splt 10 l).length : Int) - 2).toNat = (splt 10 l).length - 2 := by omega
     rw [decide_eq_true (by omega), decide_eq_true (by omega), decide_eq_true (by rw [List.length_map]; omega), e, List.map_drop, List.map_take]
     rfl
    rw [q0, Option.bind_some, q1, Option.bind_some]
    show ∃ s, (subl ((splt 10 l).map bs) 1 (wr (((((splt 10 l).map bs).length : Nat) : Int) - 2))).bind (fun v110 => s_110_l1 n (bs l) (ns.getD 0 0) (ns.getD 1 0) wTup v110 n 0 [] [] [] []) = some s ∧ _
    rw [hsub, Option.bind_some]
    have hA : AccD ⟨[], ns.getD 1 0, ns.getD 0 0, [], [], []⟩ 0 := ⟨getD_ok b 0 (by omega), getD_ok b 1 (by omega), by simp, by simp, by simp, by simp, by simp, by simp [adL, kAdd, nums]⟩
    exact p_110_l1 hn l _ (by rw [List.length_drop, List.length_take]; omega) (fun p hp => by
     have := hpart p (List.mem_of_mem_take (List.mem_of_mem_drop hp)); omega) _ _ _ 0 n _ rfl (by omega) (by rw [List.length_drop, List.length_take]; omega) hA rfl rfl)
  obtain ⟨s, s1, s2⟩ := this
  exact ⟨s, s1, s2⟩
 ·rw [if_neg c]
  rw [if_neg (by rw [decide_eq_false c]; simp)] at v2
  obtain ⟨e, rfl, he⟩ := v2
  exact ⟨_, rfl, e, rfl, he⟩
theorem nums_no {c : UInt8} (hc : isDig c = false) (h32 : c ≠ 32) : ∀ l : List Int, (∀ x ∈ l, okZ x) → c ∉ nums l := by
 intro l
 induction l with
 | nil => intro _ h; simp [nums] at h
 | cons x r ih =>
  intro h hm
  have e : nums (x :: r) = (32 :: Lib.itoa x) ++ nums r := rfl
  rw [e] at hm
  rcases List.mem_append.1 hm with hm | hm
  ·rcases List.mem_cons.1 hm with hm | hm
   ·exact h32 hm
   ·exact itoa_no (h x List.mem_cons_self) hc hm
  ·exact ih (fun y hy => h y (List.mem_cons_of_mem _ hy)) hm
theorem no10 {w : Bs} (hw : (10 : UInt8) ∉ w) {l : List Int} (h : ∀ x ∈ l, okZ x) : (10 : UInt8) ∉ w ++ nums l := by
 intro hm
 rcases List.mem_append.1 hm with hm | hm
 ·exact hw hm
 ·exact nums_no rfl (by decide) l h hm
theorem lines_no (h : Fine d) : ∀ l ∈ linesOf d, (10 : UInt8) ∉ l := by
 intro l hl
 unfold linesOf at hl
 rcases List.mem_cons.1 hl with rfl | hl
 ·unfold hdL
  intro hm
  rcases List.mem_append.1 hm with hm | hm
  ·exact no10 (by decide) (mem1 h.h) hm
  ·exact no10 (by decide) (mem1 h.k) hm
 ·rcases List.mem_append.1 hl with hl | hl
  ·obtain ⟨a, ha, rfl⟩ := List.mem_map.1 hl
   have := h.a a ha
   unfold acL
   intro hm
   rcases List.mem_append.1 hm with hm | hm
   ·exact no10 (by decide) (mem2 this.1 this.2.1) hm
   ·exact no10 (by decide) (mem2 this.2.2.1 this.2.2.2) hm
  ·rcases List.mem_cons.1 hl with rfl | hl
   ·exact no10 (by decide) h.ad
   ·rcases List.mem_append.1 hl with hl | hl
    ·obtain ⟨a, ha, rfl⟩ := List.mem_map.1 hl
     have := h.s a ha
     exact no10 (by decide) (mem3 this.1 this.2.1 this.2.2)
    ·obtain ⟨a, ha, rfl⟩ := List.mem_map.1 hl
     have := h.b a ha
     exact no10 (by decide) (mem6 this.1 this.2.1 this.2.2.1 this.2.2.2.1 this.2.2.2.2.1 this.2.2.2.2.2)
theorem endL_no (k : Nat) (hk : k < 103) : (10 : UInt8) ∉ endL k := by
 obtain ⟨a, b, c, o1, o2, o3, _⟩ := end_cat hk
 unfold endL
 intro hm
 rcases List.mem_append.1 hm with hm | hm
 ·rcases List.mem_append.1 hm with hm | hm
  ·rcases List.mem_append.1 hm with hm | hm
   ·revert hm; decide
   ·exact itoa_no o1 rfl hm
  ·exact itoa_no o2 rfl hm
 ·exact itoa_no o3 rfl hm
theorem splt_lines : ∀ (L : List Bs) (t : Bs), (∀ l ∈ L, (10 : UInt8) ∉ l) → splt 10 (L.flatMap (· ++ [10]) ++ t) = L ++ splt 10 t := by
 intro L
 induction L with
 | nil => intro t _; rfl
 | cons l r ih =>
  intro t h
  have e : (l :: r).flatMap (· ++ [10]) ++ t = l ++ 10 :: (r.flatMap (· ++ [10]) ++ t) := by simp
  rw [e, spl_app 10 l _ (h l List.mem_cons_self), ih t (fun x hx => h x (List.mem_cons_of_mem _ hx))]
  rfl
theorem splt_slip (h : Fine d) : splt 10 (slip d) = linesOf d ++ [endL (chk (linesOf d)), []] := by
 unfold slip slipOf
 have hk : chk (linesOf d) < 103 := Nat.mod_lt _ (by omega)
 rw [splt_lines _ _ (lines_no h), spl_app 10 _ [] (endL_no _ hk)]
 rfl
theorem hd_told (h : Fine d) : told fHead (hdL d) = some [d.hours, d.known] := by
 have e : hdL d = jn 32 (fillW fHead [d.hours, d.known]) := by
  unfold hdL fHead kDrum kKnown
  simp [fillW, jn, nums]
 rw [e]
 exact told_fill (by simp [fillW, fHead, kDrum]) (by decide) (mem2 h.h h.k) rfl
theorem ac_told {a : Acid} (h : okZ a.strength.low ∧ okZ a.strength.high ∧ okZ a.fall.low ∧ okZ a.fall.high) : told fAcid (acL a) = some [a.strength.low, a.strength.high, a.fall.low, a.fall.high] := by
 have e : acL a = jn 32 (fillW fAcid [a.strength.low, a.strength.high, a.fall.low, a.fall.high]) := by
  unfold acL fAcid kAcid kFall
  simp [fillW, jn, nums]
 rw [e]
 refine told_fill (by simp [fillW, fAcid, kAcid]) (by decide) (fun x hx => ?_) rfl
 rcases List.mem_cons.1 hx with rfl | hx
 ·exact h.1
 ·exact mem3 h.2.1 h.2.2.1 h.2.2.2 x hx
theorem st_told {s : Strip} (h : okZ s.hour ∧ okZ s.seen ∧ okZ s.off) : told fStrip (stL s) = some [s.hour, s.seen, s.off] := by
 have e : stL s = jn 32 (fillW fStrip [s.hour, s.seen, s.off]) := by
  unfold stL fStrip kStrip
  simp [fillW, jn, nums]
 rw [e]
 exact told_fill (by simp [fillW, fStrip, kStrip]) (by decide) (mem3 h.1 h.2.1 h.2.2) rfl
theorem ba_told {b : Batch} (h : okZ b.rough ∧ okZ b.goal ∧ okZ b.thick ∧ okZ b.least ∧ okZ b.polish ∧ okZ b.eat) : told fBatch (baL b) = some [b.rough, b.goal, b.thick, b.least, b.polish, b.eat] := by
 have e : baL b = jn 32 (fillW fBatch [b.rough, b.goal, b.thick, b.least, b.polish, b.eat]) := by
  unfold baL fBatch kBatch
  simp [fillW, jn, nums]
 rw [e]
 exact told_fill (by simp [fillW, fBatch, kBatch]) (by decide) (mem6 h.1 h.2.1 h.2.2.1 h.2.2.2.1 h.2.2.2.2.1 h.2.2.2.2.2) rfl
theorem nums_count : ∀ l : List Int, (∀ x ∈ l, okZ x) → (nums l).count 32 = l.length := by
 intro l
 induction l with
 | nil => intro _; simp [nums]
 | cons x r ih =>
  intro h
  have e : nums (x :: r) = (32 :: Lib.itoa x) ++ nums r := rfl
  rw [e, List.count_append, List.count_cons_self, ih (fun y hy => h y (List.mem_cons_of_mem _ hy)), List.count_eq_zero.2 (itoa_no (h x List.mem_cons_self) rfl), List.length_cons]
  omega
theorem ad_told (h : ∀ x ∈ d.adds, okZ x) : told (fAdd ((adL d).count 32)) (adL d) = some d.adds := by
 have hc : (adL d).count 32 = d.adds.length := by
  unfold adL
  rw [List.count_append, nums_count _ h]
  have : kAdd.count 32 = 0 := by decide
  omega
 have e : adL d = jn 32 (fillW (fAdd d.adds.length) d.adds) := by
  rw [fAdd, fillW_cons, if_neg kAdd_ne, fill_rep _ _ rfl, jn_nums]
  rfl
 rw [hc]
 conv => lhs; rw [e]
 refine told_fill ?_ ?_ h ?_
 ·rw [fAdd, fillW_cons, if_neg kAdd_ne]; simp
 ·intro w hw
  rcases List.mem_cons.1 hw with rfl | hw
  ·decide
  ·rw [(List.mem_replicate.1 hw).2]; simp
 ·unfold fAdd gaps
  rw [List.countP_cons]
  have := gaps_rep d.adds.length
  unfold gaps at this
  rw [this]
  simp [kAdd_ne]
theorem head_nums {w : Bs} (hw : (32 : UInt8) ∉ w) (l : List Int) : (splt 32 (w ++ nums l)).headD [] = w := by
 cases l with
 | nil =>
  have e : w ++ nums [] = w := by simp [nums]
  rw [e, spl_none 32 w hw]; rfl
 | cons x r =>
  have e : nums (x :: r) = (32 :: Lib.itoa x) ++ nums r := rfl
  rw [e]
  have e2 : w ++ (32 :: Lib.itoa x ++ nums r) = w ++ 32 :: (Lib.itoa x ++ nums r) := by simp
  rw [e2, spl_app 32 w _ hw]; rfl
theorem head_ac (a : Acid) : (splt 32 (acL a)).headD [] = kAcid := by
 have e : acL a = kAcid ++ 32 :: (Lib.itoa a.strength.low ++ nums [a.strength.high] ++ (kFall ++ nums [a.fall.low, a.fall.high])) := by
  unfold acL
  simp [nums]
 rw [e, spl_app 32 kAcid _ (by decide)]; rfl
theorem rd_acids (d0 : Drum) : ∀ (l : List Acid) (d : Drum) (r : List Bs), (∀ x ∈ l, okZ x.strength.low ∧ okZ x.strength.high ∧ okZ x.fall.low ∧ okZ x.fall.high) → rdLines d (l.map acL ++ r) = rdLines { d with acids := d.acids ++ l } r := by
 intro l
 induction l with
 | nil => intro d r _; simp
 | cons a l ih =>
  intro d r h
  have ha := h a List.mem_cons_self
  rw [List.map_cons, List.cons_append, rdLines]
  unfold rdLine
  rw [if_pos (head_ac a), ac_told ha, Option.map_some, Option.bind_some, ih _ r (fun x hx => h x (List.mem_cons_of_mem _ hx))]
  simp
theorem rd_strips : ∀ (l : List Strip) (d : Drum) (r : List Bs), (∀ x ∈ l, okZ x.hour ∧ okZ x.seen ∧ okZ x.off) → rdLines d (l.map stL ++ r) = rdLines { d with strips := d.strips ++ l } r := by
 intro l
 induction l with
 | nil => intro d r _; simp
 | cons a l ih =>
  intro d r h
  have ha := h a List.mem_cons_self
  have hh : (splt 32 (stL a)).headD [] = kStrip := head_nums (by decide) _
  rw [List.map_cons, List.cons_append, rdLines]
  unfold rdLine
  rw [hh, if_neg (by decide), if_neg (by decide), if_pos rfl, st_told ha, Option.map_some, Option.bind_some, ih _ r (fun x hx => h x (List.mem_cons_of_mem _ hx))]
  simp
theorem rd_batches : ∀ (l : List Batch) (d : Drum), (∀ x ∈ l, okZ x.rough ∧ okZ x.goal ∧ okZ x.thick ∧ okZ x.least ∧ okZ x.polish ∧ okZ x.eat) → rdLines d (l.map baL) = some { d with batches := d.batches ++ l } := by
 intro l
 induction l with
 | nil => intro d _; simp [rdLines]
 | cons a l ih =>
  intro d h
  have ha := h a List.mem_cons_self
  have hh : (splt 32 (baL a)).headD [] = kBatch := head_nums (by decide) _
  rw [List.map_cons, rdLines]
  unfold rdLine
  rw [hh, if_neg (by decide), if_neg (by decide), if_neg (by decide), ba_told ha, Option.map_some, Option.bind_some, ih _ (fun x hx => h x (List.mem_cons_of_mem _ hx))]
  simp
theorem read_slip (h : Fine d) : readP (slip d) = some d := by
 unfold readP
 rw [splt_slip h]
 have hl : (linesOf d ++ [endL (chk (linesOf d)), []]).length = (linesOf d).length + 2 := by simp
 have h3 : 3 ≤ (linesOf d).length + 2 := by unfold linesOf; simp
 have hg : (linesOf d ++ [endL (chk (linesOf d)), []]).getD 0 [] = hdL d := by unfold linesOf; rfl
 have htk : ((linesOf d ++ [endL (chk (linesOf d)), []]).take ((linesOf d ++ [endL (chk (linesOf d)), []]).length - 2)).drop 1 = d.acids.map acL ++ adL d :: (d.strips.map stL ++ d.batches.map baL) := by
  rw [hl, Nat.add_sub_cancel, List.take_left']
  ·unfold linesOf; rfl
  ·rfl
 rw [if_pos (by rw [hl]; exact h3), hg, htk, hd_told h, Option.bind_some, rd_acids d _ _ _ h.a, rdLines]
 have hh : (splt 32 (adL d)).headD [] = kAdd := head_nums (by decide) _
 unfold rdLine
 rw [hh, if_neg (by decide), if_pos rfl, ad_told h.ad, Option.map_some, Option.bind_some, rd_strips _ _ _ h.s, rd_batches _ _ h.b, Option.bind_some]
 have hd : (⟨[] ++ d.acids, [d.hours, d.known].getD 1 0, [d.hours, d.known].getD 0 0, d.adds, [] ++ d.strips, [] ++ d.batches⟩ : Drum) = d := by
  simp
 show (if slip (⟨[] ++ d.acids, [d.hours, d.known].getD 1 0, [d.hours, d.known].getD 0 0, d.adds, [] ++ d.strips, [] ++ d.batches⟩ : Drum) = slip d then some (⟨[] ++ d.acids, [d.hours, d.known].getD 1 0, [d.hours, d.known].getD 0 0, d.adds, [] ++ d.strips, [] ++ d.batches⟩ : Drum) else none) = _
 rw [hd, if_pos rfl]
end
end Go.Proofs.YtohmhlkdgfcaeaaGreatDoor
namespace Go.Proofs.YtohmhlkdgfcaeaaGreatDoor
open Go Go.RowKit
theorem loop_same {α : Type} [DecidableEq α] (l m : List α) (L : Nat → Int → Option Bool) (h : ∀ (k i : Nat), L (k + 1) (i : Int) = bif decide ((i : Int) < ((l.length : Nat) : Int)) then (ix l (i : Int)).bind (fun x => (ix m (i : Int)).bind fun y => bif !decide (x = y) then some false else L k (wr ((i : Int) + 1))) else some true)
  (hlen : l.length = m.length) (hl : l.length ≤ 1000) {n : Nat} (hn : l.length < n) : L n 0 = some (decide (l = m)) := by
 have h1 := loop_list l (fun k i (_ : Unit) => L k i) (fun i x s K => (ix m (i : Int)).bind fun y => bif !decide (x = y) then some false else K s) (fun _ => some true) (fun k i s => h k i) (by omega) n 0 () (by omega) (by omega)
 rw [show ((0 : Nat) : Int) = 0 from rfl] at h1
 rw [h1]
 have key : ∀ (r : List α) (i : Nat), l.drop i = r → fc (σ := Unit) (fun i x s K => (ix m (i : Int)).bind fun y => bif !decide (x = y) then some false else K s) (fun _ => some true) i r () = some (decide (r = m.drop i)) := by
  intro r
  induction r with
  | nil =>
   intro i hi
   have : l.length ≤ i := List.drop_eq_nil_iff.1 hi
   rw [List.drop_eq_nil_of_le (by omega)]
   simp [fc]
  | cons x r ih =>
   intro i hi
   have hil : i < l.length := by
    rcases Nat.lt_or_ge i l.length with h | h
    ·exact h
    ·rw [List.drop_eq_nil_of_le h] at hi; cases hi
   have hr : l.drop (i + 1) = r := by
    rw [List.drop_eq_getElem_cons hil] at hi
    cases hi; rfl
   rw [fc, ix_at (List.getElem?_eq_getElem (show i < m.length by omega)), Option.bind_some, List.drop_eq_getElem_cons (show i < m.length by omega), ih (i + 1) hr]
   generalize List.drop (i + 1) m = q
   generalize m[i] = y
   by_cases hx : x = y
   ·rw [decide_eq_true hx, Bool.not_true, cond_false]
    subst hx
    simp
   ·rw [decide_eq_false hx, Bool.not_false, cond_true]
    simp [hx]
 rw [List.drop_zero]
 simpa using key l 0 rfl
theorem p_58 (n : Nat) (hn : 100 ≤ n) (l m : List Int) (hl : l.length ≤ 50) : s_58 n l m = some (decide (l = m)) := by
 unfold s_58
 by_cases hlen : l.length = m.length
 ·rw [show decide (((l.length : Nat) : Int) = ((m.length : Nat) : Int)) = true from decide_eq_true (by omega), Bool.not_true, cond_false]
  exact loop_same l m (s_58_l1 l m) (fun k i => by rw [s_58_l1]) hlen (by omega) (by omega)
 ·rw [show decide (((l.length : Nat) : Int) = ((m.length : Nat) : Int)) = false from decide_eq_false (by omega), Bool.not_false, cond_true, decide_eq_false (fun h => hlen (by rw [h]))]
end Go.Proofs.YtohmhlkdgfcaeaaGreatDoor
namespace Go.Proofs.YtohmhlkdgfcaeaaGreatDoor
open Go Go.RowKit
section
variable {n : Nat} {d : Drum}
theorem pow4 {k : Nat} (h : k ≤ 4) : (0 : Int) < 2 ^ k ∧ (2 : Int) ^ k ≤ 16 := by
 have h1 : (2 : Nat) ^ k ≤ 2 ^ 4 := Nat.pow_le_pow_right (by omega) h
 have h2 : (0 : Nat) < 2 ^ k := Nat.pow_pos (by omega)
 exact ⟨by exact_mod_cast h2, by exact_mod_cast h1⟩
theorem okN_short (h : okN d = true) : Short d := by
 simp only [okN, Bool.and_eq_true, inb_iff, decide_eq_true_eq] at h
 obtain ⟨h1, h2, h3, h4, h5, h6⟩ := h
 exact ⟨by omega, by omega, by omega, by omega⟩
theorem p_104w (hn : 100 ≤ n) (d : Drum) : s_104 n d = some (okD d) := by
 by_cases hN : okN d = true
 ·exact p_104 hn (okN_short hN)
 ·have e : okD d = false := by unfold okD; rw [Bool.eq_false_iff.2 hN]; rfl
  rw [e]
  unfold s_104
  simp only [p_87, Option.bind_some]
  cases h1 : inb d.acids.length 1 4 with
  | false => rfl
  | true =>
   have hl := inb_iff.1 h1
   have h34 := pow4 (k := d.acids.length) (by omega)
   have hsh : shl .i64 1 ((List.length d.acids : Nat) : Int) = some (2 ^ d.acids.length) := by
    unfold shl
    rw [show decide ((0 : Int) ≤ ((List.length d.acids : Nat) : Int)) = true from decide_eq_true (by omega), cond_true]
    have hm : min ((List.length d.acids : Nat) : Int).toNat IntKind.i64.bits = d.acids.length := by
     show min d.acids.length 64 = d.acids.length
     omega
    rw [hm, Int.one_mul]
    exact congrArg some (wr_of (by omega))
   rw [hsh, cond_true]
   simp only [Option.bind_some]
   rw [wr_of (by omega)]
   unfold okN at hN
   rw [h1] at hN
   revert hN
   cases inb d.known 1 (2 ^ d.acids.length - 1) <;> cases inb d.hours 1 12 <;> cases decide (((d.adds.length : Nat) : Int) = d.hours) <;> cases decide (((d.strips.length : Nat) : Int) ≤ 6) <;> cases inb d.batches.length 1 5 <;> intro hN <;> first | rfl | exact absurd rfl hN
theorem p_39w (hn : 100 ≤ n) (d : Drum) : s_39 n d = some (okD d) := by
 by_cases hN : okN d = true
 ·exact p_39 hn (okN_short hN)
 ·have e : okD d = false := by unfold okD; rw [Bool.eq_false_iff.2 hN]; rfl
  rw [e]
  unfold s_39
  simp only [p_103, Option.bind_some, s_39_j4]
  cases h1 : inb d.acids.length 1 4 with
  | false => rfl
  | true =>
   have hl := inb_iff.1 h1
   have h34 := pow4 (k := d.acids.length) (by omega)
   rw [p_106 hn (by omega)]
   simp only [Option.bind_some]
   rw [wr_of (by omega)]
   have h5 : decide (6 < ((d.strips.length : Nat) : Int)) = !decide (((d.strips.length : Nat) : Int) ≤ 6) := by
    by_cases h : ((d.strips.length : Nat) : Int) ≤ 6
    ·simp [h]
    ·simp [h]; omega
   rw [h5]
   unfold okN at hN
   rw [h1] at hN
   revert hN
   cases inb d.known 1 (2 ^ d.acids.length - 1) <;> cases inb d.hours 1 12 <;> cases decide (((d.adds.length : Nat) : Int) = d.hours) <;> cases decide (((d.strips.length : Nat) : Int) ≤ 6) <;> cases inb d.batches.length 1 5 <;> intro hN <;> first | rfl | exact absurd rfl hN
theorem ok_fine (h : d.ok) : Fine d := by
 have hac := h.acl
 have hkn := h.kn
 have hhr := h.hr
 have hadl := h.adl
 have hst := h.stl
 have hbt := h.btl
 have hp := pow4 hac.2
 have hz : ∀ x ∈ d.adds, okZ x := fun x hx => by have := h.ad x hx; exact ⟨by omega, by omega⟩
 have hnl := nums_len d.adds hz
 refine ⟨⟨by omega, by omega⟩, ⟨by omega, by omega⟩, fun a ha => ?_, hz, fun s hs => ?_, fun b hb => ?_, by omega, ?_⟩
 ·have := h.ac a ha
  obtain ⟨h1, h2⟩ := this
  unfold Span.ok at h1 h2
  exact ⟨⟨by omega, by omega⟩, ⟨by omega, by omega⟩, ⟨by omega, by omega⟩, ⟨by omega, by omega⟩⟩
 ·obtain ⟨h1, h2, h3⟩ := h.st s hs
  exact ⟨⟨by omega, by omega⟩, ⟨by omega, by omega⟩, ⟨by omega, by omega⟩⟩
 ·obtain ⟨h1, h2, h3, h4, h5, h6⟩ := h.bt b hb
  exact ⟨⟨by omega, by omega⟩, ⟨by omega, by omega⟩, ⟨by omega, by omega⟩, ⟨by omega, by omega⟩, ⟨by omega, by omega⟩, ⟨by omega, by omega⟩⟩
 ·unfold adL kAdd
  simp only [List.length_append, List.length_cons, List.length_nil]
  omega
theorem flat_le {α : Type} (f : α → Bs) (k : Nat) : ∀ l : List α, (∀ x ∈ l, (f x).length ≤ k) → ((l.map f).flatMap (· ++ [10])).length ≤ (k + 1) * l.length := by
 intro l
 induction l with
 | nil => intro _; simp
 | cons x r ih =>
  intro h
  have h1 := h x List.mem_cons_self
  have h2 := ih (fun y hy => h y (List.mem_cons_of_mem _ hy))
  rw [List.map_cons, List.flatMap_cons, List.length_append, List.length_append]
  simp only [List.length_cons, List.length_nil]
  have h3 : (k + 1) * (r.length + 1) = (k + 1) * r.length + (k + 1) := Nat.mul_succ _ _
  omega
theorem endL_len {k : Nat} (hk : k < 103) : (endL k).length ≤ 16 := by
 obtain ⟨a, b, c, o1, o2, o3, e1, e2, e3, l1, l2, l3⟩ := end_cat hk
 unfold endL
 rw [← e1, ← e2, ← e3]
 simp [kEnd]
 omega
theorem slip_len (h : d.ok) : (slip d).length ≤ 600 := by
 have hf := ok_fine h
 have hac := h.acl
 have hhr := h.hr
 have hadl := h.adl
 have hst := h.stl
 have hbt := h.btl
 have l1 : (hdL d).length ≤ 30 := hd_len hf
 have l2 := flat_le acL 29 d.acids (fun a ha => by
  obtain ⟨h1, h2, h3, h4⟩ := hf.a a ha
  have g1 := nums_len _ (mem2 h1 h2)
  have g2 := nums_len _ (mem2 h3 h4)
  unfold acL
  simp [kAcid, kFall] at *
  omega)
 have l3 := flat_le stL 20 d.strips (fun s hs => by
  obtain ⟨h1, h2, h3⟩ := hf.s s hs
  have g1 := nums_len _ (mem3 h1 h2 h3)
  unfold stL
  simp [kStrip] at *
  omega)
 have l4 := flat_le baL 35 d.batches (fun b hb => by
  obtain ⟨h1, h2, h3, h4, h5, h6⟩ := hf.b b hb
  have g1 := nums_len _ (mem6 h1 h2 h3 h4 h5 h6)
  unfold baL
  simp [kBatch] at *
  omega)
 have l5 := nums_len d.adds hf.ad
 have l6 : (adL d).length ≤ 63 := by
  unfold adL kAdd
  simp only [List.length_append, List.length_cons, List.length_nil]
  omega
 have l7 := endL_len (k := chk (linesOf d)) (by unfold chk; exact Nat.mod_lt _ (by omega))
 unfold slip slipOf
 have e : (linesOf d).flatMap (· ++ [10]) = (hdL d ++ [10]) ++ ((d.acids.map acL).flatMap (· ++ [10]) ++ ((adL d ++ [10]) ++ ((d.strips.map stL).flatMap (· ++ [10]) ++ (d.batches.map baL).flatMap (· ++ [10])))) := by
  unfold linesOf
  rw [List.flatMap_cons, List.flatMap_append, List.flatMap_cons, List.flatMap_append]
 rw [e]
 simp only [List.length_append, List.length_cons, List.length_nil]
 omega
theorem p_40 (l : Bs) (hl : l.length ≤ 600) : s_40 1000 (bs l) = some (match readP l with | none => (noDrum, 4) | some d => bif okD d then (d, 0) else (noDrum, 2)) := by
 unfold s_40
 have h0 : decide (600 < ((ByteArray.size (bs l) : Nat) : Int)) = false := decide_eq_false (by rw [bs_size]; omega)
 rw [h0, cond_false]
 obtain ⟨v, v1, v2⟩ := p_110 (n := 1000) (Nat.le_refl _) l (by omega)
 rw [v1, Option.bind_some]
 cases hr : readP l with
 | none =>
  rw [hr] at v2
  obtain ⟨e, rfl, he⟩ := v2
  show (bif isText e then some (noDrum, 4) else none) = some (noDrum, 4)
  rw [he]; rfl
 | some d =>
  rw [hr] at v2
  obtain rfl : v = .ok d := v2
  show (s_104 1000 d).bind (fun b => bif !b then some (noDrum, 2) else some (d, 0)) = some (bif okD d then (d, 0) else (noDrum, 2))
  rw [p_104w (by omega), Option.bind_some]
  cases okD d <;> rfl
theorem p_38 (d : Drum) : s_38 1000 d = some (bif okD d then (bs (slip d), 0) else (ByteArray.mk #[], 2)) := by
 unfold s_38
 rw [p_104w (by omega), Option.bind_some]
 cases h : okD d with
 | false => rfl
 | true =>
  rw [p_105 (Nat.le_refl _) (ok_fine (okD_iff.1 h))]
  rfl
theorem loop_self {α : Type} [DecidableEq α] (l : List α) (L : Nat → Int → Option Bool) (K : Option Bool)
  (h : ∀ (k i : Nat), L (k + 1) (i : Int) = bif decide ((i : Int) < ((l.length : Nat) : Int)) then (ix l (i : Int)).bind (fun x => (ix l (i : Int)).bind fun y => bif (!decide (x = y)) then some false else L k (wr ((i : Int) + 1))) else K)
  (hl : l.length ≤ 1000) {n : Nat} (hn : l.length < n) : L n 0 = K := by
 have key : ∀ (r i k : Nat), i + r = l.length → r < k → L k (i : Int) = K := by
  intro r
  induction r with
  | zero =>
   intro i k hi hk
   obtain ⟨k, rfl⟩ : ∃ k', k = k' + 1 := ⟨k - 1, by omega⟩
   rw [h, decide_eq_false (by omega), cond_false]
  | succ r ih =>
   intro i k hi hk
   obtain ⟨k, rfl⟩ : ∃ k', k = k' + 1 := ⟨k - 1, by omega⟩
   have hil : i < l.length := by omega
   have := ih (i + 1) k (by omega) (by omega)
   push_cast at this
   rw [h, decide_eq_true (by omega), cond_true, ix_at (List.getElem?_eq_getElem hil)]
   simp only [Option.bind_some, decide_true, Bool.not_true, cond_false]
   rw [wr_of (by omega), this]
 exact key l.length 0 n (by omega) hn
theorem p_42_self (d : Drum) (ha : d.acids.length ≤ 900) (hb : d.adds.length ≤ 50) (hc : d.strips.length ≤ 900) (he : d.batches.length ≤ 900) : s_42 1000 d d = some true := by
 unfold s_42
 simp only [decide_true, Bool.not_true, cond_false, p_58 1000 (by omega) d.adds d.adds hb, Option.bind_some, s_42_j1]
 have h4 : s_42_l4 d d 1000 0 = some true := loop_self d.batches (s_42_l4 d d) _ (fun k i => by rw [s_42_l4]) (by omega) (by omega)
 have h3 : s_42_l3 1000 d d 1000 0 = some true := (loop_self d.strips (s_42_l3 1000 d d) (s_42_l4 d d 1000 0) (fun k i => by rw [s_42_l3]) (by omega) (by omega)).trans h4
 exact (loop_self d.acids (s_42_l2 1000 d d) (s_42_l3 1000 d d 1000 0) (fun k i => by rw [s_42_l2]) (by omega) (by omega)).trans h3
theorem law_6 (d : Drum) : s_6 1000 d = some true := by
 unfold s_6
 rw [p_23, Option.bind_some]
 cases hsh : shortB d with
 | false => simp only [Bool.not_false, cond_true, p_24, Option.bind_some]
 | true =>
  have hs := shortB_iff.1 hsh
  have h1 := hs.a
  have h2 := hs.b
  have h3 := hs.c
  have h4 := hs.e
  rw [p_38, p_39w (by omega)]
  simp only [Bool.not_true, cond_false, Option.bind_some]
  cases hk : okD d with
  | false => simp only [Bool.not_false, cond_true, cond_false, decide_true, p_24, Option.bind_some]
  | true =>
   have hok := okD_iff.1 hk
   have hf := ok_fine hok
   simp only [Bool.not_true, cond_true, cond_false]
   rw [p_40 _ (slip_len hok), read_slip hf, p_41 (Nat.le_refl _) hf]
   simp only [hk, cond_true, Option.bind_some, decide_true]
   rw [p_42_self d (by omega) (by omega) (by omega) (by omega)]
   simp only [Option.bind_some, cond_true, p_24]
end
end Go.Proofs.YtohmhlkdgfcaeaaGreatDoor
namespace Go.Proofs.YtohmhlkdgfcaeaaGreatDoor
open Go Go.RowKit Go.ChangeShapes Go.WideShapes
set_option maxRecDepth 100000
theorem drumPrints_lifted (os : Os) (started : os.Started) (H : Type) (enc : TypeId × Value → H) :
  ReturnsInHanded {} Tryz.checked os 6 .any (fun w args => (Rows.drumPrintsSpec.pre enc Tryz.prog Tryz.f6 [] false w args ∧ laidMetH Tryz.prog Rows.drumPrintsRow.laid w) ∧ sizedMet enc Tryz.prog Tryz.f6 (OpenSpec.ofChange Rows.drumPrintsSpec) false w args)
   (Rows.drumPrintsSpec.post enc Tryz.prog Tryz.f6 false true false false) :=
 law_row (s := Rows.drumPrintsSpec) (enc := enc) started #[.agg #[.slice none 0 0, .int .i64 0, .int .i64 0, .slice none 0 0, .slice none 0 0, .slice none 0 0]] (by kernel_rfl) Tryz.func6 (by kernel_rfl) (by kernel_rfl) (by kernel_rfl) rfl
   (by
    rw [Tryz.params6]
    have h : ∀ t ∈ ([27] : List Nat), t ∈ [3, 9, 23, 27, 54, 92] := by decide
    exact fun t ht => parT t (h t ht)) rfl
   (by
    rw [Tryz.params6]
    intro ds h
    match ds, h with
    | [d0], _ => rfl)
   (by
    rw [Tryz.params6]
    intro W base args ds p hval hA
    obtain ⟨args⟩ := args
    obtain ⟨v0, vs0, d0, ds0, p0, q0, e0, rfl, rfl, h0, r0⟩ := trodAll_cons hA
    have e0 : args = _ := e0; subst e0
    obtain ⟨rfl, rfl, rfl⟩ := trodAll_nil r0
    obtain ⟨x0, z0⟩ := rd_drum (hval 0 27 v0 rfl rfl) h0
    refine ⟨rfl, [.agg (cDrum x0)], ⟨rfl, ?_⟩, c_6 1000 x0 (law_6 x0)⟩
    intro j c u hc hu
    match j, hc, hu with
    | 0, hc, hu => cases hc; cases hu; exact z0)
theorem drumPrints_facts : factsA Tryz.prog Tryz.f6 Rows.drumPrintsSpec Rows.drumPrintsRow = true := by kernel_rfl
theorem drumPrints_road0 : (Rows.drumPrintsRow.inPlace == Tryz.prog.inPlace 6) = true := by kernel_rfl
theorem drumPrints_road1 : (Rows.drumPrintsRow.unfollowed == Tryz.prog.unfollowed 6) = true := by kernel_rfl
theorem drumPrints_road2 : (Rows.drumPrintsRow.recurses == Tryz.prog.recurses 6) = true := by kernel_rfl
theorem drumPrints_road3 : (Rows.drumPrintsRow.named == Tryz.prog.varsNamed 6) = true := by kernel_rfl
theorem drumPrints_row : Rows.DrumPrintsSaid :=
 OpenClaim.holds_of_wide 6 Tryz.f6 rfl rfl rfl rfl rfl rfl rfl ⟨rfl, rfl, rfl, rfl, rfl⟩ rfl rfl rfl rfl rfl (by as_aux_lemma => kernel_rfl) Tryz.func6 (joined_of drumPrints_facts drumPrints_road0 drumPrints_road1 drumPrints_road2 drumPrints_road3)
  (of_decide_eq_true (by as_aux_lemma => kernel_rfl)) (by unfold Func.isWrapper; rw [if_neg (of_decide_eq_false (by as_aux_lemma => kernel_rfl))]; exact ⟨rfl, rfl⟩)
  (fun os started H enc _ => drumPrints_lifted os started H enc)
theorem drumPrints_card : Rows.DrumPrintsCardSaid :=
 Claim7.holds_tied_plain_at .later [] [.data, .data, .data, .data, .pinned] true (true, "263524fd91af563947b647e8709e73ef988cdef21cccd4074f632dc410392126") true drumPrints_row (fun _ h => by cases h) (by as_aux_lemma => kernel_rfl) (fun _ h => by cases h) drumPrints_row_tie rfl ⟨rfl, rfl⟩ mainK rfl
  (fun f fn hf hfn => by
   obtain rfl : f = 6 := Option.some.inj ((show Tryz.prog.funcNamed "nacre/nacrelaw03.DrumPrints" = some 6 by as_aux_lemma => kernel_rfl).symm.trans hf) |>.symm
   obtain rfl : fn = Tryz.f6 := (Option.some.inj (Tryz.func6.symm.trans hfn)).symm
   exact ⟨looksK, fun j t ht => by
    rw [Tryz.params6] at ht
    have hm : t ∈ [27] := by simpa using Array.mem_of_getElem? ht
    have h : ∀ t ∈ ([27] : List Nat), t ∈ [3, 9, 23, 27, 54, 92] := by decide
    exact standK t (h t hm)⟩)
  (by as_aux_lemma => kernel_rfl)
#print axioms drumPrints_card
end Go.Proofs.YtohmhlkdgfcaeaaGreatDoor
