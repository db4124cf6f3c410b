/- DrumMore: one strip more, and fewer acids that are known, never make the window narrower, if the drum is possible still. For every input that can be read as data, the tables of Go's library being as their text lays them: the call returns true, and each argument reads behind it as before. -/
import Derived.Laws.BytesArg
import Derived.Laws.OwnMore
import Derived.Laws.Entries
import Derived.Test.YtohmhlkdgfcaeaaGreatDoorProg
import Derived.KernelRfl
import Derived.Test.YtohmhlkdgfcaeaaGreatDoorTie
import Derived.Test.YtohmhlkdgfcaeaaGreatDoorCards
import Derived.Test.YtohmhlkdgfcaeaaGreatDoorK8
set_option linter.unusedVariables false
set_option linter.unusedSimpArgs false
namespace Go.Proofs.YtohmhlkdgfcaeaaGreatDoor
open Go Go.RowKit
section
variable {X : Cx} {E : Env} {Q : Exit → Env → Prop} {ops : Array Oper} {rest : List Oper} {o : Oper} {S : Sl} {d : Nat} {x y : Operand}
theorem s_append_nil {ts : List (Nat × TV)} {bs : List (Nat × TypeId × List TV)} {rs : List (Nat × RowS)} {t e : TypeId} {sz : Nat} {v : TV} {es : List (List PV)} (ho : o.op = .call { callee := .builtin .append, args := #[x, y], argTypes := #[t, t] }) (hd : o.dst = some d) (hdn : Nat.ble (d + 1) X.nt = true)
  (hx : evT ⟨ts, bs, rs⟩ x = some (.pv (.val (.slice none 0 0)))) (hk : lk rs d = none) (hy : evT ⟨ts, bs, rs⟩ y = some v) (hs : Src ⟨ts, bs, rs⟩ v sz es) (hT : ElX X.P t e sz) (hb : es.length ≤ 1000000) :
  Step X o ⟨ts, bs, rs⟩ ⟨(d, .row d) :: ts, bs, (d, ⟨e, sz, es⟩) :: rs⟩ := by
 intro g F a w K Q hr hK
 have hxv := evT_val hr hx
 have hyv := evT_rel hr hy
 obtain ⟨A, cap, news, n1, n2, n3, n4, n5, n6⟩ := hs.news hr hyv
 obtain ⟨v', w', r1, r2, r3, r4⟩ := run_append_any (ty := o.type) hT (World.ownsRow_nil w X.w0.heap.size e sz) (cap := cap) n2 n3 n4 (by simpa using hb) hr.ext.size
 unfold Oper.wp
 simp only [execOp, ho, resolve, invoke, builtin, Sem.run_bind, Sem.run_pure, Result.andThen_ok, List.map_toArray, List.map_cons, List.map_nil, hxv, n1, r1, Oper.upon, hd]
 have h0 := hr.row_nil e sz hk
 have hk0 : lk ((d, (⟨e, sz, []⟩ : RowS)) :: rs) d = some ⟨e, sz, []⟩ := by rw [lk_cons, if_pos rfl]
 have h1 := h0.setrow (R' := ⟨e, sz, es⟩) (v := .slice none 0 0) (v' := v') (w' := w') (inner' := [] ++ news) hk0 (if_pos rfl) (turns_grown h0 (k := d) (if_pos rfl) r3) (by simpa using r2)
  (by have := flat_append (w := w) (F := F) (es := []) (inner := []) ⟨by simp, by simp, by simp⟩ n2 n6 n5; simpa using this) r4
 suffices hs2 : ∃ g2, Rel X.w0 X.F0 X.nt g2 F ⟨ts, bs, (d, ⟨e, sz, es⟩) :: rs⟩ a w' ∧ g2.rw d = some v' by
  obtain ⟨g2, h2, h3⟩ := hs2
  exact hK g2 F _ _ (h2.put (Nat.le_of_ble_eq_true hdn) h3)
 refine ⟨_, ⟨h1.dfr, h1.sz, ?_, ?_, ?_, h1.bi, ?_, ?_, h1.ri, h1.rb, h1.ok, h1.ext, h1.le⟩, if_pos rfl⟩
 ·intro t' z hz
  obtain ⟨u, z1, z2⟩ := hr.ts t' z hz
  refine ⟨u, z1, ?_⟩
  have z3 : RelT w F g z u := z2
  have hup : RelT w' F g z u := (turns_grown h0 (k := d) (if_pos rfl) r3).relT z3
  refine RelT.gh g { bx := g.bx, rw := fun k' => if k' = d then some v' else if k' = d then some (Value.slice none 0 0) else g.rw k' } (fun _ _ h => h) (fun k' v2 hv2 => ?_) hup
  have hne : k' ≠ d := fun e => by rw [e, hr.rd d hk] at hv2; cases hv2
  simp only [if_neg hne]; exact hv2
 ·intro k' T' cs' hk'
  obtain ⟨b', us, z1, z2, z3, z4, z5, z6⟩ := hr.bs k' T' cs' hk'
  have htn := turns_grown h0 (k := d) (if_pos rfl) r3
  refine ⟨b', us, z1, htn.heap (by simp [Value.ownBlock]) z2, z3, fun j c u hc hu => ?_, z5, z6⟩
  refine RelT.gh g { bx := g.bx, rw := fun k' => if k' = d then some v' else if k' = d then some (Value.slice none 0 0) else g.rw k' } (fun _ _ h => h) (fun k' v2 hv2 => ?_) (htn.relT (z4 j c u hc hu))
  have hne : k' ≠ d := fun e => by rw [e, hr.rd d hk] at hv2; cases hv2
  simp only [if_neg hne]; exact hv2
 ·intro k' hk'; exact hr.bd k' hk'
 ·intro k' R' hk'
  refine h1.rs k' R' ?_
  simp only [lk_cons] at hk' ⊢
  by_cases he : d = k'
  ·rw [if_pos he] at hk' ⊢; exact hk'
  ·rw [if_neg he] at hk' ⊢; rw [if_neg he]; exact hk'
 ·intro k' hk'
  refine h1.rd k' ?_
  simp only [lk_cons] at hk' ⊢
  by_cases he : d = k'
  ·rw [if_pos he] at hk'; cases hk'
  ·rw [if_neg he] at hk' ⊢; rw [if_neg he]; exact hk'
end
end Go.Proofs.YtohmhlkdgfcaeaaGreatDoor
namespace Go.Proofs.YtohmhlkdgfcaeaaGreatDoor
open Go Go.RowKit
section
variable {X : Cx} {E E' : Env} {Q : Exit → Env → Prop} {ops : Array Oper} {rest : List Oper} {o : Oper} {S : Sl} {d : Nat} {x y : Operand}
variable {α : Type} {enc : α → List PV}
theorem s_appendNS {ts : List (Nat × TV)} {bs : List (Nat × TypeId × List TV)} {rs : List (Nat × RowS)} {t T : TypeId} {sz : Nat} {l2 l3 : List α} (hq : app ([] : List α) l2 = some l3) (ho : o.op = .call { callee := .builtin .append, args := #[x, y], argTypes := #[t, t] }) (hd : o.dst = some d) (hdn : Nat.ble (d + 1) X.nt = true)
  (hx : evT ⟨ts, bs, rs⟩ x = some (.pv (.val (.slice none 0 0)))) (hk : lk rs d = none) (hy : evT ⟨ts, bs, rs⟩ y = some (.pv (.sl (l2.map enc)))) (hT : ElX X.P t T sz) (hone : ∀ q, (enc q).all PV.one = true) (hlen : ∀ q, (enc q).length = sz) :
  Step X o ⟨ts, bs, rs⟩ ⟨(d, .row d) :: ts, bs, (d, ⟨T, sz, l3.map enc⟩) :: rs⟩ := by
 obtain ⟨q1, q2⟩ := app_eq hq
 have q3 : l2 = l3 := q2.symm
 subst q3
 exact s_append_nil ho hd hdn hx hk hy (Src.sl (l2.map enc) sz (by simpa using fun q _ => hlen q) (by intro e he c hc; obtain ⟨q, _, rfl⟩ := List.mem_map.1 he; exact List.all_eq_true.1 (hone q) c hc)) hT (by simpa using q1)
variable {T T' : TypeId} {k : IntKind} {a b c : Int}
end
end Go.Proofs.YtohmhlkdgfcaeaaGreatDoor
namespace Go.Proofs.YtohmhlkdgfcaeaaGreatDoor
open Go Go.RowKit
theorem ca_23 : Callable Tryz.prog 23 := by unfold Callable; kernel_rfl
theorem ca_24 : Callable Tryz.prog 24 := by unfold Callable; kernel_rfl
theorem ca_39 : Callable Tryz.prog 39 := by unfold Callable; kernel_rfl
theorem ca_46 : Callable Tryz.prog 46 := by unfold Callable; kernel_rfl
end Go.Proofs.YtohmhlkdgfcaeaaGreatDoor
namespace Go.Proofs.YtohmhlkdgfcaeaaGreatDoor
open Go Go.RowKit
section
variable {X : Cx} {E E' : Env} {Q : Exit → Env → Prop} {ops : Array Oper} {rest : List Oper} {o : Oper} {S : Sl} {d : Nat} {x y z : Operand}
variable {α : Type} {enc : α → List PV}
theorem g_appendNS {t T : TypeId} {sz : Nat} {l2 l3 : List α} (hq : app ([] : List α) l2 = some l3) (ho : o.op = .call { callee := .builtin .append, args := #[x, y], argTypes := #[t, t] }) (hd : o.dst = some d) (hdn : Nat.ble (d + 1) X.nt = true)
  (hx : evT E x = some (.pv (.val (.slice none 0 0)))) (hy : evT E y = some (.pv (.sl (l2.map enc)))) (hT : ElX X.P t T sz) (hone : ∀ q, (enc q).all PV.one = true) (hlen : ∀ q, (enc q).length = sz) :
  GS X o E ⟨opT x ++ opT y, [], []⟩ ⟨some d, .row d, none, some ⟨T, sz, l3.map enc⟩⟩ := fun E1 hag hf => by
 obtain ⟨ts, bs, rs⟩ := E1
 simp only [Eff.freshB, Option.isNone_iff_eq_none] at hf
 exact s_appendNS hq ho hd hdn ((evT_agree hag (fun t ht => List.mem_append_left _ ht)).trans hx) hf ((evT_agree hag (fun t ht => List.mem_append_right _ ht)).trans hy) hT hone hlen
end
end Go.Proofs.YtohmhlkdgfcaeaaGreatDoor
namespace Go.Proofs.YtohmhlkdgfcaeaaGreatDoor
open Go Go.RowKit
set_option maxRecDepth 4000
attribute [local irreducible] W Ops GS GSG
def s_115 (n : Nat) (v0 : Acid) (v1 : Int) (v2 : Span) : Option (Span) := some ((Span.mk (wr ((max 0 (wr (v2.low - v0.fall.high))) + v1)) (wr ((max 0 (wr (v2.high - v0.fall.low))) + v1))))
end Go.Proofs.YtohmhlkdgfcaeaaGreatDoor
namespace Go.Proofs.YtohmhlkdgfcaeaaGreatDoor
open Go Go.RowKit
set_option maxRecDepth 4000
attribute [local irreducible] W Ops GS GSG
def s_46 (n : Nat) (v0 : Drum) : Option (Span × Int) := (s_84 n v0 true).bind fun v101 => bif (!decide (v101.2 = 0)) then ( some (((Span.mk 0 0), v101.2)) ) else ( (s_98 n v0 v101.1).bind fun v102 => (s_100 n v102).bind fun v103 => (s_99 n v102 v103).bind fun v104 => bif (!v104) then ( some (((Span.mk 0 0), 5)) ) else ( (s_100 n v102).bind fun v105 => (s_102 n v102 v105).bind fun v106 =>
 some ((v106, 0)) ) )
theorem c_46 (n : Nat) (v0 : Drum) {r : (Span × Int)} (h : s_46 n v0 = some r) :
  Fun Tryz.prog 46 [.agg (cDrum v0)] (.ret (.tup [.agg (cSpan r.1), .val (.int .i64 r.2)])) := by
 unfold s_46 at h
 refine enterW 29 Tryz.func46 q q q ?_
 intro w0 F0
 change W _ _ (Ev [(0, .pv (.agg (cDrum v0)))]) _
 refine W.seq<|W.region<|ob (g_box q q q q q) q q<|ob (g_alloc q q q zr_57) q q<|va q q q q q<|on0<|Sq.n<|W.seq<|W.region<|ov (g_loadA q q q q q ag_27 sz_27 q q) q ?_
 obtain ⟨v101, e101, h⟩ := bind_some h
 refine ov (g_call q q q ca_84 q (c_84 _ _ _ e101)) q<|vm q q q q q<|ov (g_extract q q q q q) q<|ov (g_extract q q q q q) q<|va q q q q q<|va q q q q q<|on0<|Sq.n<|W.seq<|W.seq<|W.region<|vm q q q q q<|ov (g_neq q q q q q) q<|on0<|Sq.n<|W.cond (b := (!decide (v101.2 = 0))) q (fun hc => ?_) (fun hc => ?_)
 ·have h := bif_t h hc
  refine W.seq<|W.region<|ov (g_build (cs := (cSpan (Span.mk 0 0))) q q q zr_57 st_57 q q) q<|vm q q q q q<|Ops.step q (s_storeB q q q q q q sz_57 q q)<|va q q q q q<|on0<|Sq.n<|W.ret<|Sq.r ?_
  obtain rfl := Option.some.inj h
  exact Fin.r q (.cons (.agg _ _ _ _ (cSpan (Span.mk 0 0)) q q ag_57 sz_57) (.cons (.tmp _ _ q) .nil)) q
 ·have h := bif_f h hc
  refine W.skip<|Sq.n<|W.seq<|W.region<|ov (g_loadA q q q q q ag_27 sz_27 q q) q<|vm q q q q q ?_
  obtain ⟨v102, e102, h⟩ := bind_some h
  refine ov (g_call q q q ca_98 q (c_98 _ _ _ e102)) q<|ob (g_alloc q q q zr_129) q q<|Ops.step q (s_storeB q q q q q q sz_129 q q)<|on0<|Sq.n<|W.seq<|W.seq ?_
  obtain ⟨v103, e103, h⟩ := bind_some h
  refine W.draw (m := 3) Checked.mixed (Pre.v (GSG.of q (g_loadA q q q q q ag_129 sz_129 q q)) ((Pre.v (GSG.of q (g_loadA q q q q q ag_129 sz_129 q q)) ((Pre.v (GSG.of q (g_call q q q ca_100 q (c_100 _ _ e103))) (Pre.nil _)))))) (by kernel_rfl) ?_
  obtain ⟨v104, e104, h⟩ := bind_some h
  refine ov (g_call q q q ca_99 q (c_99 _ _ _ e104)) q<|ov (g_not q q q q) q<|on0<|Sq.n<|W.cond (b := (!v104)) q (fun hc => ?_) (fun hc => ?_)
  ·have h := bif_t h hc
   refine W.seq<|W.region<|ov (g_build (cs := (cSpan (Span.mk 0 0))) q q q zr_57 st_57 q q) q<|Ops.step q (s_storeB q q q q q q sz_57 q q)<|va q q q q q<|on0<|Sq.n<|W.ret<|Sq.r ?_
   obtain rfl := Option.some.inj h
   exact Fin.r q (.cons (.agg _ _ _ _ (cSpan (Span.mk 0 0)) q q ag_57 sz_57) (.cons (.tmp _ _ q) .nil)) q
  ·have h := bif_f h hc
   refine W.skip<|Sq.n<|W.seq ?_
   obtain ⟨v105, e105, h⟩ := bind_some h
   refine W.draw (m := 3) Checked.mixed (Pre.v (GSG.of q (g_loadA q q q q q ag_129 sz_129 q q)) ((Pre.v (GSG.of q (g_loadA q q q q q ag_129 sz_129 q q)) ((Pre.v (GSG.of q (g_call q q q ca_100 q (c_100 _ _ e105))) (Pre.nil _)))))) (by kernel_rfl) ?_
   obtain ⟨v106, e106, h⟩ := bind_some h
   refine ov (g_call q q q ca_102 q (c_102 _ _ _ e106)) q<|Ops.step q (s_storeB q q q q q q sz_57 q q)<|va q q q q q<|on0<|Sq.n<|W.ret ?_
   obtain rfl := Option.some.inj h
   exact Fin.r q (.cons (.agg _ _ _ _ (cSpan v106) q q ag_57 sz_57) (.cons (.tmp _ _ q) .nil)) q
end Go.Proofs.YtohmhlkdgfcaeaaGreatDoor
namespace Go.Proofs.YtohmhlkdgfcaeaaGreatDoor
open Go Go.RowKit Go.ChangeShapes Go.WideShapes Go.Deep
set_option maxRecDepth 100000
theorem parT : ∀ t ∈ [3, 9, 23, 27, 54, 92], ParT t := by
 have h : ([3, 9, 23, 27, 54, 92].all fun t => Tryz.prog.readableRec t && decide (t < Tryz.prog.types.size)) = true := by kernel_rfl
 intro t ht
 have := List.all_eq_true.1 h t ht
 rw [Bool.and_eq_true, decide_eq_true_eq] at this
 exact this
end Go.Proofs.YtohmhlkdgfcaeaaGreatDoor
namespace Go.Proofs.YtohmhlkdgfcaeaaGreatDoor
def Span.ok (s : Span) (most : Int) : Prop := 0 ≤ s.low ∧ s.low ≤ s.high ∧ s.high ≤ most
def Span.mem (s : Span) (x : Int) : Prop := s.low ≤ x ∧ x ≤ s.high
def Span.ne (s : Span) : Prop := s.low ≤ s.high
instance (s : Span) (m : Int) : Decidable (s.ok m) := by unfold Span.ok; infer_instance
instance (s : Span) (x : Int) : Decidable (s.mem x) := by unfold Span.mem; infer_instance
instance (s : Span) : Decidable s.ne := by unfold Span.ne; infer_instance
def Batch.ok (b : Batch) : Prop := (0 ≤ b.rough ∧ b.rough ≤ 1000) ∧ (0 ≤ b.goal ∧ b.goal ≤ 1000) ∧ (0 ≤ b.thick ∧ b.thick ≤ 1000) ∧ (0 ≤ b.least ∧ b.least ≤ 1000) ∧ (0 ≤ b.polish ∧ b.polish ≤ 100) ∧ (0 ≤ b.eat ∧ b.eat ≤ 100)
def Strip.ok (s : Strip) (hours : Int) : Prop := (0 ≤ s.hour ∧ s.hour ≤ hours - 1) ∧ (0 ≤ s.seen ∧ s.seen ≤ 2000) ∧ (0 ≤ s.off ∧ s.off ≤ 50)
def Acid.ok (a : Acid) : Prop := a.strength.ok 100 ∧ a.fall.ok 20
instance (b : Batch) : Decidable b.ok := by unfold Batch.ok; infer_instance
instance (s : Strip) (h : Int) : Decidable (s.ok h) := by unfold Strip.ok; infer_instance
instance (a : Acid) : Decidable a.ok := by unfold Acid.ok; infer_instance
structure Drum.ok (d : Drum) : Prop where
 acl : 1 ≤ d.acids.length ∧ d.acids.length ≤ 4
 kn : 1 ≤ d.known ∧ d.known ≤ 2 ^ d.acids.length - 1
 hr : 1 ≤ d.hours ∧ d.hours ≤ 12
 adl : (d.adds.length : Int) = d.hours
 stl : d.strips.length ≤ 6
 btl : 1 ≤ d.batches.length ∧ d.batches.length ≤ 5
 ac : ∀ a ∈ d.acids, a.ok
 ad : ∀ x ∈ d.adds, 0 ≤ x ∧ x ≤ 100
 st : ∀ s ∈ d.strips, s.ok d.hours
 bt : ∀ b ∈ d.batches, b.ok
def cap (a b : Span) : Span := ⟨max a.low b.low, min a.high b.high⟩
def capL (s : Span) (l : List Span) : Span := l.foldl cap s
def Strip.span (s : Strip) : Span := ⟨s.seen - s.off, s.seen + s.off⟩
def stripsAt (l : List Strip) (h : Nat) : List Span := (l.filter fun s => s.hour == (h : Int)).map Strip.span
def addAt (l : List Int) (h : Nat) : Int := l.getD h 0
def aft (a : Acid) (add : Int) (s : Span) : Span := ⟨max 0 (s.low - a.fall.high) + add, max 0 (s.high - a.fall.low) + add⟩
def bef (a : Acid) (add : Int) (s : Span) : Span := ⟨if add < s.low then s.low - add + a.fall.low else 0, s.high - add + a.fall.high⟩
def start (a : Acid) (add : Int) : Span := ⟨a.strength.low + add, a.strength.high + add⟩
def fw (ad : List Int) (st : List Strip) (a : Acid) : Nat → Span
 | 0 => capL (start a (addAt ad 0)) (stripsAt st 0)
 | h + 1 => capL (aft a (addAt ad (h + 1)) (fw ad st a h)) (stripsAt st (h + 1))
def bk (ad : List Int) (st : List Strip) (a : Acid) (H : Nat) : Nat → Span
 | 0 => fw ad st a (H - 1)
 | k + 1 => cap (fw ad st a (H - 1 - (k + 1))) (bef a (addAt ad (H - 1 - k)) (bk ad st a H k))
def Poss (ad : List Int) (st : List Strip) (a : Acid) (H : Nat) : Prop := ∀ h, h < H → (fw ad st a h).ne
def Tru (ad : List Int) (st : List Strip) (a : Acid) (H : Nat) (f : Nat → Int) : Prop :=
 ∀ h, h < H → (match h with | 0 => start a (addAt ad 0) | h + 1 => aft a (addAt ad (h + 1)) ⟨f h, f h⟩).mem (f h) ∧ ∀ s ∈ stripsAt st h, s.mem (f h)
theorem mem_cap {a b : Span} {x : Int} : (cap a b).mem x ↔ a.mem x ∧ b.mem x := by simp only [cap, Span.mem]; omega
theorem mem_capL {l : List Span} : ∀ {s : Span} {x : Int}, (capL s l).mem x ↔ s.mem x ∧ ∀ t ∈ l, t.mem x := by
 induction l with
 | nil => intro s x; simp [capL]
 | cons t l ih =>
  intro s x
  have := @ih (cap s t) x
  simp only [capL, List.foldl_cons, List.mem_cons, forall_eq_or_imp] at this ⊢
  rw [this, mem_cap]
  constructor
  ·rintro ⟨⟨h1, h2⟩, h3⟩; exact ⟨h1, h2, h3⟩
  ·rintro ⟨h1, h2, h3⟩; exact ⟨⟨h1, h2⟩, h3⟩
theorem capL_low {l : List Span} : ∀ {s : Span}, s.low ≤ (capL s l).low ∧ (capL s l).high ≤ s.high := by
 induction l with
 | nil => intro s; simp [capL]
 | cons t l ih =>
  intro s
  have := @ih (cap s t)
  simp only [capL, List.foldl_cons] at this ⊢
  simp only [cap] at this ⊢
  omega
theorem ne_mem {s : Span} (h : s.ne) : s.mem s.low ∧ s.mem s.high := by simp only [Span.ne, Span.mem] at *; omega
section
variable {ad : List Int} {st : List Strip} {a : Acid} {H : Nat}
theorem addAt_le (had : ∀ x ∈ ad, 0 ≤ x ∧ x ≤ 100) (h : Nat) : 0 ≤ addAt ad h ∧ addAt ad h ≤ 100 := by
 unfold addAt
 rw [List.getD_eq_getElem?_getD]
 cases hh : ad[h]? with
 | none => simp
 | some x => simpa using had x (List.mem_of_getElem? hh)
theorem fw_low (ha : a.ok) (had : ∀ x ∈ ad, 0 ≤ x ∧ x ≤ 100) : ∀ h, 0 ≤ (fw ad st a h).low ∧ (fw ad st a h).high ≤ 100 + 100 * (h + 1) := by
 intro h
 obtain ⟨h1, h2⟩ := ha
 simp only [Span.ok] at h1 h2
 induction h with
 | zero =>
  have := addAt_le had 0
  have := @capL_low (stripsAt st 0) (start a (addAt ad 0))
  simp only [fw]
  simp only [start] at this ⊢
  omega
 | succ h ih =>
  have := addAt_le had (h + 1)
  have := @capL_low (stripsAt st (h + 1)) (aft a (addAt ad (h + 1)) (fw ad st a h))
  simp only [fw]
  simp only [aft] at this ⊢
  push_cast
  omega
theorem fw_sound (ha : a.ok) {f : Nat → Int} (hf : Tru ad st a H f) : ∀ h, h < H → (fw ad st a h).mem (f h) := by
 intro h
 obtain ⟨h1, h2⟩ := ha
 simp only [Span.ok] at h1 h2
 induction h with
 | zero => intro hh; exact mem_capL.2 (hf 0 hh)
 | succ h ih =>
  intro hh
  have hi := ih (by omega)
  obtain ⟨q1, q2⟩ := hf (h + 1) hh
  refine mem_capL.2 ⟨?_, q2⟩
  simp only [aft, Span.mem] at q1 hi ⊢
  omega
theorem poss_of_tru (ha : a.ok) {f : Nat → Int} (hf : Tru ad st a H f) : Poss ad st a H := fun h hh => by
 have := fw_sound ha hf h hh
 simp only [Span.mem, Span.ne] at *
 omega
theorem bk_ok (ha : a.ok) (had : ∀ x ∈ ad, 0 ≤ x ∧ x ≤ 100) (hp : Poss ad st a H) : ∀ k, k < H → (bk ad st a H k).ne ∧ (fw ad st a (H - 1 - k)).low ≤ (bk ad st a H k).low ∧ (bk ad st a H k).high ≤ (fw ad st a (H - 1 - k)).high := by
 intro k
 induction k with
 | zero => intro hk; exact ⟨hp _ (by omega), by simp [bk]⟩
 | succ k ih =>
  intro hk
  obtain ⟨i1, i2, i3⟩ := ih (by omega)
  have hn := hp (H - 1 - (k + 1)) (by omega)
  have e : H - 1 - k = H - 1 - (k + 1) + 1 := by omega
  have hl := fw_low (st := st) ha had (H - 1 - (k + 1))
  have hadd := addAt_le had (H - 1 - k)
  have hc := @capL_low (stripsAt st (H - 1 - k)) (aft a (addAt ad (H - 1 - k)) (fw ad st a (H - 1 - (k + 1))))
  have he : fw ad st a (H - 1 - k) = capL (aft a (addAt ad (H - 1 - k)) (fw ad st a (H - 1 - (k + 1)))) (stripsAt st (H - 1 - k)) := by
   rw [e]; rfl
  rw [← he] at hc
  obtain ⟨h1, h2⟩ := ha
  simp only [Span.ok] at h1 h2
  simp only [bk, cap, bef, aft, Span.ne] at *
  split <;> omega
def bd (ad : List Int) (st : List Strip) (a : Acid) (H h : Nat) : Span := bk ad st a H (H - 1 - h)
theorem bd_last (_hH : 0 < H) : bd ad st a H (H - 1) = fw ad st a (H - 1) := by simp [bd, bk]
theorem bd_step {h : Nat} (hh : h + 1 < H) : bd ad st a H h = cap (fw ad st a h) (bef a (addAt ad (h + 1)) (bd ad st a H (h + 1))) := by
 unfold bd
 obtain ⟨k, hk⟩ : ∃ k, H - 1 - h = k + 1 := ⟨H - 1 - h - 1, by omega⟩
 have e1 : H - 1 - (h + 1) = k := by omega
 rw [hk, e1, bk]
 have e2 : H - 1 - (k + 1) = h := by omega
 have e3 : H - 1 - k = h + 1 := by omega
 rw [e2, e3]
theorem bd_ok (ha : a.ok) (had : ∀ x ∈ ad, 0 ≤ x ∧ x ≤ 100) (hp : Poss ad st a H) {h : Nat} (hh : h < H) : (bd ad st a H h).ne ∧ (fw ad st a h).low ≤ (bd ad st a H h).low ∧ (bd ad st a H h).high ≤ (fw ad st a h).high := by
 have := bk_ok ha had hp (H - 1 - h) (by omega)
 have e : H - 1 - (H - 1 - h) = h := by omega
 rw [e] at this
 exact this
theorem bd_sound (ha : a.ok) (had : ∀ x ∈ ad, 0 ≤ x ∧ x ≤ 100) {f : Nat → Int} (hf : Tru ad st a H f) : ∀ k h, h + k + 1 = H → (bd ad st a H h).mem (f h) := by
 intro k
 induction k with
 | zero =>
  intro h hh
  have : h = H - 1 := by omega
  subst this
  rw [bd_last (by omega)]
  exact fw_sound ha hf _ (by omega)
 | succ k ih =>
  intro h hh
  rw [bd_step (by omega)]
  have i1 := ih (h + 1) (by omega)
  have i2 := fw_sound ha hf h (by omega)
  have i3 := (hf (h + 1) (by omega)).1
  have hl := fw_low (st := st) ha had h
  have hadd := addAt_le had (h + 1)
  obtain ⟨h1, h2⟩ := ha
  simp only [Span.ok] at h1 h2
  refine mem_cap.2 ⟨i2, ?_⟩
  simp only [aft, bef, Span.mem] at *
  split <;> omega
theorem bd_tru (ha : a.ok) (had : ∀ x ∈ ad, 0 ≤ x ∧ x ≤ 100) (hp : Poss ad st a H) : Tru ad st a H (fun h => (bd ad st a H h).low) ∧ Tru ad st a H (fun h => (bd ad st a H h).high) := by
 have strips : ∀ h, h < H → ∀ s ∈ stripsAt st h, s.mem (bd ad st a H h).low ∧ s.mem (bd ad st a H h).high := by
  intro h hh s hs
  obtain ⟨q1, q2, q3⟩ := bd_ok ha had hp hh
  have key : ∀ x, (fw ad st a h).mem x → s.mem x := fun x hx => by
   cases h with
   | zero => exact (mem_capL.1 hx).2 s hs
   | succ h => exact (mem_capL.1 hx).2 s hs
  simp only [Span.ne] at q1
  exact ⟨key _ ⟨by omega, by omega⟩, key _ ⟨by omega, by omega⟩⟩
 have chain : ∀ h, h < H → (match h with | 0 => start a (addAt ad 0) | h + 1 => aft a (addAt ad (h + 1)) ⟨(bd ad st a H h).low, (bd ad st a H h).low⟩).mem (bd ad st a H h).low ∧
   (match h with | 0 => start a (addAt ad 0) | h + 1 => aft a (addAt ad (h + 1)) ⟨(bd ad st a H h).high, (bd ad st a H h).high⟩).mem (bd ad st a H h).high := by
  intro h hh
  obtain ⟨q1, q2, q3⟩ := bd_ok ha had hp hh
  cases h with
  | zero =>
   have hc := @capL_low (stripsAt st 0) (start a (addAt ad 0))
   simp only [Span.ne, fw, Span.mem] at *
   omega
  | succ h =>
   have hs := bd_step (ad := ad) (st := st) (a := a) hh
   have hc := @capL_low (stripsAt st (h + 1)) (aft a (addAt ad (h + 1)) (fw ad st a h))
   have hl := fw_low (st := st) ha had h
   have hadd := addAt_le had (h + 1)
   have hn := hp h (by omega)
   obtain ⟨h1, h2⟩ := ha
   simp only [Span.ok] at h1 h2
   rw [show fw ad st a (h + 1) = capL (aft a (addAt ad (h + 1)) (fw ad st a h)) (stripsAt st (h + 1)) from rfl] at q2 q3
   generalize capL (aft a (addAt ad (h + 1)) (fw ad st a h)) (stripsAt st (h + 1)) = c at *
   generalize bd ad st a H (h + 1) = n at *
   simp only [hs]
   generalize fw ad st a h = s at *
   simp only [cap, bef, aft, Span.ne, Span.mem] at *
   split <;> omega
 exact ⟨fun h hh => ⟨(chain h hh).1, fun s hs => (strips h hh s hs).1⟩, fun h hh => ⟨(chain h hh).2, fun s hs => (strips h hh s hs).2⟩⟩
end
end Go.Proofs.YtohmhlkdgfcaeaaGreatDoor
namespace Go.Proofs.YtohmhlkdgfcaeaaGreatDoor
open Go Go.RowKit
theorem wr_of {x : Int} (h : -9223372036854775808 ≤ x ∧ x ≤ 9223372036854775807) : wr x = x := by
 show IntKind.i64.wrap x = x
 rw [IntKind.wrap_i64]; omega
theorem ix_at {α : Type} {l : List α} {i : Nat} {x : α} (h : l[i]? = some x) : ix l (i : Int) = some x := by
 simp [ix, h]
def fc {α σ β : Type} (body : Nat → α → σ → (σ → Option β) → Option β) (fin : σ → Option β) : Nat → List α → σ → Option β
 | _, [], s => fin s
 | i, x :: r, s => body i x s (fc body fin (i + 1) r)
theorem loop_list {α σ β : Type} (l : List α) (L : Nat → Int → σ → Option β) (body : Nat → α → σ → (σ → Option β) → Option β) (fin : σ → Option β)
  (h : ∀ (k i : Nat) (s : σ), L (k + 1) (i : Int) s = bif decide ((i : Int) < ((l.length : Nat) : Int)) then (ix l (i : Int)).bind (fun x => body i x s (fun s' => L k (wr ((i : Int) + 1)) s')) else fin s)
  (hl : l.length ≤ 1000000) : ∀ (k i : Nat) (s : σ), l.length < k + i → i ≤ l.length → L k (i : Int) s = fc body fin i (l.drop i) s := by
 intro k
 induction k with
 | zero => intro i s h1 h2; omega
 | succ k ih =>
  intro i s h1 h2
  rw [h]
  by_cases hi : i < l.length
  ·have e1 : decide ((i : Int) < ((l.length : Nat) : Int)) = true := decide_eq_true (by omega)
   rw [e1, cond_true, ix_at (List.getElem?_eq_getElem hi), List.drop_eq_getElem_cons hi]
   simp only [Option.bind_some, fc]
   congr 1
   funext s'
   rw [wr_of (by omega)]
   exact_mod_cast ih (i + 1) s' (by omega) (by omega)
  ·have e1 : decide ((i : Int) < ((l.length : Nat) : Int)) = false := decide_eq_false (by omega)
   rw [e1, cond_false, List.drop_eq_nil_of_le (by omega)]
   rfl
def fn {σ β : Type} (m : Int) (body : Int → σ → (σ → Option β) → Option β) (fin : σ → Option β) : Nat → Int → σ → Option β
 | 0, _, s => fin s
 | r + 1, i, s => body i s (fn m body fin r (i + 1))
theorem loop_nat {σ β : Type} (m : Int) (L : Nat → Int → σ → Option β) (body : Int → σ → (σ → Option β) → Option β) (fin : σ → Option β)
  (h : ∀ (k : Nat) (i : Int) (s : σ), L (k + 1) i s = bif decide (i < m) then body i s (fun s' => L k (wr (i + 1)) s') else fin s)
  (hm : m ≤ 1000000) : ∀ (r k : Nat) (i : Int) (s : σ), 0 ≤ i → i + r = m → r < k → L k i s = fn m body fin r i s := by
 intro r
 induction r with
 | zero =>
  intro k i s h0 h1 h2
  obtain ⟨k, rfl⟩ : ∃ k', k = k' + 1 := ⟨k - 1, by omega⟩
  have e1 : decide (i < m) = false := decide_eq_false (by omega)
  rw [h, e1, cond_false]; rfl
 | succ r ih =>
  intro k i s h0 h1 h2
  obtain ⟨k, rfl⟩ : ∃ k', k = k' + 1 := ⟨k - 1, by omega⟩
  have e1 : decide (i < m) = true := decide_eq_true (by omega)
  rw [h, e1, cond_true]
  simp only [fn]
  congr 1
  funext s'
  rw [wr_of (by omega)]
  exact ih k (i + 1) s' (by omega) (by omega) (by omega)
theorem fc_all {α : Type} (p : α → Bool) (fin : Option Bool) : ∀ (l : List α) (i : Nat), fc (σ := Unit) (fun _ x s K => bif p x then K s else some false) (fun _ => fin) i l () = bif l.all p then fin else some false := by
 intro l
 induction l with
 | nil => intro i; rfl
 | cons x r ih =>
  intro i
  simp only [fc, List.all_cons]
  cases p x
  ·rfl
  ·rw [cond_true, ih]; rfl
theorem loop_all {α : Type} (l : List α) (L : Nat → Int → Option Bool) (p : α → Bool) (fin : Option Bool)
  (h : ∀ (k i : Nat), L (k + 1) (i : Int) = bif decide ((i : Int) < ((l.length : Nat) : Int)) then (ix l (i : Int)).bind (fun x => bif p x then L k (wr ((i : Int) + 1)) else some false) else fin)
  (hl : l.length ≤ 1000000) {k : Nat} (hk : l.length < k) : L k 0 = bif l.all p then fin else some false := by
 have := loop_list l (fun k i (_ : Unit) => L k i) (fun _ x s K => bif p x then K s else some false) (fun _ => fin) (fun k i _ => h k i) hl k 0 () (by omega) (by omega)
 rw [fc_all] at this
 exact this
def firstI {α : Type} (p : α → Bool) : Nat → List α → Int
 | _, [] => -1
 | i, x :: r => bif p x then (i : Int) else firstI p (i + 1) r
theorem firstI_any {α : Type} (p : α → Bool) : ∀ (l : List α) (i : Nat), decide (0 ≤ firstI p i l) = l.any p := by
 intro l
 induction l with
 | nil => intro i; rfl
 | cons x r ih =>
  intro i
  rw [firstI, List.any_cons]
  rcases Bool.eq_false_or_eq_true (p x) with h | h
  ·rw [h, cond_true]; exact decide_eq_true (by omega)
  ·rw [h, cond_false, ih]; rfl
theorem loop_first {α : Type} (l : List α) (f : α → Option Bool) (p : α → Bool) (hf : ∀ x ∈ l, f x = some (p x)) (L : Nat → Int → Option Int)
  (h : ∀ (k i : Nat), L (k + 1) (i : Int) = bif decide ((i : Int) < ((l.length : Nat) : Int)) then (ix l (i : Int)).bind (fun x => (f x).bind fun b => bif b then some (i : Int) else L k (wr ((i : Int) + 1))) else some (-1))
  (hl : l.length ≤ 1000000) {k : Nat} (hk : l.length < k) : L k 0 = some (firstI p 0 l) := by
 have h1 := loop_list l (fun k i (_ : Unit) => L k i) (fun i x s K => (f x).bind fun b => bif b then some (i : Int) else K s) (fun _ => some (-1)) (fun k i _ => h k i) hl k 0 () (by omega) (by omega)
 rw [List.drop_zero] at h1
 have key : ∀ (l' : List α) (i : Nat), (∀ x ∈ l', f x = some (p x)) → fc (σ := Unit) (fun i x s K => (f x).bind fun b => bif b then some (i : Int) else K s) (fun _ => some (-1)) i l' () = some (firstI p i l') := by
  intro l'
  induction l' with
  | nil => intro i _; rfl
  | cons x r ih =>
   intro i hx
   simp only [fc, firstI, hx x List.mem_cons_self, Option.bind_some]
   cases p x
   ·rw [cond_false, cond_false]; exact ih (i + 1) (fun y hy => hx y (List.mem_cons_of_mem _ hy))
   ·rfl
 exact h1.trans (key l 0 hf)
def inb (v a b : Int) : Bool := decide (a ≤ v) && decide (v ≤ b)
theorem p_87 (n : Nat) (v a b : Int) : s_87 n v a b = some (inb v a b) := by unfold s_87 inb; cases decide (a ≤ v) <;> rfl
theorem p_103 (n : Nat) (v a b : Int) : s_103 n v a b = some (inb v a b) := by unfold s_103 inb; cases decide (a ≤ v) <;> rfl
def spb (s : Span) (m : Int) : Bool := decide (0 ≤ s.low) && (decide (s.low ≤ s.high) && decide (s.high ≤ m))
theorem p_107 (n : Nat) (s : Span) (m : Int) : s_107 n s m = some (spb s m) := by unfold s_107 spb; cases decide (0 ≤ s.low) <;> cases decide (s.low ≤ s.high) <;> rfl
theorem p_148 (n : Nat) (s : Span) (m : Int) : s_148 n s m = some (spb s m) := by unfold s_148 spb; cases decide (0 ≤ s.low) <;> cases decide (s.low ≤ s.high) <;> rfl
def okA (a : Acid) : Bool := spb a.strength 100 && spb a.fall 20
def okS (h : Int) (s : Strip) : Bool := inb s.hour 0 (wr (h - 1)) && (inb s.seen 0 2000 && inb s.off 0 50)
def okBt (b : Batch) : Bool := inb b.rough 0 1000 && (inb b.goal 0 1000 && (inb b.thick 0 1000 && (inb b.least 0 1000 && (inb b.polish 0 100 && inb b.eat 0 100))))
def okL (d : Drum) : Bool := d.acids.all okA && (d.adds.all (fun x => inb x 0 100) && (d.strips.all (okS d.hours) && d.batches.all okBt))
def okN (d : Drum) : Bool := inb d.acids.length 1 4 && (inb d.known 1 (2 ^ d.acids.length - 1) && (inb d.hours 1 12 && (decide ((d.adds.length : Int) = d.hours) && (decide ((d.strips.length : Int) ≤ 6) && inb d.batches.length 1 5))))
def okD (d : Drum) : Bool := okN d && okL d
theorem inb_iff {v a b : Int} : inb v a b = true ↔ a ≤ v ∧ v ≤ b := by simp [inb]
theorem spb_iff {s : Span} {m : Int} : spb s m = true ↔ s.ok m := by simp [spb, Span.ok]
theorem okA_iff {a : Acid} : okA a = true ↔ a.ok := by simp [okA, Acid.ok, spb_iff]
theorem okS_iff {h : Int} {s : Strip} (hh : 1 ≤ h ∧ h ≤ 12) : okS h s = true ↔ s.ok h := by
 unfold okS
 rw [wr_of (by omega)]
 simp [Strip.ok, inb_iff]
theorem okBt_iff {b : Batch} : okBt b = true ↔ b.ok := by simp [okBt, Batch.ok, inb_iff]
theorem okD_iff {d : Drum} : okD d = true ↔ d.ok := by
 constructor
 ·intro h
  simp only [okD, okN, okL, Bool.and_eq_true, inb_iff, decide_eq_true_eq, List.all_eq_true] at h
  obtain ⟨⟨h1, h2, h3, h4, h5, h6⟩, h7, h8, h9, h10⟩ := h
  exact ⟨by omega, h2, h3, h4, by omega, by omega, fun a ha => okA_iff.1 (h7 a ha), h8, fun s hs => (okS_iff h3).1 (h9 s hs), fun b hb => okBt_iff.1 (h10 b hb)⟩
 ·intro h
  simp only [okD, okN, okL, Bool.and_eq_true, inb_iff, decide_eq_true_eq, List.all_eq_true]
  have h1 := h.acl
  have h5 := h.stl
  have h6 := h.btl
  exact ⟨⟨by omega, h.kn, h.hr, h.adl, by omega, by omega⟩, fun a ha => okA_iff.2 (h.ac a ha), h.ad, fun s hs => (okS_iff h.hr).2 (h.st s hs), fun b hb => okBt_iff.2 (h.bt b hb)⟩
structure Short (d : Drum) : Prop where
 a : d.acids.length ≤ 6
 b : d.adds.length ≤ 15
 c : d.strips.length ≤ 9
 e : d.batches.length ≤ 7
def shortB (d : Drum) : Bool := decide (((d.acids.length : Nat) : Int) ≤ 6) && (decide (((d.adds.length : Nat) : Int) ≤ 15) && (decide (((d.strips.length : Nat) : Int) ≤ 9) && decide (((d.batches.length : Nat) : Int) ≤ 7)))
theorem shortB_iff {d : Drum} : shortB d = true ↔ Short d := by
 simp only [shortB, Bool.and_eq_true, decide_eq_true_eq]
 exact ⟨fun h => ⟨by omega, by omega, by omega, by omega⟩, fun h => ⟨by have := h.a; omega, by have := h.b; omega, by have := h.c; omega, by have := h.e; omega⟩⟩
theorem p_23 (n : Nat) (d : Drum) : s_23 n d = some (shortB d) := by
 unfold s_23 shortB
 cases decide (((d.acids.length : Nat) : Int) ≤ 6) <;> cases decide (((d.adds.length : Nat) : Int) ≤ 15) <;> cases decide (((d.strips.length : Nat) : Int) ≤ 9) <;> rfl
section
variable {n : Nat} {d : Drum}
theorem p_39_l14 (hn : 100 ≤ n) (hs : Short d) : s_39_l14 n d n 0 = some (d.batches.all okBt) := by
 have := hs.e
 rw [loop_all d.batches (s_39_l14 n d) okBt (some true) (fun k i => ?_) (by omega) (by omega)]
 ·cases d.batches.all okBt <;> rfl
 ·rw [s_39_l14]
  congr 1
  congr 1
  funext x
  simp only [p_103, Option.bind_some, okBt, s_39_j17]
  cases inb x.rough 0 1000 <;> cases inb x.goal 0 1000 <;> cases inb x.thick 0 1000 <;> cases inb x.least 0 1000 <;> cases inb x.polish 0 100 <;> cases inb x.eat 0 100 <;> rfl
theorem p_39_l10 (hn : 100 ≤ n) (hs : Short d) : s_39_l10 n d n 0 = some (d.strips.all (okS d.hours) && d.batches.all okBt) := by
 have := hs.c
 rw [loop_all d.strips (s_39_l10 n d) (okS d.hours) (some (d.batches.all okBt)) (fun k i => ?_) (by omega) (by omega)]
 ·cases d.strips.all (okS d.hours) <;> rfl
 ·rw [s_39_l10, p_39_l14 hn hs]
  congr 1
  congr 1
  funext x
  simp only [p_103, Option.bind_some, okS, s_39_j13]
  cases inb x.hour 0 (wr (d.hours - 1)) <;> cases inb x.seen 0 2000 <;> cases inb x.off 0 50 <;> rfl
theorem p_39_l9 (hn : 100 ≤ n) (hs : Short d) : s_39_l9 n d n 0 = some (d.adds.all (fun x => inb x 0 100) && (d.strips.all (okS d.hours) && d.batches.all okBt)) := by
 have := hs.b
 rw [loop_all d.adds (s_39_l9 n d) (fun x => inb x 0 100) (some (d.strips.all (okS d.hours) && d.batches.all okBt)) (fun k i => ?_) (by omega) (by omega)]
 ·cases d.adds.all (fun x => inb x 0 100) <;> rfl
 ·rw [s_39_l9, p_39_l10 hn hs]
  congr 1
  congr 1
  funext x
  simp only [p_103, Option.bind_some]
  cases inb x 0 100 <;> rfl
theorem p_39_l5 (hn : 100 ≤ n) (hs : Short d) : s_39_l5 n d n 0 = some (okL d) := by
 have := hs.a
 rw [loop_all d.acids (s_39_l5 n d) okA (some (d.adds.all (fun x => inb x 0 100) && (d.strips.all (okS d.hours) && d.batches.all okBt))) (fun k i => ?_) (by omega) (by omega)]
 ·unfold okL; cases d.acids.all okA <;> rfl
 ·rw [s_39_l5, p_39_l9 hn hs]
  by_cases hi : i < d.acids.length
  ·have e := ix_at (List.getElem?_eq_getElem hi)
   simp only [e, Option.bind_some, p_107, okA, s_39_j8]
   cases spb d.acids[i].strength 100 <;> cases spb d.acids[i].fall 20 <;> rfl
  ·have e1 : decide ((i : Int) < ((d.acids.length : Nat) : Int)) = false := decide_eq_false (by omega)
   rw [e1, cond_false, cond_false]
theorem p_106 (hn : 100 ≤ n) {m : Nat} (hm : m ≤ 40) : s_106 n (m : Int) = some (2 ^ m) := by
 have h1 : ∀ (r k : Nat) (i : Nat), i + r = m → r < k → s_106_l1 (m : Int) k (2 ^ i) (i : Int) = some (2 ^ m) := by
  intro r
  induction r with
  | zero =>
   intro k i hi hk
   obtain ⟨k, rfl⟩ : ∃ k', k = k' + 1 := ⟨k - 1, by omega⟩
   have e1 : decide ((i : Int) < (m : Int)) = false := decide_eq_false (by omega)
   have : i = m := by omega
   subst this
   rw [s_106_l1, e1, cond_false]
  | succ r ih =>
   intro k i hi hk
   obtain ⟨k, rfl⟩ : ∃ k', k = k' + 1 := ⟨k - 1, by omega⟩
   have e1 : decide ((i : Int) < (m : Int)) = true := decide_eq_true (by omega)
   have h6 : -9223372036854775808 ≤ (2 : Int) * 2 ^ i ∧ (2 : Int) * 2 ^ i ≤ 9223372036854775807 := by
    obtain ⟨p, hp, hp2⟩ : ∃ p : Nat, (2 : Int) ^ i = (p : Int) ∧ p ≤ 2 ^ 40 := ⟨2 ^ i, by push_cast; rfl, Nat.pow_le_pow_right (by omega) (by omega)⟩
    rw [hp]
    omega
   rw [s_106_l1, e1, cond_true, wr_of (x := 2 * 2 ^ i) h6, wr_of (x := (i : Int) + 1) (by omega)]
   have := ih k (i + 1) (by omega) (by omega)
   rw [show (2 : Int) * 2 ^ i = 2 ^ (i + 1) by rw [Int.pow_succ]; omega]
   exact_mod_cast this
 have := h1 m n 0 (by omega) (by omega)
 simpa [s_106] using this
theorem p_39 (hn : 100 ≤ n) (hs : Short d) : s_39 n d = some (okD d) := by
 have h1 := hs.a
 unfold s_39
 rw [p_106 hn (by omega)]
 simp only [p_103, Option.bind_some, s_39_j4, p_39_l5 hn hs]
 have h3 : (2 : Int) ^ d.acids.length ≤ 64 := by
  have : (2 : Nat) ^ d.acids.length ≤ 2 ^ 6 := Nat.pow_le_pow_right (by omega) h1
  exact_mod_cast this
 have h4 : (0 : Int) < 2 ^ d.acids.length := by
  have : (0 : Nat) < 2 ^ d.acids.length := Nat.pow_pos (by omega)
  exact_mod_cast this
 rw [wr_of (by omega)]
 have h5 : decide (6 < ((d.strips.length : Nat) : Int)) = !decide (((d.strips.length : Nat) : Int) ≤ 6) := by
  by_cases h : ((d.strips.length : Nat) : Int) ≤ 6
  ·simp [h]
  ·simp [h]; omega
 rw [h5]
 unfold okD okN
 cases inb d.acids.length 1 4 <;> cases inb d.known 1 (2 ^ d.acids.length - 1) <;> cases inb d.hours 1 12 <;> cases decide (((d.adds.length : Nat) : Int) = d.hours) <;> cases decide (((d.strips.length : Nat) : Int) ≤ 6) <;> cases inb d.batches.length 1 5 <;> rfl
end
end Go.Proofs.YtohmhlkdgfcaeaaGreatDoor
namespace Go.Proofs.YtohmhlkdgfcaeaaGreatDoor
open Go Go.RowKit
section
variable {n : Nat} {d : Drum}
theorem p_121 (hn : 100 ≤ n) (l : List Int) (hl : l.length ≤ 50) (f : Int → Option Bool) (p : Int → Bool) (hf : ∀ x ∈ l, f x = some (p x)) : s_121 n l f = some (l.any p) := by
 unfold s_121 s_167
 rw [loop_first l f p hf (s_167_l1 f l) (fun k i => by rw [s_167_l1]) (by omega) (by omega), Option.bind_some, firstI_any]
theorem p_146 (hn : 100 ≤ n) (l : List Acid) (hl : l.length ≤ 50) (f : Acid → Option Bool) (p : Acid → Bool) (hf : ∀ x ∈ l, f x = some (p x)) : s_146 n l f = some (l.any p) := by
 unfold s_146 s_174
 rw [loop_first l f p hf (s_174_l1 f l) (fun k i => by rw [s_174_l1]) (by omega) (by omega), Option.bind_some, firstI_any]
theorem p_95 (hn : 100 ≤ n) (l : List Strip) (hl : l.length ≤ 50) (f : Strip → Option Bool) (p : Strip → Bool) (hf : ∀ x ∈ l, f x = some (p x)) : s_95 n l f = some (l.any p) := by
 unfold s_95 s_143
 rw [loop_first l f p hf (s_143_l1 f l) (fun k i => by rw [s_143_l1]) (by omega) (by omega), Option.bind_some, firstI_any]
theorem p_151 (hn : 100 ≤ n) (l : List Batch) (hl : l.length ≤ 50) (f : Batch → Option Bool) (p : Batch → Bool) (hf : ∀ x ∈ l, f x = some (p x)) : s_151 n l f = some (l.any p) := by
 unfold s_151 s_175
 rw [loop_first l f p hf (s_175_l1 f l) (fun k i => by rw [s_175_l1]) (by omega) (by omega), Option.bind_some, firstI_any]
theorem any_not {α : Type} (l : List α) (p : α → Bool) : l.any (fun x => !p x) = !l.all p := by
 induction l with
 | nil => rfl
 | cons x r ih => simp only [List.any_cons, List.all_cons, ih, Bool.not_and]
theorem p_147 (a : Acid) : s_147 n a = some (!okA a) := by
 unfold s_147 okA
 simp only [p_148, Option.bind_some]
 cases spb a.strength 100 <;> cases spb a.fall 20 <;> rfl
theorem p_149 (x : Int) : s_149 n x = some (!inb x 0 100) := by
 unfold s_149
 simp only [p_87, Option.bind_some]
theorem p_150 (s : Strip) : s_150 n s d = some (!okS d.hours s) := by
 unfold s_150 okS
 simp only [p_87, Option.bind_some]
 cases inb s.hour 0 (wr (d.hours - 1)) <;> cases inb s.seen 0 2000 <;> cases inb s.off 0 50 <;> rfl
theorem p_152 (b : Batch) : s_152 n b = some (!okBt b) := by
 unfold s_152 s_153 okBt
 simp only [p_87, Option.bind_some]
 cases inb b.rough 0 1000 <;> cases inb b.goal 0 1000 <;> cases inb b.thick 0 1000 <;> cases inb b.least 0 1000 <;> cases inb b.polish 0 100 <;> cases inb b.eat 0 100 <;> rfl
theorem p_104 (hn : 100 ≤ n) (hs : Short d) : s_104 n d = some (okD d) := by
 have h1 := hs.a
 have h2 := hs.b
 have h7 := hs.c
 have h8 := hs.e
 have h3 : (2 : Int) ^ d.acids.length ≤ 64 := by
  have : (2 : Nat) ^ d.acids.length ≤ 2 ^ 6 := Nat.pow_le_pow_right (by omega) h1
  exact_mod_cast this
 have h4 : (0 : Int) < 2 ^ d.acids.length := by
  have : (0 : Nat) < 2 ^ d.acids.length := Nat.pow_pos (by omega)
  exact_mod_cast this
 have hsh : shl .i64 1 ((List.length d.acids : Nat) : Int) = some (2 ^ d.acids.length) := by
  unfold shl
  rw [show decide ((0 : Int) ≤ ((List.length d.acids : Nat) : Int)) = true from decide_eq_true (by omega), cond_true]
  have hm : min ((List.length d.acids : Nat) : Int).toNat IntKind.i64.bits = d.acids.length := by
   show min d.acids.length 64 = d.acids.length
   omega
  rw [hm, Int.one_mul]
  exact congrArg some (wr_of (by omega))
 unfold s_104
 rw [hsh]
 simp only [p_87, Option.bind_some, p_146 hn d.acids (by omega) _ _ (fun x _ => p_147 x), p_121 hn d.adds (by omega) _ _ (fun x _ => p_149 x), p_95 hn d.strips (by omega) _ _ (fun x _ => p_150 x), p_151 hn d.batches (by omega) _ _ (fun x _ => p_152 x), any_not]
 rw [wr_of (by omega)]
 unfold okD okN okL
 cases inb d.acids.length 1 4 <;> cases inb d.known 1 (2 ^ d.acids.length - 1) <;> cases inb d.hours 1 12 <;> cases decide (((d.adds.length : Nat) : Int) = d.hours) <;> cases decide (((d.strips.length : Nat) : Int) ≤ 6) <;> cases inb d.batches.length 1 5 <;>
  cases d.acids.all okA <;> cases d.adds.all (fun x => inb x 0 100) <;> cases d.strips.all (okS d.hours) <;> cases d.batches.all okBt <;> rfl
def hasB (set : Int) (i : Nat) : Bool := decide (set / 2 ^ i % 2 = 1)
theorem pow_bound {i : Nat} (h : i ≤ 6) : (1 : Int) ≤ 2 ^ i ∧ (2 : Int) ^ i ≤ 64 := by
 obtain ⟨p, hp, hp1, hp2⟩ : ∃ p : Nat, (2 : Int) ^ i = (p : Int) ∧ 1 ≤ p ∧ p ≤ 2 ^ 6 := ⟨2 ^ i, by push_cast; rfl, Nat.pow_pos (by omega), Nat.pow_le_pow_right (by omega) h⟩
 omega
theorem and_one : ∀ x : Nat, x < 16 → bits .and .i64 (x : Int) 1 = (x : Int) % 2 := by decide
theorem p_145 {set : Int} {i : Nat} (hi : i ≤ 6) (h0 : 0 ≤ set) (h1 : set ≤ 15) : s_145 n set i = some (hasB set i) := by
 unfold s_145
 have hp := pow_bound hi
 have e1 : shr .i64 set (i : Int) = some (set / 2 ^ i) := by
  unfold shr
  rw [show decide ((0 : Int) ≤ (i : Int)) = true from decide_eq_true (by omega), cond_true]
  have hm : min ((i : Nat) : Int).toNat IntKind.i64.bits = i := by
   show min i 64 = i
   omega
  rw [hm, Int.fdiv_eq_ediv_of_nonneg _ (by omega)]
 rw [e1, Option.bind_some, hasB]
 have h3 : 0 ≤ set / 2 ^ i := Int.ediv_nonneg h0 (by omega)
 have h4 : set / 2 ^ i ≤ set := Int.ediv_le_self _ h0
 obtain ⟨x, hx⟩ := Int.eq_ofNat_of_zero_le h3
 rw [hx, and_one x (by omega)]
end
end Go.Proofs.YtohmhlkdgfcaeaaGreatDoor
namespace Go.Proofs.YtohmhlkdgfcaeaaGreatDoor
open Go Go.RowKit
instance (ad : List Int) (st : List Strip) (a : Acid) (H : Nat) : Decidable (Poss ad st a H) := by unfold Poss; infer_instance
def Span.small (s : Span) : Prop := (-5000 ≤ s.low ∧ s.low ≤ 5000) ∧ (-5000 ≤ s.high ∧ s.high ≤ 5000)
section
variable {n : Nat} {a : Acid} {add : Int} {s : Span}
theorem p_115 (ha : a.ok) (h : 0 ≤ add ∧ add ≤ 100) (hs : s.small) : s_115 n a add s = some (aft a add s) := by
 obtain ⟨h1, h2⟩ := ha
 simp only [Span.ok, Span.small] at h1 h2 hs
 unfold s_115 aft
 rw [wr_of (x := s.low - a.fall.high) (by omega), wr_of (x := s.high - a.fall.low) (by omega), wr_of (by omega), wr_of (by omega)]
end
section
variable {n : Nat} {d : Drum} {a : Acid}
theorem capL_small {l : List Span} {s : Span} (h : s.small) (hl : ∀ t ∈ l, t.small) : (capL s l).small := by
 induction l generalizing s with
 | nil => exact h
 | cons t l ih =>
  refine ih (s := cap s t) ?_ (fun u hu => hl u (List.mem_cons_of_mem _ hu))
  have := hl t List.mem_cons_self
  simp only [Span.small, cap] at *
  omega
theorem strip_small {s : Strip} {H : Int} (h : s.ok H) : s.span.small := by
 obtain ⟨h1, h2, h3⟩ := h
 simp only [Strip.span, Span.small]
 omega
theorem stripsAt_small (hd : d.ok) (h : Nat) : ∀ t ∈ stripsAt d.strips h, t.small := by
 intro t ht
 simp only [stripsAt, List.mem_map, List.mem_filter] at ht
 obtain ⟨s, ⟨hs, _⟩, rfl⟩ := ht
 exact strip_small (hd.st s hs)
theorem stripsAt_cons (x : Strip) (r : List Strip) (h : Nat) : stripsAt (x :: r) h = if x.hour = (h : Int) then x.span :: stripsAt r h else stripsAt r h := by
 unfold stripsAt
 rw [List.filter_cons]
 by_cases hx : x.hour = (h : Int)
 ·simp [hx]
 ·simp [hx]
theorem fw_small (hd : d.ok) (ha : a.ok) {h : Nat} (hh : h < 12) (hn : h = 0 ∨ (fw d.adds d.strips a (h - 1)).ne) : (fw d.adds d.strips a h).small := by
 have h1 := fw_low (st := d.strips) ha hd.ad
 have had := addAt_le hd.ad h
 cases h with
 | zero =>
  refine capL_small ?_ (stripsAt_small hd 0)
  obtain ⟨h1, h2⟩ := ha
  simp only [start, Span.small, Span.ok] at *
  omega
 | succ h =>
  refine capL_small ?_ (stripsAt_small hd (h + 1))
  have h2 := h1 h
  obtain ⟨h3, h4⟩ := ha
  simp only [aft, Span.small, Span.ok, Span.ne, Nat.add_sub_cancel] at *
  omega
def mix (d : Drum) (a : Acid) (H m : Nat) : List Span := (List.range H).map fun h => if h < m then fw d.adds d.strips a h else bd d.adds d.strips a H h
def bdL (d : Drum) (a : Acid) (H : Nat) : List Span := (List.range H).map (bd d.adds d.strips a H)
theorem mix_get {H m h : Nat} (hh : h < H) : (mix d a H m)[h]? = some (if h < m then fw d.adds d.strips a h else bd d.adds d.strips a H h) := by
 unfold mix
 rw [List.getElem?_map, List.getElem?_range hh]; rfl
theorem mix_step {H m : Nat} (hm : m < H) : (mix d a H (m + 1)).set m (bd d.adds d.strips a H m) = mix d a H m := by
 apply List.ext_getElem?
 intro i
 rw [List.getElem?_set]
 by_cases hi : i < H
 ·rw [mix_get (m := m) hi, mix_get (m := m + 1) hi]
  by_cases hmi : m = i
  ·subst hmi
   rw [if_pos rfl, if_pos (by unfold mix; simpa using hm), if_neg (by omega)]
  ·rw [if_neg hmi]
   by_cases h1 : i < m
   ·rw [if_pos h1, if_pos (by omega)]
   ·rw [if_neg h1, if_neg (by omega)]
 ·have e : ∀ q, (mix d a H q)[i]? = none := fun q => by unfold mix; simp; omega
  rw [if_neg (by omega), e, e]
theorem mix_zero {H : Nat} : mix d a H 0 = bdL d a H := by
 unfold mix bdL
 apply List.map_congr_left
 intro h _
 rw [if_neg (by omega)]
theorem bd_small (hd : d.ok) (ha : a.ok) {H h : Nat} (hH : H ≤ 12) (hp : Poss d.adds d.strips a H) (hh : h < H) : (bd d.adds d.strips a H h).small := by
 have h1 := fw_low (st := d.strips) ha hd.ad h
 have h2 := bd_ok ha hd.ad hp hh
 simp only [Span.small, Span.ne] at *
 omega
theorem add_at (hd : d.ok) {h : Nat} (hh : (h : Int) < d.hours) : ix d.adds (h : Int) = some (addAt d.adds h) := by
 have := hd.adl
 have hl : h < d.adds.length := by omega
 rw [ix_at (List.getElem?_eq_getElem hl), addAt, List.getD_eq_getElem?_getD, List.getElem?_eq_getElem hl]
 rfl
end
end Go.Proofs.YtohmhlkdgfcaeaaGreatDoor
namespace Go.Proofs.YtohmhlkdgfcaeaaGreatDoor
def Meet (w : List Span) : Prop := ∃ x : Int, 0 ≤ x ∧ x ≤ 12 ∧ ∀ s ∈ w, s.mem x
def comm (w : List Span) : Span := capL ⟨0, 12⟩ w
theorem meet_iff {w : List Span} : Meet w ↔ (comm w).ne := by
 constructor
 ·rintro ⟨x, h1, h2, h3⟩
  have := (mem_capL (s := ⟨0, 12⟩) (l := w) (x := x)).2 ⟨⟨h1, h2⟩, h3⟩
  simp only [Span.mem, Span.ne, comm] at *
  omega
 ·intro h
  have h1 := (mem_capL (s := ⟨0, 12⟩) (l := w) (x := (comm w).low)).1 (ne_mem h).1
  exact ⟨_, h1.1.1, h1.1.2, h1.2⟩
theorem mem_comm {w : List Span} {x : Int} : (comm w).mem x ↔ (0 ≤ x ∧ x ≤ 12) ∧ ∀ s ∈ w, s.mem x := mem_capL
instance (w : List Span) : Decidable (Meet w) := decidable_of_iff _ meet_iff.symm
theorem Meet.sub {w w' : List Span} (h : Meet w) (hs : ∀ s ∈ w', s ∈ w) : Meet w' := by
 obtain ⟨x, h1, h2, h3⟩ := h
 exact ⟨x, h1, h2, fun s hw => h3 s (hs s hw)⟩
theorem cap_comm (s a b : Span) : cap (cap s a) b = cap (cap s b) a := by
 simp only [cap, Span.mk.injEq]
 omega
end Go.Proofs.YtohmhlkdgfcaeaaGreatDoor
namespace Go.Proofs.YtohmhlkdgfcaeaaGreatDoor
open Go Go.RowKit
def Err {α : Type} (o : Option (Except Value α)) : Prop := ∃ v, isRule v = true ∧ o = some (.error v)
theorem p_188 (n : Nat) (h : Int) {x y : Span} (hc : (cap x y).ne) : s_188 n h x y = some (.ok (cap x y)) := by
 unfold s_188
 have e : decide ((min x.high y.high) < (max x.low y.low)) = false := decide_eq_false (by simp only [Span.ne, cap] at hc; omega)
 rw [e]; rfl
theorem p_188e (n : Nat) (h : Int) {x y : Span} (hc : ¬ (cap x y).ne) : s_188 n h x y = some (.error (.iface 175 (.agg #[.int .i64 h]))) := by
 unfold s_188
 have e : decide ((min x.high y.high) < (max x.low y.low)) = true := decide_eq_true (by simp only [Span.ne, cap] at hc; omega)
 rw [e]; rfl
theorem capL_cap (l : List Span) : ∀ (s t : Span), capL (cap s t) l = cap (capL s l) t := by
 induction l with
 | nil => intro s t; rfl
 | cons u r ih =>
  intro s t
  show capL (cap (cap s t) u) r = cap (capL (cap s u) r) t
  rw [cap_comm, ih]
def full : Span := ⟨0, 1300⟩
theorem cap_full {s : Span} (h : 0 ≤ s.low ∧ s.high ≤ 1300) : cap full s = s := by
 obtain ⟨h1, h2⟩ := h
 ext
 ·simp only [cap, full]; omega
 ·simp only [cap, full]; omega
theorem capL_full {l : List Span} {s : Span} (h : 0 ≤ s.low ∧ s.high ≤ 1300) : cap (capL full l) s = capL s l := by
 rw [← capL_cap, cap_full h]
theorem ne_left {x y : Span} (h : (cap x y).ne) : x.ne := by simp only [Span.ne, cap] at *; omega
theorem capL_ne {l : List Span} : ∀ {s : Span}, (capL s l).ne → s.ne := by
 induction l with
 | nil => intro s h; exact h
 | cons t r ih => intro s h; exact ne_left (ih (s := cap s t) h)
section
variable {n : Nat} {d : Drum} {a : Acid} {H : Nat}
def lst (H : Nat) (c : Nat → Span) : List Span := (List.range H).map c
theorem lst_get {c : Nat → Span} {h : Nat} (hh : h < H) : (lst H c)[h]? = some (c h) := by
 unfold lst; rw [List.getElem?_map, List.getElem?_range hh]; rfl
theorem lst_set {c : Nat → Span} {m : Nat} {s : Span} : (lst H c).set m s = lst H (fun h => if h = m then s else c h) := by
 apply List.ext_getElem?
 intro i
 rw [List.getElem?_set]
 by_cases hi : i < H
 ·rw [lst_get hi, lst_get hi]
  by_cases hm : m = i
  ·subst hm
   rw [if_pos rfl, if_pos (by unfold lst; simpa using hi), if_pos rfl]
  ·rw [if_neg hm, if_neg (fun e => hm e.symm)]
 ·have e : ∀ c : Nat → Span, (lst H c)[i]? = none := fun c => by unfold lst; simp; omega
  rw [e, e]
  split
  ·rw [if_neg (by unfold lst; simp; omega)]
  ·rfl
theorem lst_congr {c c' : Nat → Span} (h : ∀ i, i < H → c i = c' i) : lst H c = lst H c' := by
 unfold lst
 exact List.map_congr_left (fun i hi => h i (by simpa using hi))
theorem p_173_strips (hd : d.ok) (hn : 100 ≤ n) (hH : d.hours = (H : Int)) (i : Int) (fin : List Span → Option (Except Value Filled)) (hfin : ∀ s, (ix s 0).bind (fun v120 => (ix d.adds 0).bind fun v121 => (ix d.adds 0).bind fun v122 =>
   (s_188 n 0 v120 (Span.mk (wr (a.strength.low + v121)) (wr (a.strength.high + v122)))).bind fun v123 => Except.casesOn (motive := fun _ => Option (Except Value (Filled))) v123 (fun p => some (.error p)) (fun v124 => (ix s 0).bind fun v125 => s_173_l2 n d i a n 1 (sts s 0 v124))) = fin s) :
  ((∀ h, h < H → (capL full (stripsAt d.strips h)).ne) → s_173_l1 n d i a n 0 (lst H (fun _ => full)) = fin (lst H (fun h => capL full (stripsAt d.strips h)))) ∧
  (¬ (∀ h, h < H → (capL full (stripsAt d.strips h)).ne) → Err (s_173_l1 n d i a n 0 (lst H (fun _ => full)))) := by
 have hst := hd.stl
 have h1 := loop_list d.strips (s_173_l1 n d i a) (fun _ x s K => (ix s x.hour).bind fun v => (s_188 n x.hour v x.span).bind fun r => Except.casesOn (motive := fun _ => Option (Except Value (Filled))) r (fun p => some (.error p)) (fun v' => (ix s x.hour).bind fun _ => K (sts s x.hour v')))
  fin (fun k j s => by
   rw [s_173_l1, hfin]
   by_cases hj : j < d.strips.length
   ·have hok := hd.st _ (List.getElem_mem hj)
    simp only [ix_at (List.getElem?_eq_getElem hj), Option.bind_some]
    obtain ⟨q1, q2, q3⟩ := hok
    rw [wr_of (x := d.strips[j].seen - d.strips[j].off) (by omega), wr_of (x := d.strips[j].seen + d.strips[j].off) (by omega)]
    rfl
   ·have e1 : decide ((j : Int) < ((d.strips.length : Nat) : Int)) = false := decide_eq_false (by omega)
    rw [e1, cond_false, cond_false]) (by omega) n 0 (lst H (fun _ => full)) (by omega) (by omega)
 rw [List.drop_zero, show ((0 : Nat) : Int) = 0 from rfl] at h1
 rw [h1]
 clear h1
 have key : ∀ (l : List Strip) (j : Nat) (c : Nat → Span), (∀ s ∈ l, s.ok d.hours) → (∀ h, h < H → (c h).ne) →
   ((∀ h, h < H → (capL (c h) (stripsAt l h)).ne) → fc (fun _ x s K => (ix s x.hour).bind fun v => (s_188 n x.hour v x.span).bind fun r => Except.casesOn (motive := fun _ => Option (Except Value (Filled))) r (fun p => some (.error p)) (fun v' => (ix s x.hour).bind fun _ => K (sts s x.hour v'))) fin j l (lst H c) = fin (lst H (fun h => capL (c h) (stripsAt l h)))) ∧
   (¬ (∀ h, h < H → (capL (c h) (stripsAt l h)).ne) → Err (fc (fun _ x s K => (ix s x.hour).bind fun v => (s_188 n x.hour v x.span).bind fun r => Except.casesOn (motive := fun _ => Option (Except Value (Filled))) r (fun p => some (.error p)) (fun v' => (ix s x.hour).bind fun _ => K (sts s x.hour v'))) fin j l (lst H c))) := by
  intro l
  induction l with
  | nil =>
   intro j c _ hc
   exact ⟨fun _ => rfl, fun h => absurd hc h⟩
  | cons x r ih =>
   intro j c hok hc
   obtain ⟨⟨q1, q2⟩, _⟩ := hok x List.mem_cons_self
   obtain ⟨m, hm⟩ := Int.eq_ofNat_of_zero_le q1
   have hmH : m < H := by omega
   simp only [fc]
   rw [hm, ix_at (lst_get hmH)]
   simp only [Option.bind_some]
   have hcap : ∀ h, capL (c h) (stripsAt (x :: r) h) = capL (if h = m then cap (c m) x.span else c h) (stripsAt r h) := by
    intro h
    rw [stripsAt_cons, hm]
    by_cases hh : h = m
    ·subst hh
     rw [if_pos rfl, if_pos rfl]; rfl
    ·rw [if_neg (by omega), if_neg hh]
   by_cases hx : (cap (c m) x.span).ne
   ·rw [p_188 n m hx]
    simp only [Option.bind_some]
    have hset : sts (lst H c) (m : Int) (cap (c m) x.span) = lst H (fun h => if h = m then cap (c m) x.span else c h) := lst_set
    rw [hset]
    have := ih (j + 1) (fun h => if h = m then cap (c m) x.span else c h) (fun s hs => hok s (List.mem_cons_of_mem _ hs)) (fun h hh => by
     by_cases e : h = m
     ·simp only [e, if_true]; exact hx
     ·simp only [e, if_false]; exact hc h hh)
    simp only [hcap]
    exact this
   ·rw [p_188e n m hx]
    constructor
    ·intro hall
     refine absurd ?_ hx
     have := hall m hmH
     rw [hcap, if_pos rfl] at this
     exact capL_ne this
    ·intro _
     exact ⟨_, rfl, rfl⟩
 exact key d.strips 0 (fun _ => full) hd.st (fun h _ => by simp [Span.ne, full])
def mixS (d : Drum) (a : Acid) (m : Nat) : Nat → Span := fun h => if h < m then fw d.adds d.strips a h else capL full (stripsAt d.strips h)
theorem aft_full (hd : d.ok) (ha : a.ok) {h : Nat} (hh : h + 1 < 12) : 0 ≤ (aft a (addAt d.adds (h + 1)) (fw d.adds d.strips a h)).low ∧ (aft a (addAt d.adds (h + 1)) (fw d.adds d.strips a h)).high ≤ 1300 := by
 have h1 := fw_low (st := d.strips) ha hd.ad h
 have h2 := addAt_le hd.ad (h + 1)
 obtain ⟨h3, h4⟩ := ha
 simp only [aft, Span.ok] at *
 omega
theorem p_173_l3 (hd : d.ok) (ha : a.ok) (hH : d.hours = (H : Int)) (hp : Poss d.adds d.strips a H) (i : Int) : ∀ (m k : Nat), m < k → m ≤ H - 1 → s_173_l3 n d i a k (m : Int) (mix d a H m) = some (.ok ⟨d, i, bdL d a H⟩) := by
 have hhr := hd.hr
 intro m
 induction m with
 | zero =>
  intro k hk hm
  obtain ⟨k, rfl⟩ : ∃ k', k = k' + 1 := ⟨k - 1, by omega⟩
  rw [s_173_l3, decide_eq_false (by omega), cond_false, mix_zero]
 | succ m ih =>
  intro k hk hm
  obtain ⟨k, rfl⟩ : ∃ k', k = k' + 1 := ⟨k - 1, by omega⟩
  have g1 := ix_at (mix_get (d := d) (a := a) (H := H) (m := m + 1) (h := m) (by omega))
  have g2 := ix_at (mix_get (d := d) (a := a) (H := H) (m := m + 1) (h := m + 1) (by omega))
  rw [if_pos (by omega)] at g1
  rw [if_neg (by omega)] at g2
  have e1 : wr (((m + 1 : Nat) : Int) - 1) = (m : Int) := by rw [wr_of (by omega)]; omega
  have hb := bd_small hd ha (by omega) hp (show m + 1 < H by omega)
  have hadd := addAt_le hd.ad (m + 1)
  have hok := (bd_ok ha hd.ad hp (show m < H by omega)).1
  rw [bd_step (ad := d.adds) (st := d.strips) (a := a) (show m + 1 < H by omega)] at hok
  have hset : sts (mix d a H (m + 1)) (m : Int) (bd d.adds d.strips a H m) = mix d a H m := mix_step (by omega)
  have key : ∀ low, low = (bef a (addAt d.adds (m + 1)) (bd d.adds d.strips a H (m + 1))).low → s_173_j6 n (s_173_l3 n d i a k) a ((m + 1 : Nat) : Int) (mix d a H (m + 1)) (bd d.adds d.strips a H (m + 1)) (addAt d.adds (m + 1)) low = some (.ok ⟨d, i, bdL d a H⟩) := by
   intro low hl
   have hhi : wr (wr ((bd d.adds d.strips a H (m + 1)).high - addAt d.adds (m + 1)) + a.fall.high) = (bef a (addAt d.adds (m + 1)) (bd d.adds d.strips a H (m + 1))).high := by
    obtain ⟨h3, h4⟩ := ha
    simp only [Span.small, Span.ok] at hb h3 h4
    rw [wr_of (x := _ - _) (by omega), wr_of (by omega)]
    rfl
   unfold s_173_j6
   rw [hhi, hl, e1, g1]
   simp only [Option.bind_some]
   rw [p_188 n m hok]
   simp only [Option.bind_some]
   rw [← bd_step (ad := d.adds) (st := d.strips) (a := a) (show m + 1 < H by omega), hset]
   exact ih k (by omega) (by omega)
  rw [s_173_l3, decide_eq_true (by omega), cond_true, g2, Option.bind_some, add_at hd (h := m + 1) (by omega), Option.bind_some]
  obtain ⟨h3, h4⟩ := ha
  simp only [Span.small, Span.ok] at hb h3 h4
  by_cases hc : addAt d.adds (m + 1) < (bd d.adds d.strips a H (m + 1)).low
  ·rw [decide_eq_true hc, cond_true]
   refine key _ ?_
   rw [wr_of (x := _ - _) (by omega), wr_of (by omega)]
   simp only [bef]
   rw [if_pos hc]
  ·rw [decide_eq_false hc, cond_false]
   refine key _ ?_
   simp only [bef]
   rw [if_neg hc]
theorem p_173_l2 (hd : d.ok) (hn : 100 ≤ n) (ha : a.ok) (hH : d.hours = (H : Int)) (i : Int) : ∀ (r m k : Nat), m + 1 + r = H → r < k → (∀ h, h < m + 1 → (fw d.adds d.strips a h).ne) →
  (Poss d.adds d.strips a H → s_173_l2 n d i a k ((m + 1 : Nat) : Int) (lst H (mixS d a (m + 1))) = some (.ok ⟨d, i, bdL d a H⟩)) ∧ (¬ Poss d.adds d.strips a H → Err (s_173_l2 n d i a k ((m + 1 : Nat) : Int) (lst H (mixS d a (m + 1))))) := by
 have hhr := hd.hr
 intro r
 induction r with
 | zero =>
  intro m k hm hk hne
  obtain ⟨k, rfl⟩ : ∃ k', k = k' + 1 := ⟨k - 1, by omega⟩
  have hm' : H = m + 1 := by omega
  subst hm'
  refine ⟨fun hp => ?_, fun hp => absurd hne hp⟩
  rw [s_173_l2, decide_eq_false (by omega), cond_false, hH]
  have := p_173_l3 (n := n) hd ha hH hp i m n (by omega) (by omega)
  have e1 : wr (((m + 1 : Nat) : Int) - 1) = (m : Int) := by rw [wr_of (by omega)]; omega
  rw [e1]
  have e2 : lst (m + 1) (mixS d a (m + 1)) = mix d a (m + 1) m := by
   unfold mix lst
   apply List.map_congr_left
   intro h hh
   rw [List.mem_range] at hh
   unfold mixS
   rw [if_pos hh]
   by_cases h1 : h < m
   ·rw [if_pos h1]
   ·have : h = m := by omega
    subst this
    rw [if_neg h1]
    exact (bd_last (ad := d.adds) (st := d.strips) (a := a) (H := h + 1) (by omega)).symm
  rw [e2]
  exact this
 | succ r ih =>
  intro m k hm hk hne
  obtain ⟨k, rfl⟩ : ∃ k', k = k' + 1 := ⟨k - 1, by omega⟩
  have g0 : ix (lst H (mixS d a (m + 1))) (m : Int) = some (fw d.adds d.strips a m) := by
   rw [ix_at (lst_get (by omega))]; unfold mixS; rw [if_pos (by omega)]
  have g1 : ix (lst H (mixS d a (m + 1))) ((m + 1 : Nat) : Int) = some (capL full (stripsAt d.strips (m + 1))) := by
   rw [ix_at (lst_get (by omega))]; unfold mixS; rw [if_neg (by omega)]
  have e1 : wr (((m + 1 : Nat) : Int) - 1) = (m : Int) := by rw [wr_of (by omega)]; omega
  have hsm := fw_small hd ha (show m < 12 by omega) (by
    rcases Nat.eq_zero_or_pos m with h | h
    ·exact .inl h
    ·exact .inr (hne (m - 1) (by omega)))
  have hadd := addAt_le hd.ad (m + 1)
  have haft : Span.mk (wr ((max 0 (wr ((fw d.adds d.strips a m).low - a.fall.high))) + addAt d.adds (m + 1))) (wr ((max 0 (wr ((fw d.adds d.strips a m).high - a.fall.low))) + addAt d.adds (m + 1))) = aft a (addAt d.adds (m + 1)) (fw d.adds d.strips a m) :=
   Option.some.inj (p_115 (n := n) ha hadd hsm)
  have hfw : cap (capL full (stripsAt d.strips (m + 1))) (aft a (addAt d.adds (m + 1)) (fw d.adds d.strips a m)) = fw d.adds d.strips a (m + 1) := capL_full (aft_full hd ha (by omega))
  rw [s_173_l2, decide_eq_true (by omega), cond_true, e1, g0, Option.bind_some, add_at hd (h := m + 1) (by omega), Option.bind_some, g1, Option.bind_some, haft]
  by_cases hf : (fw d.adds d.strips a (m + 1)).ne
  ·rw [p_188 n _ (by rw [hfw]; exact hf), hfw]
   simp only [Option.bind_some]
   have hset : sts (lst H (mixS d a (m + 1))) ((m + 1 : Nat) : Int) (fw d.adds d.strips a (m + 1)) = lst H (mixS d a (m + 1 + 1)) := by
    refine (lst_set (m := m + 1)).trans (lst_congr (fun h _ => ?_))
    unfold mixS
    by_cases e : h = m + 1
    ·subst e; rw [if_pos rfl, if_pos (by omega)]
    ·rw [if_neg e]
     by_cases h1 : h < m + 1
     ·rw [if_pos h1, if_pos (by omega)]
     ·rw [if_neg h1, if_neg (by omega)]
   rw [hset, wr_of (by omega)]
   have := ih (m + 1) k (by omega) (by omega) (fun h hh => by
    by_cases e : h = m + 1
    ·subst e; exact hf
    ·exact hne h (by omega))
   exact_mod_cast this
  ·rw [p_188e n _ (by rw [hfw]; exact hf)]
   exact ⟨fun hp => absurd (hp (m + 1) (by omega)) hf, fun _ => ⟨_, rfl, rfl⟩⟩
theorem p_173 (hd : d.ok) (hn : 100 ≤ n) {i : Nat} (hi : d.acids[i]? = some a) :
  (Poss d.adds d.strips a d.hours.toNat → s_173 n d i = some (.ok ⟨d, i, bdL d a d.hours.toNat⟩)) ∧ (¬ Poss d.adds d.strips a d.hours.toNat → Err (s_173 n d i)) := by
 have hhr := hd.hr
 have ha := hd.ac a (List.mem_of_getElem? hi)
 obtain ⟨H, hH⟩ := Int.eq_ofNat_of_zero_le (show 0 ≤ d.hours by omega)
 have hH' : d.hours.toNat = H := by omega
 rw [hH']
 unfold s_173
 rw [ix_at hi, Option.bind_some]
 have e187 : s_187 n [Span.mk 0 1300] d.hours = some (lst H (fun _ => full)) := by
  unfold s_187
  rw [decide_eq_true hhr.1, decide_eq_true hhr.2]
  simp only [Bool.and_self, cond_true, hH']
  refine congrArg some ?_
  unfold lst full
  apply List.ext_getElem?
  intro j
  simp [List.getElem?_replicate, List.getElem?_range]
  by_cases hj : j < H <;> simp [hj]
 rw [e187, Option.bind_some]
 obtain ⟨k1, k2⟩ := p_173_strips (n := n) (a := a) hd hn hH i _ (fun s => rfl)
 have hst0 : 0 ≤ (start a (addAt d.adds 0)).low ∧ (start a (addAt d.adds 0)).high ≤ 1300 := by
  have := addAt_le hd.ad 0
  obtain ⟨h3, h4⟩ := ha
  simp only [start, Span.ok] at *
  omega
 have hsub : ∀ h, h < H → (fw d.adds d.strips a h).ne → (capL full (stripsAt d.strips h)).ne := by
  intro h hh hf
  cases h with
  | zero => exact ne_left (y := start a (addAt d.adds 0)) (by rw [capL_full hst0]; exact hf)
  | succ h => exact ne_left (y := aft a (addAt d.adds (h + 1)) (fw d.adds d.strips a h)) (by rw [capL_full (aft_full hd ha (by omega))]; exact hf)
 by_cases hall : ∀ h, h < H → (capL full (stripsAt d.strips h)).ne
 ·rw [k1 hall]
  have g0 : ix (lst H (fun h => capL full (stripsAt d.strips h))) 0 = some (capL full (stripsAt d.strips 0)) := ix_at (lst_get (c := fun h => capL full (stripsAt d.strips h)) (h := 0) (by omega))
  have ga : ix d.adds 0 = some (addAt d.adds 0) := add_at hd (h := 0) (by omega)
  have hs0 : Span.mk (wr (a.strength.low + addAt d.adds 0)) (wr (a.strength.high + addAt d.adds 0)) = start a (addAt d.adds 0) := by
   have := addAt_le hd.ad 0
   obtain ⟨h3, h4⟩ := ha
   simp only [Span.ok] at h3 h4
   rw [wr_of (by omega), wr_of (by omega)]; rfl
  have hfw : cap (capL full (stripsAt d.strips 0)) (start a (addAt d.adds 0)) = fw d.adds d.strips a 0 := capL_full hst0
  simp only [g0, ga, Option.bind_some, hs0]
  by_cases hf : (fw d.adds d.strips a 0).ne
  ·rw [p_188 n _ (by rw [hfw]; exact hf), hfw]
   simp only [Option.bind_some]
   have hset : sts (lst H (fun h => capL full (stripsAt d.strips h))) 0 (fw d.adds d.strips a 0) = lst H (mixS d a (0 + 1)) := by
    refine (lst_set (m := 0)).trans (lst_congr (fun h _ => ?_))
    unfold mixS
    by_cases e : h = 0
    ·subst e; rw [if_pos rfl, if_pos (by omega)]
    ·rw [if_neg e, if_neg (by omega)]
   rw [hset]
   exact p_173_l2 (n := n) hd hn ha hH i (H - 1) 0 n (by omega) (by omega) (fun h hh => by
    have : h = 0 := by omega
    subst this; exact hf)
  ·rw [p_188e n _ (by rw [hfw]; exact hf)]
   exact ⟨fun hp => absurd (hp 0 (by omega)) hf, fun _ => ⟨_, rfl, rfl⟩⟩
 ·exact ⟨fun hp => absurd (fun h hh => hsub h hh (hp h hh)) hall, fun _ => k2 hall⟩
end
end Go.Proofs.YtohmhlkdgfcaeaaGreatDoor
namespace Go.Proofs.YtohmhlkdgfcaeaaGreatDoor
open Go Go.RowKit
def acidAt (d : Drum) (i : Nat) : Acid := d.acids.getD i default
def hrs (d : Drum) : Nat := d.hours.toNat
def PossI (d : Drum) (i : Nat) : Bool := hasB d.known i && decide (Poss d.adds d.strips (acidAt d i) (hrs d))
def bdI (d : Drum) (i : Nat) : List Span := bdL d (acidAt d i) (hrs d)
def idx (d : Drum) : List Nat := (List.range d.acids.length).filter (PossI d)
section
variable {n : Nat} {d : Drum}
theorem acidAt_get {i : Nat} (hi : i < d.acids.length) : d.acids[i]? = some (acidAt d i) := by
 unfold acidAt
 rw [List.getD_eq_getElem?_getD, List.getElem?_eq_getElem hi]; rfl
theorem acidAt_ok (hd : d.ok) {i : Nat} (hi : i < d.acids.length) : (acidAt d i).ok := hd.ac _ (List.mem_of_getElem? (acidAt_get hi))
theorem hrs_eq (hd : d.ok) : d.hours = (hrs d : Int) := by have := hd.hr; unfold hrs; omega
theorem hrs_le (hd : d.ok) : 1 ≤ hrs d ∧ hrs d ≤ 12 := by have := hd.hr; unfold hrs; omega
theorem q_173 (hd : d.ok) (hn : 100 ≤ n) {i : Nat} (hi : i < d.acids.length) : (Poss d.adds d.strips (acidAt d i) (hrs d) → s_173 n d i = some (.ok ⟨d, i, bdI d i⟩)) ∧ (¬ Poss d.adds d.strips (acidAt d i) (hrs d) → Err (s_173 n d i)) :=
 p_173 hd hn (acidAt_get hi)
theorem app_of {α : Type} {l l2 : List α} (h : l.length + l2.length ≤ 1000000) : app l l2 = some (l ++ l2) := by
 unfold app; rw [decide_eq_true h]; rfl
def err (d : Drum) (fine : Bool) : Int := bif !okD d || !fine then 2 else bif (idx d).isEmpty then 7 else 0
def filL (d : Drum) : List Filled := (idx d).map fun (i : Nat) => ⟨d, (i : Int), bdI d i⟩
theorem p_171 (hd : d.ok) (hn : 100 ≤ n) : s_171 n d n 0 [] = some (filL d) := by
 have hl := hd.acl
 have hkn := hd.kn
 have hpw := (pow_bound (i := d.acids.length) (by omega)).2
 have hpw4 : (2 : Int) ^ d.acids.length ≤ 16 := by
  have : (2 : Nat) ^ d.acids.length ≤ 2 ^ 4 := Nat.pow_le_pow_right (by omega) hl.2
  exact_mod_cast this
 have h1 := loop_nat ((d.acids.length : Nat) : Int) (s_171 n d) (fun i s K => (s_145 n d.known i).bind fun b => bif !b then K s else (s_173 n d i).bind fun r => match r with
     | .error v => bif isRule v then K s else none
     | .ok f => (app s [f]).bind fun l' => K l') (fun s => some s) (fun k i s => by rw [s_171]; rfl) (by omega) d.acids.length n 0 [] (by omega) (by omega) (by omega)
 rw [h1]
 have key : ∀ (r i : Nat) (s : List Filled), i + r = d.acids.length → s.length ≤ i → fn ((d.acids.length : Nat) : Int) (fun i s K => (s_145 n d.known i).bind fun b => bif !b then K s else (s_173 n d i).bind fun r => match r with
     | .error v => bif isRule v then K s else none
     | .ok f => (app s [f]).bind fun l' => K l') (fun s => some s) r (i : Int) s = some (s ++ ((List.range' i r).filter (PossI d)).map fun (i : Nat) => (⟨d, (i : Int), bdI d i⟩ : Filled)) := by
  intro r
  induction r with
  | zero => intro i s _ _; simp [fn]
  | succ r ih =>
   intro i s hi hs
   have hc : ((i : Int) + 1) = ((i + 1 : Nat) : Int) := by push_cast; rfl
   simp only [fn]
   rw [p_145 (by omega) (by omega) (by omega), Option.bind_some, List.range'_succ, List.filter_cons, hc]
   cases hp : hasB d.known i with
   | false =>
    have : PossI d i = false := by unfold PossI; rw [hp]; rfl
    rw [this]
    simp only [Bool.not_false, cond_true]
    rw [ih (i + 1) s (by omega) (by omega)]; rfl
   | true =>
    simp only [Bool.not_true, cond_false]
    obtain ⟨k1, k2⟩ := q_173 (n := n) hd hn (show i < d.acids.length by omega)
    by_cases hpo : Poss d.adds d.strips (acidAt d i) (hrs d)
    ·have : PossI d i = true := by unfold PossI; rw [hp, decide_eq_true hpo]; rfl
     rw [this, k1 hpo]
     simp only [Option.bind_some, if_true]
     rw [app_of (by simp; omega), Option.bind_some, ih (i + 1) _ (by omega) (by simp; omega)]
     simp
    ·have : PossI d i = false := by unfold PossI; rw [hp, decide_eq_false hpo]; rfl
     obtain ⟨v, hv, he⟩ := k2 hpo
     rw [this, he]
     simp only [Option.bind_some, hv, cond_true]
     rw [ih (i + 1) s (by omega) (by omega)]; rfl
 have := key d.acids.length 0 [] (by omega) (by simp)
 rw [← List.range_eq_range'] at this
 exact this
theorem p_84 (hn : 100 ≤ n) (hs : Short d) (fine : Bool) : s_84 n d fine = some (bif decide (err d fine = 0) then filL d else [], err d fine) := by
 unfold s_84 err
 rw [p_104 hn hs, Option.bind_some]
 cases hok : okD d with
 | false => rfl
 | true =>
  cases fine
  ·rfl
  ·simp only [Bool.not_true, Bool.or_self, cond_false]
   rw [p_171 (okD_iff.1 hok) hn, Option.bind_some]
   have : (filL d).isEmpty = (idx d).isEmpty := by unfold filL; cases idx d <;> rfl
   rw [this]
   cases (idx d).isEmpty <;> rfl
end
end Go.Proofs.YtohmhlkdgfcaeaaGreatDoor
namespace Go.Proofs.YtohmhlkdgfcaeaaGreatDoor
open Go Go.RowKit
def bdAt (d : Drum) (i h : Nat) : Span := bd d.adds d.strips (acidAt d i) (hrs d) h
section
variable {n : Nat} {d : Drum}
theorem bdI_lst (i : Nat) : bdI d i = lst (hrs d) (bdAt d i) := rfl
theorem bdI_get {i h : Nat} (hh : h < hrs d) : ix (bdI d i) (h : Int) = some (bdAt d i h) := ix_at (by rw [bdI_lst]; exact lst_get hh)
theorem p_85 {i h : Nat} (hh : h < hrs d) : s_85 n ⟨d, (i : Int), bdI d i⟩ (h : Int) = some (bdAt d i h).low := by unfold s_85; rw [bdI_get hh]; rfl
theorem p_86 {i h : Nat} (hh : h < hrs d) : s_86 n ⟨d, (i : Int), bdI d i⟩ (h : Int) = some (bdAt d i h).high := by unfold s_86; rw [bdI_get hh]; rfl
theorem idx_len (hd : d.ok) : (idx d).length ≤ 4 := by
 have := hd.acl
 have h1 := List.length_filter_le (PossI d) (List.range d.acids.length)
 unfold idx
 rw [List.length_range] at h1
 omega
theorem idx_mem {i : Nat} (h : i ∈ idx d) : i < d.acids.length ∧ PossI d i = true := by
 unfold idx at h
 rw [List.mem_filter, List.mem_range] at h
 exact h
end
end Go.Proofs.YtohmhlkdgfcaeaaGreatDoor
namespace Go.Proofs.YtohmhlkdgfcaeaaGreatDoor
open Go Go.RowKit
def firstH (p : Nat → Bool) : Nat → Nat → Int
 | 0, _ => -1
 | r + 1, m => bif p m then (m : Int) else firstH p r (m + 1)
end Go.Proofs.YtohmhlkdgfcaeaaGreatDoor
namespace Go.Proofs.YtohmhlkdgfcaeaaGreatDoor
open Go Go.RowKit
def qt (p x : Int) : Int := (x * p).tdiv 100
def cut (p : Int) (g : Nat → Int) : Nat → Int
 | 0 => 0
 | t + 1 => cut p g t + qt p (g t)
def stateAt (b : Batch) (g : Nat → Int) (t : Nat) : State := ⟨max 0 (b.rough - cut b.polish g t), max 0 (b.thick - cut b.eat g t)⟩
theorem qt_le {p x : Int} (hp : 0 ≤ p ∧ p ≤ 100) (hx : 0 ≤ x ∧ x ≤ 5000) : 0 ≤ qt p x ∧ qt p x ≤ 5000 := by
 unfold qt
 have h1 : 0 ≤ x * p := Int.mul_nonneg hx.1 hp.1
 have h2 : x * p ≤ x * 100 := Int.mul_le_mul_of_nonneg_left hp.2 hx.1
 rw [Int.tdiv_eq_ediv_of_nonneg h1]
 omega
theorem p_quo {p x : Int} (hp : 0 ≤ p ∧ p ≤ 100) (hx : 0 ≤ x ∧ x ≤ 5000) : quo .i64 (wr (x * p)) 100 = some (qt p x) := by
 have h1 : 0 ≤ x * p := Int.mul_nonneg hx.1 hp.1
 have h2 : x * p ≤ x * 100 := Int.mul_le_mul_of_nonneg_left hp.2 hx.1
 have h3 := qt_le hp hx
 rw [wr_of (by omega)]
 unfold quo
 rw [show decide ((100 : Int) = 0) = false from rfl, cond_false]
 exact congrArg some (wr_of (by unfold qt at h3; omega))
theorem cut_le {p : Int} {g : Nat → Int} (hp : 0 ≤ p ∧ p ≤ 100) : ∀ (t : Nat), (∀ h, h < t → 0 ≤ g h ∧ g h ≤ 5000) → 0 ≤ cut p g t ∧ cut p g t ≤ 5000 * t := by
 intro t
 induction t with
 | zero => intro _; simp [cut]
 | succ t ih =>
  intro h
  have h1 := ih (fun i hi => h i (by omega))
  have h2 := qt_le hp (h t (by omega))
  rw [cut]
  push_cast
  omega
def lstI (m : Nat) (c : Nat → Int) : List Int := (List.range m).map c
theorem lstI_succ (m : Nat) (c : Nat → Int) : lstI (m + 1) c = lstI m c ++ [c m] := by unfold lstI; rw [List.range_succ, List.map_append]; rfl
theorem lstI_length (m : Nat) (c : Nat → Int) : (lstI m c).length = m := by simp [lstI]
theorem lstI_get {m h : Nat} {c : Nat → Int} (hh : h < m) : (lstI m c)[h]? = some (c h) := by unfold lstI; rw [List.getElem?_map, List.getElem?_range hh]; rfl
section
variable {n : Nat} {d : Drum} {b : Batch} {g : Nat → Int} {t : Nat}
theorem p_166 {p : Int} (hp : 0 ≤ p ∧ p ≤ 100) (hn : 100 ≤ n) (ht : t ≤ 50) (hg : ∀ h, h < t → 0 ≤ g h ∧ g h ≤ 5000) : s_166 n (lstI t (fun h => qt p (g h))) = some (cut p g t) := by
 have key : ∀ (r m k : Nat), m + r = t → r < k → s_166_l1 (lstI t (fun h => qt p (g h))) k (cut p g m) (m : Int) = some (cut p g t) := by
  intro r
  induction r with
  | zero =>
   intro m k hm hk
   obtain ⟨k, rfl⟩ : ∃ k', k = k' + 1 := ⟨k - 1, by omega⟩
   have : m = t := by omega
   subst this
   rw [s_166_l1, decide_eq_false (by rw [lstI_length]; omega), cond_false]
  | succ r ih =>
   intro m k hm hk
   obtain ⟨k, rfl⟩ : ∃ k', k = k' + 1 := ⟨k - 1, by omega⟩
   have h1 := cut_le hp m (fun h hh => hg h (by omega))
   have h2 := qt_le hp (hg m (by omega))
   rw [s_166_l1, decide_eq_true (by rw [lstI_length]; omega), cond_true, ix_at (lstI_get (by omega)), Option.bind_some, wr_of (x := cut p g m + qt p (g m)) (by omega), wr_of (by omega)]
   exact_mod_cast ih (m + 1) k (by omega) (by omega)
 exact key t 0 n (by omega) (by omega)
theorem p_118 (hb : b.ok) (hn : 100 ≤ n) (ht : t ≤ 50) {f : Int → Option Int} (hf : ∀ h, h < t → f (h : Int) = some (g h)) (hg : ∀ h, h < t → 0 ≤ g h ∧ g h ≤ 5000) : s_118 n b (t : Int) f = some (stateAt b g t) := by
 obtain ⟨h1, h2, h3, h4, h5, h6⟩ := hb
 have key : ∀ (r m k : Nat), m + r = t → r < k → s_118_l1 n f b (t : Int) k (m : Int) (lstI m (fun h => qt b.polish (g h))) (lstI m (fun h => qt b.eat (g h))) = some (stateAt b g t) := by
  intro r
  induction r with
  | zero =>
   intro m k hm hk
   obtain ⟨k, rfl⟩ : ∃ k', k = k' + 1 := ⟨k - 1, by omega⟩
   have : m = t := by omega
   subst this
   have c1 := cut_le h5 m hg
   have c2 := cut_le h6 m hg
   rw [s_118_l1, decide_eq_false (by omega), cond_false, p_166 h5 hn ht hg, Option.bind_some, p_166 h6 hn ht hg, Option.bind_some, wr_of (by omega), wr_of (by omega)]
   rfl
  | succ r ih =>
   intro m k hm hk
   obtain ⟨k, rfl⟩ : ∃ k', k = k' + 1 := ⟨k - 1, by omega⟩
   rw [s_118_l1, decide_eq_true (by omega), cond_true, hf m (by omega), Option.bind_some, p_quo h5 (hg m (by omega)), Option.bind_some, app_of (by rw [lstI_length]; simp; omega), Option.bind_some,
    p_quo h6 (hg m (by omega)), Option.bind_some, app_of (by rw [lstI_length]; simp; omega), Option.bind_some, wr_of (by omega)]
   have := ih (m + 1) k (by omega) (by omega)
   rw [lstI_succ, lstI_succ] at this
   exact_mod_cast this
 exact key t 0 n (by omega) (by omega)
def loS (d : Drum) (b : Batch) (i t : Nat) : State := stateAt b (fun h => (bdAt d i h).low) t
def hiS (d : Drum) (b : Batch) (i t : Nat) : State := stateAt b (fun h => (bdAt d i h).high) t
def bOf (d : Drum) (b : Batch) (t i : Nat) : Bounds := ⟨⟨(hiS d b i t).rough, (loS d b i t).rough⟩, ⟨(hiS d b i t).thick, (loS d b i t).thick⟩⟩
def updB (x y : Bounds) : Bounds := ⟨⟨min x.rough.low y.rough.low, max x.rough.high y.rough.high⟩, ⟨min x.thick.low y.thick.low, max x.thick.high y.thick.high⟩⟩
def bnds (d : Drum) (b : Batch) (t : Nat) : Bounds := (idx d).foldl (fun s i => updB s (bOf d b t i)) (bOf d b t ((idx d).headD 0))
theorem updB_self (x : Bounds) : updB x x = x := by
 unfold updB
 ext <;> simp only <;> omega
theorem bdAt_pos (hd : d.ok) {i h : Nat} (hi : i ∈ idx d) (hh : h < hrs d) : 0 ≤ (bdAt d i h).low ∧ (bdAt d i h).low ≤ (bdAt d i h).high ∧ (bdAt d i h).high ≤ 1300 := by
 obtain ⟨m1, m2⟩ := idx_mem hi
 have hhr := hrs_le hd
 unfold PossI at m2
 simp only [Bool.and_eq_true, decide_eq_true_eq] at m2
 have h1 := fw_low (st := d.strips) (acidAt_ok hd m1) hd.ad h
 have h2 := bd_ok (acidAt_ok hd m1) hd.ad m2.2 hh
 simp only [Span.ne] at h2
 unfold bdAt
 omega
theorem p_118lo (hd : d.ok) (hn : 100 ≤ n) (hb : b.ok) {i : Nat} (hi : i ∈ idx d) (ht : t ≤ hrs d) : s_118 n b (t : Int) (fun z => s_85 n ⟨d, (i : Int), bdI d i⟩ z) = some (loS d b i t) := by
 have hhr := hrs_le hd
 exact p_118 hb hn (by omega) (fun h hh => p_85 (by omega)) (fun h hh => by have := bdAt_pos hd hi (show h < hrs d by omega); omega)
theorem p_118hi (hd : d.ok) (hn : 100 ≤ n) (hb : b.ok) {i : Nat} (hi : i ∈ idx d) (ht : t ≤ hrs d) : s_118 n b (t : Int) (fun z => s_86 n ⟨d, (i : Int), bdI d i⟩ z) = some (hiS d b i t) := by
 have hhr := hrs_le hd
 exact p_118 hb hn (by omega) (fun h hh => p_86 (by omega)) (fun h hh => by have := bdAt_pos hd hi (show h < hrs d by omega); omega)
theorem p_120 (hd : d.ok) (hn : 100 ≤ n) (hb : b.ok) (hne : idx d ≠ []) (ht : t ≤ hrs d) : s_120 n (filL d) b (t : Int) = some (bnds d b t) := by
 have hil := idx_len hd
 obtain ⟨i0, r0, hi0⟩ : ∃ i r, idx d = i :: r := by
  cases h : idx d with
  | nil => exact absurd h hne
  | cons i r => exact ⟨i, r, rfl⟩
 have hfl : (filL d).length = (idx d).length := by simp [filL]
 have rest : ∀ (r : List Nat) (p k : Nat) (x : Bounds), (idx d).drop p = r → 0 < p → p ≤ (idx d).length → (idx d).length < k + p → s_120_l1 n (filL d) b (t : Int) k (p : Int) x = some (r.foldl (fun s i => updB s (bOf d b t i)) x) := by
  intro r
  induction r with
  | nil =>
   intro p k x hr hp hp2 hk
   have hpl : (idx d).length ≤ p := List.drop_eq_nil_iff.1 hr
   obtain ⟨k, rfl⟩ : ∃ k', k = k' + 1 := ⟨k - 1, by omega⟩
   rw [s_120_l1, decide_eq_false (by omega), cond_false]
   rfl
  | cons j r ih =>
   intro p k x hr hp hp2 hk
   have hpl : p < (idx d).length := by
    rcases Nat.lt_or_ge p (idx d).length with h | h
    ·exact h
    ·rw [List.drop_eq_nil_of_le h] at hr; cases hr
   obtain ⟨k, rfl⟩ : ∃ k', k = k' + 1 := ⟨k - 1, by omega⟩
   rw [List.drop_eq_getElem_cons hpl] at hr
   obtain ⟨hj, hr2⟩ := List.cons.inj hr
   have hjm : j ∈ idx d := by rw [← hj]; exact List.getElem_mem hpl
   have gx : ix (filL d) (p : Int) = some ⟨d, (j : Int), bdI d j⟩ := ix_at (by unfold filL; rw [List.getElem?_map, List.getElem?_eq_getElem hpl, hj]; rfl)
   rw [s_120_l1, decide_eq_true (by omega), cond_true, gx, Option.bind_some, p_118lo hd hn hb hjm ht, Option.bind_some, p_118hi hd hn hb hjm ht, Option.bind_some, decide_eq_false (by omega), cond_false, wr_of (by omega)]
   exact_mod_cast ih (p + 1) k _ hr2 (by omega) (by omega) (by omega)
 obtain ⟨n', hn'⟩ : ∃ n', n = n' + 1 := ⟨n - 1, by omega⟩
 have him : i0 ∈ idx d := by rw [hi0]; exact List.mem_cons_self
 have g0 : ix (filL d) 0 = some ⟨d, (i0 : Int), bdI d i0⟩ := ix_at (i := 0) (by unfold filL; rw [hi0]; rfl)
 have h0 : s_120_l1 n (filL d) b (t : Int) (n' + 1) 0 (Bounds.mk (Span.mk 0 0) (Span.mk 0 0)) = s_120_l1 n (filL d) b (t : Int) n' 1 (bOf d b t i0) := by
  rw [s_120_l1, decide_eq_true (by rw [hfl, hi0]; simp), cond_true, g0, Option.bind_some, p_118lo hd hn hb him ht, Option.bind_some, p_118hi hd hn hb him ht, Option.bind_some]
  rfl
 unfold s_120
 rw [show s_120_l1 n (filL d) b (t : Int) n 0 (Bounds.mk (Span.mk 0 0) (Span.mk 0 0)) = s_120_l1 n (filL d) b (t : Int) (n' + 1) 0 (Bounds.mk (Span.mk 0 0) (Span.mk 0 0)) by rw [hn'], h0]
 have h1 := rest r0 1 n' (bOf d b t i0) (by rw [hi0]; rfl) (by omega) (by rw [hi0]; simp) (by omega)
 rw [show ((1 : Nat) : Int) = 1 from rfl] at h1
 rw [h1]
 unfold bnds
 rw [hi0]
 simp only [List.headD_cons, List.foldl_cons, updB_self]
end
end Go.Proofs.YtohmhlkdgfcaeaaGreatDoor
namespace Go.Proofs.YtohmhlkdgfcaeaaGreatDoor
open Go Go.RowKit
def lastH (p : Nat → Bool) : Nat → Int
 | 0 => -1
 | m + 1 => bif p m then (m : Int) else lastH p m
def smP (d : Drum) (b : Batch) (t : Nat) : Bool := decide ((bnds d b t).rough.high ≤ b.goal)
def thP (d : Drum) (b : Batch) (t : Nat) : Bool := decide (b.least ≤ (bnds d b t).thick.low)
section
variable {n : Nat} {d : Drum} {b : Batch}
theorem fil_head (hne : idx d ≠ []) : ∃ i0 : Nat, ix (filL d) 0 = some ⟨d, (i0 : Int), bdI d i0⟩ := by
 obtain ⟨i0, r0, hi0⟩ : ∃ i r, idx d = i :: r := by
  cases h : idx d with
  | nil => exact absurd h hne
  | cons i r => exact ⟨i, r, rfl⟩
 exact ⟨i0, ix_at (i := 0) (by unfold filL; rw [hi0]; rfl)⟩
theorem p_92 (hd : d.ok) (hn : 100 ≤ n) (hb : b.ok) (hne : idx d ≠ []) : s_92 n (filL d) b = some (firstH (smP d b) (hrs d + 1) 0) := by
 have hhr := hrs_le hd
 have hH := hrs_eq hd
 obtain ⟨i0, g0⟩ := fil_head hne
 have key : ∀ (r m k : Nat), m + r = hrs d + 1 → r < k → s_92_l1 n (filL d) b ⟨d, (i0 : Int), bdI d i0⟩ k (m : Int) = some (firstH (smP d b) r m) := by
  intro r
  induction r with
  | zero =>
   intro m k hm hk
   obtain ⟨k, rfl⟩ : ∃ k', k = k' + 1 := ⟨k - 1, by omega⟩
   rw [s_92_l1, wr_of (x := d.hours + 1) (by omega), decide_eq_false (by omega), cond_false]
   rfl
  | succ r ih =>
   intro m k hm hk
   obtain ⟨k, rfl⟩ : ∃ k', k = k' + 1 := ⟨k - 1, by omega⟩
   rw [s_92_l1, wr_of (x := d.hours + 1) (by omega), decide_eq_true (by omega), cond_true, p_120 hd hn hb hne (by omega), Option.bind_some, wr_of (by omega), firstH]
   have := ih (m + 1) k (by omega) (by omega)
   push_cast at this
   rw [this]
   show (bif smP d b m then _ else _) = _
   cases smP d b m <;> rfl
 unfold s_92
 rw [g0, Option.bind_some]
 exact key (hrs d + 1) 0 n (by omega) (by omega)
theorem p_93 (hd : d.ok) (hn : 100 ≤ n) (hb : b.ok) (hne : idx d ≠ []) : s_93 n (filL d) b = some (lastH (thP d b) (hrs d + 1)) := by
 have hhr := hrs_le hd
 have hH := hrs_eq hd
 obtain ⟨i0, g0⟩ := fil_head hne
 have key : ∀ (m k : Nat), m ≤ hrs d + 1 → m < k → s_93_l1 n (filL d) b k ((m : Int) - 1) = some (lastH (thP d b) m) := by
  intro m
  induction m with
  | zero =>
   intro k hm hk
   obtain ⟨k, rfl⟩ : ∃ k', k = k' + 1 := ⟨k - 1, by omega⟩
   rw [s_93_l1, decide_eq_false (by omega), cond_false]
   rfl
  | succ m ih =>
   intro k hm hk
   obtain ⟨k, rfl⟩ : ∃ k', k = k' + 1 := ⟨k - 1, by omega⟩
   have e0 : (((m + 1 : Nat) : Int) - 1) = (m : Int) := by omega
   rw [s_93_l1, e0, decide_eq_true (by omega), cond_true, p_120 hd hn hb hne (by omega), Option.bind_some, wr_of (by omega), lastH, ih k (by omega) (by omega)]
   show (bif thP d b m then _ else _) = _
   cases thP d b m <;> rfl
 unfold s_93
 rw [g0, Option.bind_some]
 have := key (hrs d + 1) n (by omega) (by omega)
 rw [show (((hrs d + 1 : Nat) : Int) - 1) = d.hours by omega] at this
 exact this
theorem err_zero {fine : Bool} (he : err d fine = 0) : okD d = true ∧ fine = true ∧ idx d ≠ [] := by
 unfold err at he
 cases h : okD d <;> cases h2 : fine <;> rw [h, h2] at he <;> simp at he
 refine ⟨rfl, rfl, fun h3 => ?_⟩
 rw [h3] at he
 simp at he
end
end Go.Proofs.YtohmhlkdgfcaeaaGreatDoor
namespace Go.Proofs.YtohmhlkdgfcaeaaGreatDoor
open Go Go.RowKit
theorem loop_app {α β γ : Type} (l : List α) (f : Nat → α → Option β) (g : α → β) (hf : ∀ i x, l[i]? = some x → f i x = some (g x)) (L : Nat → Int → List β → Option γ) (fin : List β → Option γ)
  (h : ∀ (k i : Nat) (s : List β), L (k + 1) (i : Int) s = bif decide ((i : Int) < ((l.length : Nat) : Int)) then (ix l (i : Int)).bind (fun x => (f i x).bind fun y => (app s [y]).bind fun s' => L k (wr ((i : Int) + 1)) s') else fin s)
  (hl : l.length ≤ 1000) {n : Nat} (hn : l.length < n) : L n 0 [] = fin (l.map g) := by
 have h1 := loop_list l L (fun i x s K => (f i x).bind fun y => (app s [y]).bind fun s' => K s') fin h (by omega) n 0 [] (by omega) (by omega)
 rw [show ((0 : Nat) : Int) = 0 from rfl] at h1
 rw [h1]
 have key : ∀ (r : List α) (i : Nat) (s : List β), l.drop i = r → s.length ≤ i → fc (fun i x s K => (f i x).bind fun y => (app s [y]).bind fun s' => K s') fin i r s = fin (s ++ r.map g) := by
  intro r
  induction r with
  | nil => intro i s _ _; simp [fc]
  | cons x r ih =>
   intro i s hi hs
   have hil : i < l.length := by
    rcases Nat.lt_or_ge i l.length with h | h
    ·exact h
    ·rw [List.drop_eq_nil_of_le h] at hi; cases hi
   rw [List.drop_eq_getElem_cons hil] at hi
   obtain ⟨hx, hr⟩ := List.cons.inj hi
   rw [fc, hf i x (by rw [List.getElem?_eq_getElem hil, hx]), Option.bind_some, app_of (by simp; omega), Option.bind_some, ih (i + 1) _ hr (by simp; omega)]
   simp
 rw [List.drop_zero]
 simpa using key l 0 [] (by simp) (by simp)
end Go.Proofs.YtohmhlkdgfcaeaaGreatDoor
namespace Go.Proofs.YtohmhlkdgfcaeaaGreatDoor
open Go Go.RowKit
section
variable {n : Nat} {d : Drum} {tr : Truth}
theorem qt_mono {p x y : Int} (hp : 0 ≤ p) (hx : 0 ≤ x) (h : x ≤ y) : qt p x ≤ qt p y := by
 unfold qt
 have h1 : 0 ≤ x * p := Int.mul_nonneg hx hp
 have h2 : x * p ≤ y * p := Int.mul_le_mul_of_nonneg_right h hp
 rw [Int.tdiv_eq_ediv_of_nonneg h1, Int.tdiv_eq_ediv_of_nonneg (by omega)]
 omega
theorem cut_mono {p : Int} {g g' : Nat → Int} (hp : 0 ≤ p) : ∀ (t : Nat), (∀ h, h < t → 0 ≤ g h ∧ g h ≤ g' h) → cut p g t ≤ cut p g' t := by
 intro t
 induction t with
 | zero => intro _; simp [cut]
 | succ t ih =>
  intro h
  have h1 := ih (fun i hi => h i (by omega))
  have h2 := qt_mono hp (h t (by omega)).1 (h t (by omega)).2
  simp only [cut]
  omega
theorem state_mono {b : Batch} (hb : b.ok) {g g' : Nat → Int} {t : Nat} (h : ∀ i, i < t → 0 ≤ g i ∧ g i ≤ g' i) : (stateAt b g' t).rough ≤ (stateAt b g t).rough ∧ (stateAt b g' t).thick ≤ (stateAt b g t).thick := by
 obtain ⟨_, _, _, _, h5, h6⟩ := hb
 have h1 := cut_mono h5.1 t h
 have h2 := cut_mono h6.1 t h
 simp only [stateAt]
 omega
theorem state_step {b : Batch} (hb : b.ok) {g : Nat → Int} {t : Nat} (h : 0 ≤ g t ∧ g t ≤ 5000) : (stateAt b g (t + 1)).rough ≤ (stateAt b g t).rough ∧ (stateAt b g (t + 1)).thick ≤ (stateAt b g t).thick := by
 obtain ⟨_, _, _, _, h5, h6⟩ := hb
 have h1 := qt_le h5 h
 have h2 := qt_le h6 h
 simp only [stateAt, cut]
 omega
theorem err_of_ok (hok : okD d = true) : err d true = 0 ∨ err d true = 7 := by
 unfold err
 rw [hok]
 cases (idx d).isEmpty
 ·exact .inl rfl
 ·exact .inr rfl
end
end Go.Proofs.YtohmhlkdgfcaeaaGreatDoor
namespace Go.Proofs.YtohmhlkdgfcaeaaGreatDoor
open Go Go.RowKit
theorem firstH_spec (p : Nat → Bool) : ∀ (r m : Nat), 0 ≤ firstH p r m → p (firstH p r m).toNat = true ∧ m ≤ (firstH p r m).toNat ∧ (firstH p r m).toNat < m + r := by
 intro r
 induction r with
 | zero => intro m h; simp [firstH] at h
 | succ r ih =>
  intro m h
  rcases Bool.eq_false_or_eq_true (p m) with hp | hp
  ·have e : firstH p (r + 1) m = (m : Int) := by rw [firstH, hp, cond_true]
   rw [e]
   exact ⟨by simpa using hp, by simp, by simp⟩
  ·have e : firstH p (r + 1) m = firstH p r (m + 1) := by rw [firstH, hp, cond_false]
   rw [e] at h ⊢
   obtain ⟨q1, q2, q3⟩ := ih (m + 1) h
   exact ⟨q1, by omega, by omega⟩
theorem stripsAt_append (l m : List Strip) (h : Nat) : stripsAt (l ++ m) h = stripsAt l h ++ stripsAt m h := by
 unfold stripsAt; rw [List.filter_append, List.map_append]
theorem Tru.less {ad : List Int} {st m : List Strip} {a : Acid} {H : Nat} {f : Nat → Int} (h : Tru ad (st ++ m) a H f) : Tru ad st a H f := fun i hi => ⟨(h i hi).1, fun s hs => (h i hi).2 s (by rw [stripsAt_append]; exact List.mem_append_left _ hs)⟩
end Go.Proofs.YtohmhlkdgfcaeaaGreatDoor
namespace Go.Proofs.YtohmhlkdgfcaeaaGreatDoor
open Go Go.RowKit
theorem firstH_none (p : Nat → Bool) : ∀ (r m : Nat), firstH p r m < 0 → ∀ i, m ≤ i → i < m + r → p i = false := by
 intro r
 induction r with
 | zero => intro m _ i h1 h2; omega
 | succ r ih =>
  intro m h i h1 h2
  rcases Bool.eq_false_or_eq_true (p m) with hp | hp
  ·rw [firstH, hp, cond_true] at h; omega
  ·rw [firstH, hp, cond_false] at h
   by_cases e : i = m
   ·subst e; exact hp
   ·exact ih (m + 1) h i (by omega) (by omega)
theorem firstH_before (p : Nat → Bool) : ∀ (r m : Nat), 0 ≤ firstH p r m → ∀ i, m ≤ i → (i : Int) < firstH p r m → p i = false := by
 intro r
 induction r with
 | zero => intro m h; simp [firstH] at h
 | succ r ih =>
  intro m h i h1 h2
  rcases Bool.eq_false_or_eq_true (p m) with hp | hp
  ·rw [firstH, hp, cond_true] at h2; omega
  ·rw [firstH, hp, cond_false] at h h2
   by_cases e : i = m
   ·subst e; exact hp
   ·exact ih (m + 1) h i (by omega) h2
theorem lastH_none (p : Nat → Bool) : ∀ (m : Nat), lastH p m < 0 → ∀ i, i < m → p i = false := by
 intro m
 induction m with
 | zero => intro _ i h; omega
 | succ m ih =>
  intro h i hi
  rcases Bool.eq_false_or_eq_true (p m) with hp | hp
  ·rw [lastH, hp, cond_true] at h; omega
  ·rw [lastH, hp, cond_false] at h
   by_cases e : i = m
   ·subst e; exact hp
   ·exact ih h i (by omega)
theorem lastH_spec (p : Nat → Bool) : ∀ (m : Nat), 0 ≤ lastH p m → p (lastH p m).toNat = true ∧ (lastH p m).toNat < m ∧ ∀ i : Nat, lastH p m < (i : Int) → i < m → p i = false := by
 intro m
 induction m with
 | zero => intro h; simp [lastH] at h
 | succ m ih =>
  intro h
  rcases Bool.eq_false_or_eq_true (p m) with hp | hp
  ·have e : lastH p (m + 1) = (m : Int) := by rw [lastH, hp, cond_true]
   rw [e]
   exact ⟨by simpa using hp, by simp, fun i h1 h2 => by omega⟩
  ·have e : lastH p (m + 1) = lastH p m := by rw [lastH, hp, cond_false]
   rw [e] at h ⊢
   obtain ⟨q1, q2, q3⟩ := ih h
   refine ⟨q1, by omega, fun i h1 h2 => ?_⟩
   by_cases e : i = m
   ·subst e; exact hp
   ·exact q3 i h1 (by omega)
section
variable {n : Nat} {d : Drum} {tr : Truth} {b : Batch}
def leB (x y : Bounds) : Prop := (x.rough.low ≤ y.rough.low ∧ x.rough.high ≤ y.rough.high) ∧ x.thick.low ≤ y.thick.low ∧ x.thick.high ≤ y.thick.high
theorem leB_upd {x y x' y' : Bounds} (h : leB x y) (h' : leB x' y') : leB (updB x x') (updB y y') := by
 unfold leB updB at *
 simp only
 omega
theorem leB_fold {t t' : Nat} : ∀ (l : List Nat) (x y : Bounds), leB x y → (∀ i ∈ l, leB (bOf d b t' i) (bOf d b t i)) → leB (l.foldl (fun s i => updB s (bOf d b t' i)) x) (l.foldl (fun s i => updB s (bOf d b t i)) y) := by
 intro l
 induction l with
 | nil => intro x y h _; exact h
 | cons j r ih =>
  intro x y h hl
  rw [List.foldl_cons, List.foldl_cons]
  exact ih _ _ (leB_upd h (hl j List.mem_cons_self)) (fun i hi => hl i (List.mem_cons_of_mem _ hi))
theorem bOf_step (hd : d.ok) (hb : b.ok) {i t : Nat} (hi : i ∈ idx d) (ht : t < hrs d) : leB (bOf d b (t + 1) i) (bOf d b t i) := by
 have h1 := bdAt_pos hd hi ht
 have h2 := state_step hb (g := fun h => (bdAt d i h).low) (t := t) (by omega)
 have h3 := state_step hb (g := fun h => (bdAt d i h).high) (t := t) (by omega)
 unfold leB bOf loS hiS
 simp only
 omega
theorem bnds_step (hd : d.ok) (hb : b.ok) (hne : idx d ≠ []) {t : Nat} (ht : t < hrs d) : leB (bnds d b (t + 1)) (bnds d b t) := by
 unfold bnds
 obtain ⟨i0, r0, hi0⟩ : ∃ i r, idx d = i :: r := by
  cases h : idx d with
  | nil => exact absurd h hne
  | cons i r => exact ⟨i, r, rfl⟩
 refine leB_fold _ _ _ ?_ (fun i hi => bOf_step hd hb hi ht)
 rw [hi0]
 exact bOf_step hd hb (by rw [hi0]; exact List.mem_cons_self) ht
theorem bnds_mono (hd : d.ok) (hb : b.ok) (hne : idx d ≠ []) {t : Nat} : ∀ (k : Nat), t + k ≤ hrs d → leB (bnds d b (t + k)) (bnds d b t) := by
 intro k
 induction k with
 | zero => intro _; unfold leB; simp
 | succ k ih =>
  intro h
  have h1 := ih (by omega)
  have h2 := bnds_step hd hb hne (t := t + k) (by omega)
  unfold leB at *
  rw [show t + (k + 1) = t + k + 1 by omega]
  omega
end
end Go.Proofs.YtohmhlkdgfcaeaaGreatDoor
namespace Go.Proofs.YtohmhlkdgfcaeaaGreatDoor
open Go Go.RowKit
def winP (d : Drum) (b : Batch) : Span := bif decide (firstH (smP d b) (hrs d + 1) 0 < 0) then ⟨1, 0⟩ else ⟨firstH (smP d b) (hrs d + 1) 0, lastH (thP d b) (hrs d + 1)⟩
def wsP (d : Drum) : List Span := d.batches.map (winP d)
section
variable {n : Nat} {d : Drum}
theorem p_98 (hd : d.ok) (hn : 100 ≤ n) (hne : idx d ≠ []) : s_98 n d (filL d) = some ⟨wsP d⟩ := by
 have hbt := hd.btl
 unfold s_98
 refine loop_app d.batches (fun _ b => (s_92 n (filL d) b).bind fun v124 => (s_93 n (filL d) b).bind fun v125 => bif decide (v124 < 0) then s_144 n else some (Span.mk v124 v125)) (winP d) (fun i b hb => ?_) (s_98_l1 n d (filL d)) (fun s => some (Windows.mk s)) (fun k i s => ?_) (by omega) (by omega)
 ·have hb' := hd.bt b (List.mem_of_getElem? hb)
  rw [p_92 hd hn hb' hne, Option.bind_some, p_93 hd hn hb' hne, Option.bind_some]
  unfold winP s_144
  cases decide (firstH (smP d b) (hrs d + 1) 0 < 0) <;> rfl
 ·rw [s_98_l1]
  by_cases hi : i < d.batches.length
  ·have hb' := hd.bt _ (List.getElem_mem hi)
   rw [ix_at (List.getElem?_eq_getElem hi), Option.bind_some, Option.bind_some, p_92 hd hn hb' hne, Option.bind_some, Option.bind_some, p_93 hd hn hb' hne, Option.bind_some, Option.bind_some]
   unfold s_144 s_98_j5
   cases decide (firstH (smP d d.batches[i]) (hrs d + 1) 0 < 0) <;> rfl
  ·have e1 : decide ((i : Int) < ((d.batches.length : Nat) : Int)) = false := decide_eq_false (by omega)
   rw [e1, cond_false, cond_false]
theorem p_100 (n : Nat) (w : List Span) (hw : w.length ≤ 6) : s_100 n ⟨w⟩ = some (2 ^ w.length - 1) := by
 have hpv := pow_bound (i := w.length) hw
 unfold s_100
 have hshl : shl .i64 1 ((List.length w : Nat) : Int) = some (2 ^ w.length) := by
  unfold shl
  rw [show decide ((0 : Int) ≤ ((List.length w : Nat) : Int)) = true from decide_eq_true (by omega), cond_true]
  have hm : min ((List.length w : Nat) : Int).toNat IntKind.i64.bits = w.length := by
   show min w.length 64 = w.length
   omega
  rw [hm, Int.one_mul]
  exact congrArg some (wr_of (by omega))
 rw [hshl, Option.bind_some, wr_of (by omega)]
theorem hasB_full : ∀ m, m < 6 → ∀ i, i < m → hasB (2 ^ m - 1) i = true := by decide
end
end Go.Proofs.YtohmhlkdgfcaeaaGreatDoor
namespace Go.Proofs.YtohmhlkdgfcaeaaGreatDoor
open Go Go.RowKit
def pickF (set : Int) : Nat → List Span → List Span
 | _, [] => []
 | i, s :: r => if hasB set i = true then s :: pickF set (i + 1) r else pickF set (i + 1) r
def com (w : List Span) (set : Int) : Span := capL ⟨0, 12⟩ (pickF set 0 w)
theorem and_one6 : ∀ x : Nat, x < 64 → bits .and .i64 (x : Int) 1 = (x : Int) % 2 := by decide
section
variable {n : Nat} {d : Drum} {b : Batch}
theorem p_145w {set : Int} {i : Nat} (hi : i ≤ 6) (h0 : 0 ≤ set) (h1 : set ≤ 63) : s_145 n set i = some (hasB set i) := by
 unfold s_145
 have hp := pow_bound hi
 have e1 : shr .i64 set (i : Int) = some (set / 2 ^ i) := by
  unfold shr
  rw [show decide ((0 : Int) ≤ (i : Int)) = true from decide_eq_true (by omega), cond_true]
  have hm : min ((i : Nat) : Int).toNat IntKind.i64.bits = i := by
   show min i 64 = i
   omega
  rw [hm, Int.fdiv_eq_ediv_of_nonneg _ (by omega)]
 rw [e1, Option.bind_some, hasB]
 have h3 : 0 ≤ set / 2 ^ i := Int.ediv_nonneg h0 (by omega)
 have h4 : set / 2 ^ i ≤ set := Int.ediv_le_self _ h0
 obtain ⟨x, hx⟩ := Int.eq_ofNat_of_zero_le h3
 rw [hx, and_one6 x (by omega)]
theorem common_pick (set : Int) : ∀ (w : List Span) (i : Nat) (o : Span), commonFrom (w.map spanP) set i (o.low, o.high) = spanP (capL o (pickF set i w)) := by
 intro w
 induction w with
 | nil => intro i o; rfl
 | cons s r ih =>
  intro i o
  have e : setHas set i = hasB set i := by
   unfold setHas hasB
   rw [Bool.eq_iff_iff]
   simp
  rw [List.map_cons, commonFrom, e, pickF]
  by_cases h : hasB set i = true
  ·rw [if_pos h, if_pos h]
   exact ih (i + 1) (cap o s)
  ·rw [if_neg h, if_neg h]
   exact ih (i + 1) o
theorem p_102 (hn : 100 ≤ n) (w : List Span) (hw : w.length ≤ 6) {set : Int} (h0 : 0 ≤ set) (h1 : set ≤ 63) : s_102 n ⟨w⟩ set = some (com w set) := by
 have e : s_102m n ⟨w⟩ set = some (com w set) := by
  unfold s_102m
  have h1 := loop_list w (s_102m_l1 n ⟨w⟩ set) (fun i x s K => bif hasB set i then K (cap s x) else K s) (fun s => some s) (fun k i s => by
   rw [s_102m_l1]
   by_cases hi : i < w.length
   ·rw [ix_at (List.getElem?_eq_getElem hi), Option.bind_some, Option.bind_some, p_145w (by omega) h0 h1, Option.bind_some]
    rfl
   ·have e1 : decide ((i : Int) < ((w.length : Nat) : Int)) = false := decide_eq_false (by omega)
    simp only [e1, cond_false]) (by omega) n 0 ⟨0, 12⟩ (by omega) (by omega)
  rw [show ((0 : Nat) : Int) = 0 from rfl, List.drop_zero] at h1
  rw [h1]
  have key : ∀ (l : List Span) (i : Nat) (s : Span), fc (fun i x s K => bif hasB set i then K (cap s x) else K s) (fun s => some s) i l s = some (capL s (pickF set i l)) := by
   intro l
   induction l with
   | nil => intro i s; rfl
   | cons x r ih =>
    intro i s
    rw [fc, pickF]
    by_cases h : hasB set i = true
    ·rw [h, cond_true, if_pos rfl, ih]; rfl
    ·have h' : hasB set i = false := by simpa using h
     rw [h', cond_false, if_neg (by simp), ih]
  exact key w 0 _
 unfold s_102
 rw [e, Option.bind_some]
 have hc := common_pick set w 0 ⟨0, 12⟩
 have hcm : commonOf (w.map spanP) set = spanP (com w set) := hc
 simp only [hcm, decide_true, cond_true]
theorem p_99 (hn : 100 ≤ n) (w : List Span) (hw : w.length ≤ 6) {set : Int} (h0 : 0 ≤ set) (h1 : set ≤ 63) : s_99 n ⟨w⟩ set = some (decide (com w set).ne) := by
 unfold s_99
 rw [p_102 hn w hw h0 h1]
 rfl
theorem pickF_full : ∀ (w : List Span) (m i : Nat), m < 6 → i + w.length = m → pickF (2 ^ m - 1) i w = w := by
 intro w
 induction w with
 | nil => intro m i _ _; rfl
 | cons s r ih =>
  intro m i hm hi
  simp only [List.length_cons] at hi
  rw [pickF, if_pos (hasB_full m hm i (by omega)), ih m (i + 1) hm (by omega)]
theorem com_full (w : List Span) (hw : w.length < 6) : com w (2 ^ w.length - 1) = comm w := by
 unfold com comm
 rw [pickF_full w w.length 0 hw (by omega)]
theorem smP_mono (hd : d.ok) (hb : b.ok) (hne : idx d ≠ []) {t t' : Nat} (h : t ≤ t') (ht : t' ≤ hrs d) (hs : smP d b t = true) : smP d b t' = true := by
 have hm := bnds_mono hd hb hne (t := t) (t' - t) (by omega)
 rw [show t + (t' - t) = t' by omega] at hm
 unfold smP at *
 unfold leB at hm
 rw [decide_eq_true_eq] at *
 omega
theorem thP_anti (hd : d.ok) (hb : b.ok) (hne : idx d ≠ []) {t t' : Nat} (h : t ≤ t') (ht : t' ≤ hrs d) (hs : thP d b t' = true) : thP d b t = true := by
 have hm := bnds_mono hd hb hne (t := t) (t' - t) (by omega)
 rw [show t + (t' - t) = t' by omega] at hm
 unfold thP at *
 unfold leB at hm
 rw [decide_eq_true_eq] at *
 omega
theorem win_mem (hd : d.ok) (hb : b.ok) (hne : idx d ≠ []) {t : Nat} (ht : t ≤ hrs d) : (winP d b).mem (t : Int) ↔ smP d b t = true ∧ thP d b t = true := by
 unfold winP
 have hsm : 0 ≤ firstH (smP d b) (hrs d + 1) 0 → (firstH (smP d b) (hrs d + 1) 0 ≤ (t : Int) ↔ smP d b t = true) := by
  intro h
  obtain ⟨q1, q2, q3⟩ := firstH_spec (smP d b) (hrs d + 1) 0 h
  have q4 := firstH_before (smP d b) (hrs d + 1) 0 h
  constructor
  ·intro h5
   exact smP_mono hd hb hne (t := (firstH (smP d b) (hrs d + 1) 0).toNat) (by omega) ht q1
  ·intro h5
   rcases Int.lt_or_le (t : Int) (firstH (smP d b) (hrs d + 1) 0) with h6 | h6
   ·rw [q4 t (by omega) h6] at h5; cases h5
   ·exact h6
 have hth : (t : Int) ≤ lastH (thP d b) (hrs d + 1) ↔ thP d b t = true := by
  rcases Int.lt_or_le (lastH (thP d b) (hrs d + 1)) 0 with h | h
  ·have := lastH_none _ _ h t (by omega)
   constructor
   ·intro h5; omega
   ·intro h5; rw [this] at h5; cases h5
  ·obtain ⟨q1, q2, q3⟩ := lastH_spec _ _ h
   constructor
   ·intro h5
    exact thP_anti hd hb hne (t' := (lastH (thP d b) (hrs d + 1)).toNat) (by omega) (by omega) q1
   ·intro h5
    rcases Int.lt_or_le (lastH (thP d b) (hrs d + 1)) (t : Int) with h6 | h6
    ·rw [q3 t h6 (by omega)] at h5; cases h5
    ·exact h6
 by_cases h : firstH (smP d b) (hrs d + 1) 0 < 0
 ·rw [decide_eq_true h, cond_true]
  have := firstH_none _ _ _ h t (by omega) (by omega)
  rw [this]
  simp only [Span.mem]
  constructor
  ·intro h5; omega
  ·intro h5; cases h5.1
 ·rw [decide_eq_false h, cond_false]
  have h2 := hsm (by omega)
  simp only [Span.mem]
  rw [h2, hth]
theorem comm_mem (hd : d.ok) (hne : idx d ≠ []) {t : Nat} (ht : t ≤ hrs d) : (comm (wsP d)).mem (t : Int) ↔ ∀ b ∈ d.batches, smP d b t = true ∧ thP d b t = true := by
 have hhr := hrs_le hd
 rw [mem_comm]
 unfold wsP
 constructor
 ·rintro ⟨_, h⟩ b hb
  exact (win_mem hd (hd.bt b hb) hne ht).1 (h _ (List.mem_map_of_mem hb))
 ·intro h
  refine ⟨by omega, fun s hs => ?_⟩
  obtain ⟨b, hb, rfl⟩ := List.mem_map.1 hs
  exact (win_mem hd (hd.bt b hb) hne ht).2 (h b hb)
theorem wsP_len : (wsP d).length = d.batches.length := by simp [wsP]
theorem p_46 (hn : 100 ≤ n) (hs : Short d) : s_46 n d = some (bif decide (err d true = 0) then (bif decide (comm (wsP d)).ne then (comm (wsP d), 0) else (⟨0, 0⟩, 5)) else (⟨0, 0⟩, err d true)) := by
 unfold s_46
 rw [p_84 hn hs, Option.bind_some]
 by_cases he : err d true = 0
 ·obtain ⟨h1, _, hne⟩ := err_zero he
  have hd := okD_iff.1 h1
  have hbt := hd.btl
  have hl : (wsP d).length ≤ 6 := by rw [wsP_len]; omega
  have hpv := pow_bound (i := (wsP d).length) hl
  simp only [he, decide_true, Bool.not_true, cond_false, cond_true]
  rw [p_98 hd hn hne, Option.bind_some, p_100 n _ hl, Option.bind_some, p_99 hn _ hl (by omega) (by omega), Option.bind_some, Option.bind_some, p_102 hn _ hl (by omega) (by omega), Option.bind_some, com_full _ (by rw [wsP_len]; omega)]
  cases decide (comm (wsP d)).ne <;> rfl
 ·simp only [decide_eq_false he, Bool.not_false, cond_true, cond_false]
end
end Go.Proofs.YtohmhlkdgfcaeaaGreatDoor
namespace Go.Proofs.YtohmhlkdgfcaeaaGreatDoor
open Go Go.RowKit
section
variable {n : Nat} {d : Drum} {tr : Truth}
theorem mem_ne {s : Span} {x : Int} (h : s.mem x) : s.ne := by unfold Span.mem Span.ne at *; omega
end
end Go.Proofs.YtohmhlkdgfcaeaaGreatDoor
namespace Go.Proofs.YtohmhlkdgfcaeaaGreatDoor
open Go Go.RowKit
set_option maxRecDepth 4000
attribute [local irreducible] W Ops GS GSG
def s_14_j2 (n : Nat) (v107 : (Span × Int)) (v112 : (Span × Int)) (v113 : Bool) : Option (Bool) := bif v113 then ( some (false) ) else ( bif (!decide (v107.2 = 0)) then ( (s_24 n ).bind fun v114 => some (v114) ) else ( bif (decide (v112.2 = 7)) then ( (s_24 n ).bind fun v115 => some (v115) ) else ( bif (decide (v112.2 = 0)) then ( bif (decide (v112.1.low ≤ v107.1.low)) then (
 bif (decide (v107.1.high ≤ v112.1.high)) then ( (s_24 n ).bind fun v116 => some (v116) ) else ( some (false) ) ) else ( some (false) ) ) else ( some (false) ) ) ) )
def s_14_j1 (n : Nat) (v0 : Drum) (v1 : Strip) (v2 : Int) (v103 : Bool) : Option (Bool) := bif v103 then ( (s_24 n ).bind fun v104 => some (v104) ) else ( (app ([] : List Strip) v0.strips).bind fun v105 => (app v105 ([v1])).bind fun v106 => (s_46 n v0).bind fun v107 => (s_39 n (Drum.mk v0.acids (bits .and .i64 v0.known v2) v0.hours v0.adds v106 v0.batches)).bind fun v108 => bif (!v108) then (
 bif (decide (v107.2 = 0)) then ( (s_24 n ).bind fun v109 => some (v109) ) else ( bif (decide (v107.2 = 7)) then ( (s_24 n ).bind fun v110 => some (v110) ) else ( bif (decide (v107.2 = 5)) then ( (s_24 n ).bind fun v111 => some (v111) ) else ( some (false) ) ) ) ) else ( (s_46 n (Drum.mk v0.acids (bits .and .i64 v0.known v2) v0.hours v0.adds v106 v0.batches)).bind fun v112 =>
 bif (!decide (v112.2 = 0)) then ( bif (!decide (v112.2 = 5)) then ( bif (!decide (v112.2 = 7)) then ( s_14_j2 n v107 v112 true ) else ( bif (decide (v107.2 = 7)) then ( s_14_j2 n v107 v112 (!decide (v112.2 = 7)) ) else ( s_14_j2 n v107 v112 false ) ) ) else ( bif (decide (v107.2 = 7)) then ( s_14_j2 n v107 v112 (!decide (v112.2 = 7)) ) else ( s_14_j2 n v107 v112 false ) ) ) else (
 bif (decide (v107.2 = 7)) then ( s_14_j2 n v107 v112 (!decide (v112.2 = 7)) ) else ( s_14_j2 n v107 v112 false ) ) ) )
def s_14 (n : Nat) (v0 : Drum) (v1 : Strip) (v2 : Int) : Option (Bool) := (s_23 n v0).bind fun v101 => bif (!v101) then ( s_14_j1 n v0 v1 v2 true ) else ( (s_39 n v0).bind fun v102 => bif (!v102) then ( s_14_j1 n v0 v1 v2 true ) else ( bif (decide (v2 < 0)) then ( s_14_j1 n v0 v1 v2 true ) else ( s_14_j1 n v0 v1 v2 (decide (15 < v2)) ) ) )
theorem c_14 (n : Nat) (v0 : Drum) (v1 : Strip) (v2 : Int) {r : (Bool)} (h : s_14 n v0 v1 v2 = some r) :
  Fun Tryz.prog 14 [.agg (cDrum v0), .agg (cStrip v1), .val (.int .i64 v2)] (.ret (.b r)) := by
 unfold s_14 at h
 refine enterW 113 Tryz.func14 q q q ?_
 intro w0 F0
 change W _ _ (Ev [(0, .pv (.agg (cDrum v0))), (1, .pv (.agg (cStrip v1))), (2, .pv (.i v2))]) _
 refine W.seq<|W.region<|ob (g_box q q q q q) q q<|ob (g_box q q q q q) q q<|va q q q q q<|on0<|Sq.n<|W.seq<|W.seqJ (σ := Bool) (fun s => (⟨[(2, .pv (.i v2)), (3, .box 3 0), (4, .box 4 0), (27, .pv (.b s))], [(3, 27, [.pv (.sl (List.map cAcid v0.acids)), .pv (.i v0.known), .pv (.i v0.hours), .pv (.sl (List.map eI v0.adds)), .pv (.sl (List.map cStrip v0.strips)), .pv (.sl (List.map cBatch v0.batches))]), (4, 92, [.pv (.i v1.hour), .pv (.i v1.seen), .pv (.i v1.off)])], []⟩ : Env)) (fun s => s_14_j1 n v0 v1 v2 s = some r) ?_ ?_
 ·refine W.region<|ov (g_loadA q q q q q ag_27 sz_27 q q) q ?_
  obtain ⟨v101, e101, h⟩ := bind_some h
  refine ov (g_call q q q ca_23 q (c_23 _ _ e101)) q<|ov (g_not q q q q) q<|vm q q q q q<|Ops.split 15 q (fun hb => ?_) (fun hb => ?_)
  ·have h := bif_t h hb
   refine o2 q q q q q q<|o2 q q q q q q<|o2 q q q q q q<|vt q q q q q q<|vm q q q q q<|o2 q q q q q q<|o2 q q q q q q<|vt q q q q q q<|vm q q q q q<|o2 q q q q q q<|o2 q q q q q q<|vt q q q q q q<|on0<|Sq.n<|⟨true, h, has_mk ⟨q, q, q, q, trivial⟩ ⟨q, q, trivial⟩ trivial q⟩
  ·have h := bif_f h hb
   refine on q q q<|ov (g_loadA q q q q q ag_27 sz_27 q q) q<|on q q q ?_
   obtain ⟨v102, e102, h⟩ := bind_some h
   refine ov (g_call q q q ca_39 q (c_39 _ _ e102)) q<|on q q q<|ov (g_not q q q q) q<|vf q q q q q q<|vm q q q q q<|Ops.split 20 q (fun hb => ?_) (fun hb => ?_)
   ·have h := bif_t h hb
    refine o2 q q q q q q<|o2 q q q q q q<|vt q q q q q q<|vm q q q q q<|o2 q q q q q q<|o2 q q q q q q<|vt q q q q q q<|on0<|Sq.n<|⟨true, h, has_mk ⟨q, q, q, q, trivial⟩ ⟨q, q, trivial⟩ trivial q⟩
   ·have h := bif_f h hb
    refine on q q q<|vm q q q q q<|on q q q<|ov (g_lss q q q q q) q<|vf q q q q q q<|vm q q q q q<|Ops.split 24 q (fun hb => ?_) (fun hb => ?_)
    ·have h := bif_t h hb
     refine o2 q q q q q q<|o2 q q q q q q<|vt q q q q q q<|on0<|Sq.n<|⟨true, h, has_mk ⟨q, q, q, q, trivial⟩ ⟨q, q, trivial⟩ trivial q⟩
    ·have h := bif_f h hb
     refine on q q q<|vm q q q q q<|on q q q<|ov (g_gtr q q q q q) q<|vf q q q q q q<|on0<|Sq.n<|⟨(decide (15 < v2)), h, has_mk ⟨q, q, q, q, trivial⟩ ⟨q, q, trivial⟩ trivial q⟩
 ·rintro v103 h
  change s_14_j1 n v0 v1 v2 v103 = some r at h
  unfold s_14_j1 at h
  change W _ _ (⟨[(2, .pv (.i v2)), (3, .box 3 0), (4, .box 4 0), (27, .pv (.b v103))], [(3, 27, [.pv (.sl (List.map cAcid v0.acids)), .pv (.i v0.known), .pv (.i v0.hours), .pv (.sl (List.map eI v0.adds)), .pv (.sl (List.map cStrip v0.strips)), .pv (.sl (List.map cBatch v0.batches))]), (4, 92, [.pv (.i v1.hour), .pv (.i v1.seen), .pv (.i v1.off)])], []⟩ : Env) _
  refine W.cond (b := v103) q (fun hc => ?_) (fun hc => ?_)
  ·have h := bif_t h hc
   refine W.seq<|W.region ?_
   obtain ⟨v104, e104, h⟩ := bind_some h
   refine ov (g_call q q q ca_24 q (c_24 _  e104)) q<|va q q q q q<|on0<|Sq.n<|W.ret<|Sq.r ?_
   obtain rfl := Option.some.inj h
   exact Fin.r q (.cons (.tmp _ _ q) .nil) q
  ·have h := bif_f h hc
   refine W.skip<|Sq.n<|W.seq<|W.region<|ov (g_loadA q q q q q ag_27 sz_27 q q) q<|ob (g_alloc q q q zr_27) q q<|Ops.step q (s_storeB q q q q q q sz_27 q q)<|on0<|Sq.n<|W.seq ?_
   obtain ⟨v105, e105, h⟩ := bind_some h
   refine W.draw (m := 5) Checked.mixed (Pre.v (GSG.of q (g_fld q q q q fl_27_4)) ((Pre.v (GSG.of q (g_load1 q q q q q q ag_24)) ((Pre.r (GSG.of q (g_appendNS (enc := cStrip) e105 q q q q q ex_24 (fun _ => q) (fun _ => q))) q ((Pre.v (GSG.of q (g_loadA q q q q q ag_92 sz_92 q q)) ((Pre.r (GSG.of q (g_buildSlice (cs := [.val (.int .i64 v1.hour), .val (.int .i64 v1.seen), .val (.int .i64 v1.off)]) (es := List.map cStrip [v1]) q q q el_24 ⟨_, zr_92⟩ q q q q q q)) q (Pre.nil _)))))))))) (by kernel_rfl) ?_
   obtain ⟨v106, e106, h⟩ := bind_some h
   refine Ops.step q (s_appendR (enc := cStrip) e106 q q q q q q q q ex_24 (fun _ => q))<|ov (g_fld q q q q fl_27_4) q<|Ops.step q (s_storeB q q q q q q sz_24 q q)<|on0<|Sq.n<|W.seq<|W.region<|ov (g_fld q q q q fl_27_1) q<|ov (g_load1 q q q q q q ag_3) q<|vm q q q q q<|ov (g_and q q q q q) q<|ov (g_fld q q q q fl_27_1) q<|Ops.step q (s_storeB q q q q q q sz_3 q q)<|on0<|Sq.n<|W.seq<|W.region<|ov (g_loadA q q q q q ag_27 sz_27 q q) q ?_
   obtain ⟨v107, e107, h⟩ := bind_some h
   refine ov (g_call q q q ca_46 q (c_46 _ _ e107)) q<|vm q q q q q<|ov (g_extract q q q q q) q<|ov (g_extract q q q q q) q<|ob (g_alloc q q q zr_57) q q<|Ops.step q (s_storeB q q q q q q sz_57 q q)<|va q q q q q<|on0<|Sq.n<|W.seq<|W.seq<|W.region<|Ops.share (k := 32) q<|ov (g_loadA q q q q q ag_27 sz_27 q q) q ?_
   obtain ⟨v108, e108, h⟩ := bind_some h
   refine ov (g_call q q q ca_39 q (c_39 _ _ e108)) q<|ov (g_not q q q q) q<|on0<|Sq.n<|W.cond (b := (!v108)) q (fun hc => ?_) (fun hc => ?_)
   ·have h := bif_t h hc
    refine W.seq<|W.region<|vm q q q q q<|ov (g_eql q q q q q) q<|vm q q q q q<|Ops.split 52 q (fun hb => ?_) (fun hb => ?_)
    ·have h := bif_t h hb
     refine o2 q q q q q q<|o2 q q q q q q<|vt q q q q q q<|vm q q q q q<|o2 q q q q q q<|o2 q q q q q q<|vt q q q q q q<|vm q q q q q<|on q q q ?_
     obtain ⟨v109, e109, h⟩ := bind_some h
     refine ov (g_call q q q ca_24 q (c_24 _  e109)) q<|vt q q q q q q<|va q q q q q<|on0<|Sq.n<|W.ret<|Sq.r ?_
     obtain rfl := Option.some.inj h
     exact Fin.r q (.cons (.tmp _ _ q) .nil) q
    ·have h := bif_f h hb
     refine on q q q<|vm q q q q q<|on q q q<|ov (g_eql q q q q q) q<|vf q q q q q q<|vm q q q q q<|Ops.split 56 q (fun hb => ?_) (fun hb => ?_)
     ·have h := bif_t h hb
      refine o2 q q q q q q<|o2 q q q q q q<|vt q q q q q q<|vm q q q q q<|on q q q ?_
      obtain ⟨v110, e110, h⟩ := bind_some h
      refine ov (g_call q q q ca_24 q (c_24 _  e110)) q<|vt q q q q q q<|va q q q q q<|on0<|Sq.n<|W.ret<|Sq.r ?_
      obtain rfl := Option.some.inj h
      exact Fin.r q (.cons (.tmp _ _ q) .nil) q
     ·have h := bif_f h hb
      refine on q q q<|vm q q q q q<|on q q q<|ov (g_eql q q q q q) q<|vf q q q q q q<|vm q q q q q<|Ops.split 60 q (fun hb => ?_) (fun hb => ?_)
      ·have h := bif_t h hb
       refine on q q q ?_
       obtain ⟨v111, e111, h⟩ := bind_some h
       refine ov (g_call q q q ca_24 q (c_24 _  e111)) q<|vt q q q q q q<|va q q q q q<|on0<|Sq.n<|W.ret<|Sq.r ?_
       obtain rfl := Option.some.inj h
       exact Fin.r q (.cons (.tmp _ _ q) .nil) q
      ·have h := bif_f h hb
       refine o2 q q q q q q<|vf q q q q q q<|va q q q q q<|on0<|Sq.n<|W.ret<|Sq.r ?_
       obtain rfl := Option.some.inj h
       exact Fin.r q (.cons (.tmp _ _ q) .nil) q
   ·have h := bif_f h hc
    refine W.skip<|Sq.n<|W.seq<|W.region<|ov (g_loadA q q q q q ag_27 sz_27 q q) q ?_
    obtain ⟨v112, e112, h⟩ := bind_some h
    refine ov (g_call q q q ca_46 q (c_46 _ _ e112)) q<|vm q q q q q<|ov (g_extract q q q q q) q<|ov (g_extract q q q q q) q<|ob (g_alloc q q q zr_57) q q<|Ops.step q (s_storeB q q q q q q sz_57 q q)<|va q q q q q<|on0<|Sq.n<|W.seq<|W.seqJ (σ := Bool) (fun s => (⟨[(8, .box 8 0), (9, .pv (.i v107.2)), (10, .box 10 0), (11, .pv (.i v112.2)), (85, .pv (.b s))], [(8, 57, [.pv (.i v107.1.low), .pv (.i v107.1.high)]), (10, 57, [.pv (.i v112.1.low), .pv (.i v112.1.high)])], []⟩ : Env)) (fun s => s_14_j2 n v107 v112 s = some r) ?_ ?_
    ·refine W.region<|vm q q q q q<|ov (g_neq q q q q q) q<|vm q q q q q<|Ops.split 70 q (fun hb => ?_) (fun hb => ?_)
     ·have h := bif_t h hb
      refine on q q q<|vm q q q q q<|on q q q<|ov (g_neq q q q q q) q<|vt q q q q q q<|vm q q q q q<|Ops.split 74 q (fun hb => ?_) (fun hb => ?_)
      ·have h := bif_t h hb
       refine on q q q<|vm q q q q q<|on q q q<|ov (g_neq q q q q q) q<|vt q q q q q q<|vm q q q q q<|Ops.split 78 q (fun hb => ?_) (fun hb => ?_)
       ·have h := bif_t h hb
        refine o2 q q q q q q<|o2 q q q q q q<|o2 q q q q q q<|o2 q q q q q q<|o2 q q q q q q<|o2 q q q q q q<|vt q q q q q q<|on0<|Sq.n<|⟨true, h, has_mk ⟨q, q, q, q, q, trivial⟩ ⟨q, q, trivial⟩ trivial q⟩
       ·have h := bif_f h hb
        refine on q q q<|vm q q q q q<|on q q q<|ov (g_eql q q q q q) q<|on q q q<|vm q q q q q<|Ops.split 81 q (fun hb => ?_) (fun hb => ?_)
        ·have h := bif_t h hb
         refine on q q q<|vm q q q q q<|on q q q<|ov (g_neq q q q q q) q<|on q q q<|vt q q q q q q<|vf q q q q q q<|on0<|Sq.n<|⟨(!decide (v112.2 = 7)), h, has_mk ⟨q, q, q, q, q, trivial⟩ ⟨q, q, trivial⟩ trivial q⟩
        ·have h := bif_f h hb
         refine o2 q q q q q q<|o2 q q q q q q<|on q q q<|vf q q q q q q<|vf q q q q q q<|on0<|Sq.n<|⟨false, h, has_mk ⟨q, q, q, q, q, trivial⟩ ⟨q, q, trivial⟩ trivial q⟩
      ·have h := bif_f h hb
       refine o2 q q q q q q<|o2 q q q q q q<|vf q q q q q q<|vm q q q q q<|on q q q<|vm q q q q q<|on q q q<|ov (g_eql q q q q q) q<|on q q q<|vm q q q q q<|Ops.split 81 q (fun hb => ?_) (fun hb => ?_)
       ·have h := bif_t h hb
        refine on q q q<|vm q q q q q<|on q q q<|ov (g_neq q q q q q) q<|on q q q<|vt q q q q q q<|vf q q q q q q<|on0<|Sq.n<|⟨(!decide (v112.2 = 7)), h, has_mk ⟨q, q, q, q, q, trivial⟩ ⟨q, q, trivial⟩ trivial q⟩
       ·have h := bif_f h hb
        refine o2 q q q q q q<|o2 q q q q q q<|on q q q<|vf q q q q q q<|vf q q q q q q<|on0<|Sq.n<|⟨false, h, has_mk ⟨q, q, q, q, q, trivial⟩ ⟨q, q, trivial⟩ trivial q⟩
     ·have h := bif_f h hb
      refine o2 q q q q q q<|o2 q q q q q q<|vf q q q q q q<|vm q q q q q<|o2 q q q q q q<|o2 q q q q q q<|vf q q q q q q<|vm q q q q q<|on q q q<|vm q q q q q<|on q q q<|ov (g_eql q q q q q) q<|on q q q<|vm q q q q q<|Ops.split 81 q (fun hb => ?_) (fun hb => ?_)
      ·have h := bif_t h hb
       refine on q q q<|vm q q q q q<|on q q q<|ov (g_neq q q q q q) q<|on q q q<|vt q q q q q q<|vf q q q q q q<|on0<|Sq.n<|⟨(!decide (v112.2 = 7)), h, has_mk ⟨q, q, q, q, q, trivial⟩ ⟨q, q, trivial⟩ trivial q⟩
      ·have h := bif_f h hb
       refine o2 q q q q q q<|o2 q q q q q q<|on q q q<|vf q q q q q q<|vf q q q q q q<|on0<|Sq.n<|⟨false, h, has_mk ⟨q, q, q, q, q, trivial⟩ ⟨q, q, trivial⟩ trivial q⟩
    ·rintro v113 h
     change s_14_j2 n v107 v112 v113 = some r at h
     unfold s_14_j2 at h
     change W _ _ (⟨[(8, .box 8 0), (9, .pv (.i v107.2)), (10, .box 10 0), (11, .pv (.i v112.2)), (85, .pv (.b v113))], [(8, 57, [.pv (.i v107.1.low), .pv (.i v107.1.high)]), (10, 57, [.pv (.i v112.1.low), .pv (.i v112.1.high)])], []⟩ : Env) _
     refine W.cond (b := v113) q (fun hc => ?_) (fun hc => ?_)
     ·have h := bif_t h hc
      refine W.seq<|W.region<|va q q q q q<|on0<|Sq.n<|W.ret<|Sq.r ?_
      obtain rfl := Option.some.inj h
      exact Fin.r q (.cons (.tmp _ _ q) .nil) q
     ·have h := bif_f h hc
      refine W.skip<|Sq.n<|W.seq<|W.region<|vm q q q q q<|ov (g_neq q q q q q) q<|vm q q q q q<|Ops.split 88 q (fun hb => ?_) (fun hb => ?_)
      ·have h := bif_t h hb
       refine o2 q q q q q q<|o2 q q q q q q<|vt q q q q q q<|vm q q q q q<|o2 q q q q q q<|o2 q q q q q q<|o2 q q q q q q<|o2 q q q q q q<|o2 q q q q q q<|o2 q q q q q q<|o2 q q q q q q<|o2 q q q q q q<|o2 q q q q q q<|o2 q q q q q q<|o2 q q q q q q<|o2 q q q q q q<|o2 q q q q q q<|o2 q q q q q q<|o2 q q q q q q<|o2 q q q q q q<|vt q q q q q q<|vm q q q q q<|on q q q ?_
       obtain ⟨v114, e114, h⟩ := bind_some h
       refine ov (g_call q q q ca_24 q (c_24 _  e114)) q<|vt q q q q q q<|va q q q q q<|on0<|Sq.n<|W.ret ?_
       obtain rfl := Option.some.inj h
       exact Fin.r q (.cons (.tmp _ _ q) .nil) q
      ·have h := bif_f h hb
       refine on q q q<|vm q q q q q<|on q q q<|ov (g_eql q q q q q) q<|vf q q q q q q<|vm q q q q q<|Ops.split 92 q (fun hb => ?_) (fun hb => ?_)
       ·have h := bif_t h hb
        refine o2 q q q q q q<|o2 q q q q q q<|o2 q q q q q q<|o2 q q q q q q<|o2 q q q q q q<|o2 q q q q q q<|o2 q q q q q q<|o2 q q q q q q<|o2 q q q q q q<|o2 q q q q q q<|o2 q q q q q q<|o2 q q q q q q<|o2 q q q q q q<|o2 q q q q q q<|o2 q q q q q q<|o2 q q q q q q<|vt q q q q q q<|vm q q q q q<|on q q q ?_
        obtain ⟨v115, e115, h⟩ := bind_some h
        refine ov (g_call q q q ca_24 q (c_24 _  e115)) q<|vt q q q q q q<|va q q q q q<|on0<|Sq.n<|W.ret ?_
        obtain rfl := Option.some.inj h
        exact Fin.r q (.cons (.tmp _ _ q) .nil) q
       ·have h := bif_f h hb
        refine on q q q<|vm q q q q q<|on q q q<|ov (g_eql q q q q q) q<|on q q q<|vm q q q q q<|Ops.split 95 q (fun hb => ?_) (fun hb => ?_)
        ·have h := bif_t h hb
         refine on q q q<|ov (g_fld q q q q fl_57_0) q<|on q q q<|ov (g_load1 q q q q q q ag_3) q<|on q q q<|ov (g_fld q q q q fl_57_0) q<|on q q q<|ov (g_load1 q q q q q q ag_3) q<|on q q q<|ov (g_leq q q q q q) q<|on q q q<|vt q q q q q q<|on q q q<|vm q q q q q<|Ops.split 102 q (fun hb => ?_) (fun hb => ?_)
         ·have h := bif_t h hb
          refine on q q q<|ov (g_fld q q q q fl_57_1) q<|on q q q<|ov (g_load1 q q q q q q ag_3) q<|on q q q<|ov (g_fld q q q q fl_57_1) q<|on q q q<|ov (g_load1 q q q q q q ag_3) q<|on q q q<|ov (g_geq q q q q q) q<|on q q q<|vt q q q q q q<|vf q q q q q q<|vm q q q q q<|Ops.split 110 q (fun hb => ?_) (fun hb => ?_)
          ·have h := bif_t h hb
           refine on q q q ?_
           obtain ⟨v116, e116, h⟩ := bind_some h
           refine ov (g_call q q q ca_24 q (c_24 _  e116)) q<|vt q q q q q q<|va q q q q q<|on0<|Sq.n<|W.ret ?_
           obtain rfl := Option.some.inj h
           exact Fin.r q (.cons (.tmp _ _ q) .nil) q
          ·have h := bif_f h hb
           refine o2 q q q q q q<|vf q q q q q q<|va q q q q q<|on0<|Sq.n<|W.ret ?_
           obtain rfl := Option.some.inj h
           exact Fin.r q (.cons (.tmp _ _ q) .nil) q
         ·have h := bif_f h hb
          refine o2 q q q q q q<|o2 q q q q q q<|o2 q q q q q q<|o2 q q q q q q<|o2 q q q q q q<|on q q q<|vf q q q q q q<|vf q q q q q q<|vm q q q q q<|o2 q q q q q q<|vf q q q q q q<|va q q q q q<|on0<|Sq.n<|W.ret ?_
          obtain rfl := Option.some.inj h
          exact Fin.r q (.cons (.tmp _ _ q) .nil) q
        ·have h := bif_f h hb
         refine o2 q q q q q q<|o2 q q q q q q<|o2 q q q q q q<|o2 q q q q q q<|o2 q q q q q q<|on q q q<|vf q q q q q q<|on q q q<|vm q q q q q<|o2 q q q q q q<|o2 q q q q q q<|o2 q q q q q q<|o2 q q q q q q<|o2 q q q q q q<|on q q q<|vf q q q q q q<|vf q q q q q q<|vm q q q q q<|o2 q q q q q q<|vf q q q q q q<|va q q q q q<|on0<|Sq.n<|W.ret ?_
         obtain rfl := Option.some.inj h
         exact Fin.r q (.cons (.tmp _ _ q) .nil) q
end Go.Proofs.YtohmhlkdgfcaeaaGreatDoor
namespace Go.Proofs.YtohmhlkdgfcaeaaGreatDoor
open Go Go.RowKit
theorem and_has : ∀ a : Nat, a < 16 → ∀ b : Nat, b < 16 → ∀ i : Nat, i < 4 → hasB (bits .and .i64 (a : Int) (b : Int)) i = true → hasB (a : Int) i = true := by decide
section
variable {d : Drum} {x : Strip} {k : Int}
def restD (d : Drum) (x : Strip) (k : Int) : Drum := ⟨d.acids, k, d.hours, d.adds, d.strips ++ [x], d.batches⟩
def subB (x y : Bounds) : Prop := (y.rough.low ≤ x.rough.low ∧ x.rough.high ≤ y.rough.high) ∧ y.thick.low ≤ x.thick.low ∧ x.thick.high ≤ y.thick.high
theorem subB_trans {x y z : Bounds} (h : subB x y) (h' : subB y z) : subB x z := by unfold subB at *; omega
theorem subB_fold_in {b : Batch} {t i : Nat} : ∀ (l : List Nat) (s : Bounds), (subB (bOf d b t i) s ∨ i ∈ l) → subB (bOf d b t i) (l.foldl (fun s i => updB s (bOf d b t i)) s) := by
 intro l
 induction l with
 | nil =>
  intro s h
  rcases h with h | h
  ·exact h
  ·cases h
 | cons j r ih =>
  intro s h
  rw [List.foldl_cons]
  refine ih _ ?_
  rcases h with h | h
  ·refine .inl ?_
   unfold subB updB at *
   simp only
   omega
  ·rcases List.mem_cons.1 h with rfl | h
   ·refine .inl ?_
    unfold subB updB
    simp only
    omega
   ·exact .inr h
theorem subB_fold {b : Batch} {t : Nat} {y : Bounds} : ∀ (l : List Nat) (s : Bounds), subB s y → (∀ i ∈ l, subB (bOf d b t i) y) → subB (l.foldl (fun s i => updB s (bOf d b t i)) s) y := by
 intro l
 induction l with
 | nil => intro s h _; exact h
 | cons j r ih =>
  intro s h hl
  rw [List.foldl_cons]
  refine ih _ ?_ (fun i hi => hl i (List.mem_cons_of_mem _ hi))
  have := hl j List.mem_cons_self
  unfold subB updB at *
  simp only
  omega
theorem rest_sub (hd : d.ok) (h2 : (restD d x k).ok) (hk : ∀ i, i < 4 → hasB k i = true → hasB d.known i = true) {i : Nat} (hi : i ∈ idx (restD d x k)) : i ∈ idx d ∧ ∀ h, h < hrs d → (bdAt d i h).low ≤ (bdAt (restD d x k) i h).low ∧ (bdAt (restD d x k) i h).high ≤ (bdAt d i h).high := by
 obtain ⟨m1, m2⟩ := idx_mem hi
 unfold PossI at m2
 simp only [Bool.and_eq_true, decide_eq_true_eq] at m2
 obtain ⟨m3, m4⟩ := m2
 have m1' : i < d.acids.length := m1
 have hacl := hd.acl
 have t1 := bd_tru (acidAt_ok hd m1') hd.ad (st := d.strips ++ [x]) (H := hrs d) m4
 have t2 : Tru d.adds d.strips (acidAt d i) (hrs d) _ := Tru.less t1.1
 have t3 : Tru d.adds d.strips (acidAt d i) (hrs d) _ := Tru.less t1.2
 refine ⟨?_, fun h hh => ?_⟩
 ·unfold idx
  rw [List.mem_filter, List.mem_range]
  refine ⟨m1', ?_⟩
  unfold PossI
  rw [hk i (by omega) m3, Bool.true_and]
  exact decide_eq_true (poss_of_tru (acidAt_ok hd m1') t2)
 ·have b1 := bd_sound (acidAt_ok hd m1') hd.ad t2 (hrs d - 1 - h) h (by omega)
  have b2 := bd_sound (acidAt_ok hd m1') hd.ad t3 (hrs d - 1 - h) h (by omega)
  exact ⟨b1.1, b2.2⟩
theorem rest_bnds (hd : d.ok) (h2 : (restD d x k).ok) (hk : ∀ i, i < 4 → hasB k i = true → hasB d.known i = true) (hne : idx (restD d x k) ≠ []) {b : Batch} (hb : b.ok) {t : Nat} (ht : t ≤ hrs d) : subB (bnds (restD d x k) b t) (bnds d b t) := by
 have one : ∀ i ∈ idx (restD d x k), subB (bOf (restD d x k) b t i) (bnds d b t) := by
  intro i hi
  obtain ⟨hi2, hs⟩ := rest_sub hd h2 hk hi
  refine subB_trans ?_ (subB_fold_in (i := i) _ _ (.inr hi2))
  have l1 := state_mono hb (g := fun h => (bdAt d i h).low) (g' := fun h => (bdAt (restD d x k) i h).low) (t := t) (fun h hh => by
   have q1 := bdAt_pos hd hi2 (show h < hrs d by omega)
   have q2 := hs h (by omega)
   omega)
  have l2 := state_mono hb (g := fun h => (bdAt (restD d x k) i h).high) (g' := fun h => (bdAt d i h).high) (t := t) (fun h hh => by
   have q1 := bdAt_pos h2 hi (show h < hrs (restD d x k) from (by show h < hrs d; omega))
   have q2 := hs h (by omega)
   omega)
  simp only [subB, bOf, loS, hiS]
  omega
 unfold bnds
 obtain ⟨i0, r0, hi0⟩ : ∃ i r, idx (restD d x k) = i :: r := by
  cases h : idx (restD d x k) with
  | nil => exact absurd h hne
  | cons i r => exact ⟨i, r, rfl⟩
 refine subB_fold _ _ ?_ one
 rw [hi0]
 exact one i0 (by rw [hi0]; exact List.mem_cons_self)
theorem rest_mem (hd : d.ok) (h2 : (restD d x k).ok) (hk : ∀ i, i < 4 → hasB k i = true → hasB d.known i = true) (hne : idx (restD d x k) ≠ []) {y : Int} (h : (comm (wsP d)).mem y) : (comm (wsP (restD d x k))).mem y := by
 have hhr := hrs_le hd
 have hbt := hd.btl
 have hne0 : idx d ≠ [] := by
  intro e
  cases hx : idx (restD d x k) with
  | nil => exact hne hx
  | cons i r =>
   have := (rest_sub hd h2 hk (show i ∈ idx (restD d x k) by rw [hx]; exact List.mem_cons_self)).1
   rw [e] at this
   cases this
 obtain ⟨⟨y1, y2⟩, y3⟩ := mem_comm.1 h
 have hyH : y ≤ hrs d := by
  have hb0 : 0 < d.batches.length := by omega
  have hw := y3 (winP d d.batches[0]) (by unfold wsP; exact List.mem_map_of_mem (List.getElem_mem hb0))
  unfold winP at hw
  by_cases hf : firstH (smP d d.batches[0]) (hrs d + 1) 0 < 0
  ·rw [decide_eq_true hf, cond_true] at hw
   unfold Span.mem at hw
   simp only at hw
   omega
  ·rw [decide_eq_false hf, cond_false] at hw
   unfold Span.mem at hw
   simp only at hw
   by_cases hl : lastH (thP d d.batches[0]) (hrs d + 1) < 0
   ·omega
   ·have := (lastH_spec _ _ (show 0 ≤ lastH (thP d d.batches[0]) (hrs d + 1) by omega)).2.1
    omega
 obtain ⟨t, ht⟩ := Int.eq_ofNat_of_zero_le y1
 subst ht
 have hall := (comm_mem hd hne0 (t := t) (by omega)).1 h
 refine (comm_mem h2 hne (t := t) (show t ≤ hrs d by omega)).2 (fun b hb => ?_)
 obtain ⟨a1, a2⟩ := hall b hb
 have hs := rest_bnds hd h2 hk hne (hd.bt b hb) (t := t) (by omega)
 unfold subB at hs
 unfold smP at a1
 unfold thP at a2
 have a1 := of_decide_eq_true a1
 have a2 := of_decide_eq_true a2
 exact ⟨decide_eq_true (by omega), decide_eq_true (by omega)⟩
theorem law_14 (d : Drum) (x : Strip) (s : Int) : s_14 1000 d x s = some true := by
 unfold s_14
 rw [p_23, Option.bind_some]
 have out : s_14_j1 1000 d x s true = some true := by unfold s_14_j1; rw [cond_true, p_24, Option.bind_some]
 have hn : 100 ≤ 1000 := by omega
 cases hsh : shortB d with
 | false => simp only [Bool.not_false, cond_true]; exact out
 | true =>
  have hs := shortB_iff.1 hsh
  simp only [Bool.not_true, cond_false, p_39 hn hs, Option.bind_some]
  cases hok : okD d with
  | false => simp only [Bool.not_false, cond_true]; exact out
  | true =>
   have hd := okD_iff.1 hok
   have hst := hd.stl
   have hkn := hd.kn
   have hacl := hd.acl
   have hpw4 : (2 : Int) ^ d.acids.length ≤ 16 := by
    have : (2 : Nat) ^ d.acids.length ≤ 2 ^ 4 := Nat.pow_le_pow_right (by omega) hacl.2
    exact_mod_cast this
   simp only [Bool.not_true, cond_false]
   by_cases h0 : s < 0
   ·rw [decide_eq_true h0, cond_true]; exact out
   ·rw [decide_eq_false h0, cond_false]
    by_cases h1 : 15 < s
    ·rw [decide_eq_true h1]; exact out
    ·rw [decide_eq_false h1]
     have hk : ∀ i, i < 4 → hasB (bits .and .i64 d.known s) i = true → hasB d.known i = true := by
      intro i hi h
      obtain ⟨a, ha⟩ := Int.eq_ofNat_of_zero_le (show 0 ≤ d.known by omega)
      obtain ⟨b, hb⟩ := Int.eq_ofNat_of_zero_le (show 0 ≤ s by omega)
      rw [ha, hb] at h
      rw [ha]
      exact and_has a (by omega) b (by omega) i hi h
     unfold s_14_j1
     rw [cond_false, app_of (by simp; omega), Option.bind_some, List.nil_append, app_of (by simp; omega), Option.bind_some]
     show ((s_46 1000 d).bind fun v107 => (s_39 1000 (restD d x (bits .and .i64 d.known s))).bind fun v108 => bif !v108 then _ else (s_46 1000 (restD d x (bits .and .i64 d.known s))).bind fun v112 => _) = _
     generalize bits .and .i64 d.known s = k at hk ⊢
     have hs2 : Short (restD d x k) := ⟨hs.a, hs.b, (by show (d.strips ++ [x]).length ≤ 9; rw [List.length_append, List.length_singleton]; omega), hs.e⟩
     rw [p_46 hn hs, Option.bind_some, p_39 hn hs2, Option.bind_some]
     have hv : ∀ v : Span × Int, v = (bif decide (err d true = 0) then (bif decide (comm (wsP d)).ne then (comm (wsP d), 0) else (⟨0, 0⟩, 5)) else (⟨0, 0⟩, err d true)) → (v.2 = 0 ∧ v.1 = comm (wsP d) ∧ (comm (wsP d)).ne) ∨ v.2 = 5 ∨ (v.2 = 7 ∧ idx d = []) := by
      intro v hv
      subst hv
      rcases err_of_ok hok with he | he
      ·rw [he]
       simp only [decide_true, cond_true]
       by_cases hc : (comm (wsP d)).ne
       ·rw [decide_eq_true hc]; exact .inl ⟨rfl, rfl, hc⟩
       ·rw [decide_eq_false hc]; exact .inr (.inl rfl)
      ·rw [he]
       refine .inr (.inr ⟨rfl, ?_⟩)
       unfold err at he
       rw [hok] at he
       cases hx : idx d with
       | nil => rfl
       | cons => rw [hx] at he; simp at he
     generalize (bif decide (err d true = 0) then (bif decide (comm (wsP d)).ne then (comm (wsP d), (0 : Int)) else (⟨0, 0⟩, 5)) else (⟨0, 0⟩, err d true)) = v at hv ⊢
     have hv := hv v rfl
     cases hok2 : okD (restD d x k) with
     | false =>
      simp only [Bool.not_false, cond_true]
      rcases hv with ⟨e, _⟩ | e | ⟨e, _⟩ <;> rw [e] <;> simp only [show decide ((5 : Int) = 0) = false from rfl, show decide ((5 : Int) = 7) = false from rfl, show decide ((7 : Int) = 0) = false from rfl, decide_true, cond_true, cond_false, p_24, Option.bind_some]
     | true =>
      have h2 := okD_iff.1 hok2
      simp only [Bool.not_true, cond_false]
      rw [p_46 hn hs2, Option.bind_some]
      have hw : ∀ w : Span × Int, w = (bif decide (err (restD d x k) true = 0) then (bif decide (comm (wsP (restD d x k))).ne then (comm (wsP (restD d x k)), 0) else (⟨0, 0⟩, 5)) else (⟨0, 0⟩, err (restD d x k) true)) → (w.2 = 0 ∧ w.1 = comm (wsP (restD d x k)) ∧ idx (restD d x k) ≠ []) ∨ (w.2 = 5 ∧ idx (restD d x k) ≠ [] ∧ ¬ (comm (wsP (restD d x k))).ne) ∨ w.2 = 7 := by
       intro w hw
       subst hw
       rcases err_of_ok hok2 with he | he
       ·have hne := (err_zero he).2.2
        rw [he]
        simp only [decide_true, cond_true]
        by_cases hc : (comm (wsP (restD d x k))).ne
        ·rw [decide_eq_true hc]; exact .inl ⟨rfl, rfl, hne⟩
        ·rw [decide_eq_false hc]; exact .inr (.inl ⟨rfl, hne, hc⟩)
       ·rw [he]
        exact .inr (.inr rfl)
      generalize (bif decide (err (restD d x k) true = 0) then (bif decide (comm (wsP (restD d x k))).ne then (comm (wsP (restD d x k)), (0 : Int)) else (⟨0, 0⟩, 5)) else (⟨0, 0⟩, err (restD d x k) true)) = w at hw ⊢
      have hw := hw w rfl
      have no : idx d = [] → idx (restD d x k) ≠ [] → False := by
       intro e hne
       cases hx : idx (restD d x k) with
       | nil => exact hne hx
       | cons i r =>
        have := (rest_sub hd h2 hk (show i ∈ idx (restD d x k) by rw [hx]; exact List.mem_cons_self)).1
        rw [e] at this
        cases this
      have hj : s_14_j2 1000 v w false = some true := by
       unfold s_14_j2
       rw [cond_false]
       rcases hv with ⟨e, e1, e2⟩ | e | ⟨e, _⟩
       ·rw [e]
        simp only [decide_true, Bool.not_true, cond_false]
        have m1 := ne_mem e2
        rcases hw with ⟨f, f1, f2⟩ | ⟨f, f1, f2⟩ | f
        ·have n1 := rest_mem hd h2 hk f2 m1.1
         have n2 := rest_mem hd h2 hk f2 m1.2
         unfold Span.mem at n1 n2
         rw [f, e1, f1]
         simp only [show decide ((0 : Int) = 7) = false from rfl, decide_true, cond_true, cond_false]
         rw [decide_eq_true n1.1, cond_true, decide_eq_true n2.2, cond_true, p_24, Option.bind_some]
        ·exact absurd (mem_ne (rest_mem hd h2 hk f1 m1.1)) f2
        ·rw [f]
         simp only [decide_true, cond_true, p_24, Option.bind_some]
       ·rw [e]
        simp only [show decide ((5 : Int) = 0) = false from rfl, Bool.not_false, cond_true, p_24, Option.bind_some]
       ·rw [e]
        simp only [show decide ((7 : Int) = 0) = false from rfl, Bool.not_false, cond_true, p_24, Option.bind_some]
      have h7 : decide (v.2 = 7) = true → decide (w.2 = 7) = true := by
       intro h
       rw [decide_eq_true_eq] at h ⊢
       rcases hv with ⟨e, _⟩ | e | ⟨e, e1⟩
       ·omega
       ·omega
       ·rcases hw with ⟨f, _, f2⟩ | ⟨f, f1, _⟩ | f
        ·exact (no e1 f2).elim
        ·exact (no e1 f1).elim
        ·exact f
      have hj' : (bif decide (v.2 = 7) then s_14_j2 1000 v w (!decide (w.2 = 7)) else s_14_j2 1000 v w false) = some true := by
       cases hc : decide (v.2 = 7) with
       | false => rw [cond_false]; exact hj
       | true => rw [cond_true, h7 hc]; exact hj
      rcases hw with ⟨f, _⟩ | ⟨f, _⟩ | f <;> rw [f] at hj' ⊢ <;> simp only [show decide ((5 : Int) = 0) = false from rfl, show decide ((7 : Int) = 0) = false from rfl, show decide ((7 : Int) = 5) = false from rfl, decide_true, Bool.not_true, Bool.not_false, cond_true, cond_false] at hj' ⊢ <;> exact hj'
end
end Go.Proofs.YtohmhlkdgfcaeaaGreatDoor
namespace Go.Proofs.YtohmhlkdgfcaeaaGreatDoor
open Go Go.RowKit
section
variable {α : Type} (lt : α → α → Bool)
def least : α → List α → α
 | x, [] => x
 | x, y :: r => least (bif lt y x then y else x) r
end
end Go.Proofs.YtohmhlkdgfcaeaaGreatDoor
namespace Go.Proofs.YtohmhlkdgfcaeaaGreatDoor
open Go Go.RowKit
def rn : Int → List Int → Int
 | c, [] => c
 | c, x :: r => rn (max c (x + 1)) r
def rgB : Int → List Int → Bool
 | _, [] => true
 | c, x :: r => decide (x ≤ c) && rgB (max c (x + 1)) r
theorem rgB_app : ∀ (l : List Int) (c x : Int), rgB c (l ++ [x]) = (rgB c l && decide (x ≤ rn c l)) := by
 intro l
 induction l with
 | nil =>
  intro c x
  show (decide (x ≤ c) && true) = (true && decide (x ≤ c))
  rw [Bool.and_true, Bool.true_and]
 | cons y r ih => intro c x; rw [List.cons_append, rgB, ih, rgB, rn, Bool.and_assoc]
end Go.Proofs.YtohmhlkdgfcaeaaGreatDoor
namespace Go.Proofs.YtohmhlkdgfcaeaaGreatDoor
open Go Go.RowKit
structure Way (l : List Int) : Prop where
 rg : rgB 0 l = true
 nn : ∀ x ∈ l, 0 ≤ x
theorem Way.nil : Way [] := ⟨rfl, by simp⟩
theorem Way.step {l : List Int} (h : Way l) {x : Nat} (hx : (x : Int) ≤ rn 0 l) : Way (l ++ [(x : Int)]) :=
 ⟨by rw [rgB_app, h.rg, decide_eq_true hx]; rfl, fun y hy => by
  rcases List.mem_append.1 hy with hy | hy
  ·exact h.nn y hy
  ·obtain rfl := List.mem_singleton.1 hy; omega⟩
end Go.Proofs.YtohmhlkdgfcaeaaGreatDoor
namespace Go.Proofs.YtohmhlkdgfcaeaaGreatDoor
open Go Go.RowKit Go.ChangeShapes Go.WideShapes
set_option maxRecDepth 100000
theorem drumMore_lifted (os : Os) (started : os.Started) (H : Type) (enc : TypeId × Value → H) :
  ReturnsInHanded {} Tryz.checked os 14 .any (fun w args => (Rows.drumMoreSpec.pre enc Tryz.prog Tryz.f14 [] false w args ∧ laidMetH Tryz.prog Rows.drumMoreRow.laid w) ∧ sizedMet enc Tryz.prog Tryz.f14 (OpenSpec.ofChange Rows.drumMoreSpec) false w args)
   (Rows.drumMoreSpec.post enc Tryz.prog Tryz.f14 false true false false) :=
 law_row (s := Rows.drumMoreSpec) (enc := enc) started #[.agg #[.slice none 0 0, .int .i64 0, .int .i64 0, .slice none 0 0, .slice none 0 0, .slice none 0 0], .agg #[.int .i64 0, .int .i64 0, .int .i64 0], .int .i64 0] (by kernel_rfl) Tryz.func14 (by kernel_rfl) (by kernel_rfl) (by kernel_rfl) rfl
   (by
    rw [Tryz.params14]
    have h : ∀ t ∈ ([27, 92, 3] : List Nat), t ∈ [3, 9, 23, 27, 54, 92] := by decide
    exact fun t ht => parT t (h t ht)) rfl
   (by
    rw [Tryz.params14]
    intro ds h
    match ds, h with
    | [d0, d1, d2], _ => rfl)
   (by
    rw [Tryz.params14]
    intro W base args ds p hval hA
    obtain ⟨args⟩ := args
    obtain ⟨v0, vs0, d0, ds0, p0, q0, e0, rfl, rfl, h0, r0⟩ := trodAll_cons hA
    have e0 : args = _ := e0; subst e0
    obtain ⟨v1, vs1, d1, ds1, p1, q1, e1, rfl, rfl, h1, r1⟩ := trodAll_cons r0
    subst e1
    obtain ⟨v2, vs2, d2, ds2, p2, q2, e2, rfl, rfl, h2, r2⟩ := trodAll_cons r1
    subst e2
    obtain ⟨rfl, rfl, rfl⟩ := trodAll_nil r2
    obtain ⟨x0, z0⟩ := rd_drum (hval 0 27 v0 rfl rfl) h0
    obtain ⟨x1, z1⟩ := rd_strip (hval 1 92 v1 rfl rfl) h1
    obtain ⟨x2, z2⟩ := rd_int (hval 2 3 v2 rfl rfl)
    refine ⟨rfl, [.agg (cDrum x0), .agg (cStrip x1), .i x2], ⟨rfl, ?_⟩, c_14 1000 x0 x1 x2 (law_14 x0 x1 x2)⟩
    intro j c u hc hu
    match j, hc, hu with
    | 0, hc, hu => cases hc; cases hu; exact z0
    | 1, hc, hu => cases hc; cases hu; exact z1
    | 2, hc, hu => cases hc; cases hu; exact z2)
theorem drumMore_facts : factsA Tryz.prog Tryz.f14 Rows.drumMoreSpec Rows.drumMoreRow = true := by kernel_rfl
theorem drumMore_road0 : (Rows.drumMoreRow.inPlace == Tryz.prog.inPlace 14) = true := by kernel_rfl
theorem drumMore_road1 : (Rows.drumMoreRow.unfollowed == Tryz.prog.unfollowed 14) = true := by kernel_rfl
theorem drumMore_road2 : (Rows.drumMoreRow.recurses == Tryz.prog.recurses 14) = true := by kernel_rfl
theorem drumMore_road3 : (Rows.drumMoreRow.named == Tryz.prog.varsNamed 14) = true := by kernel_rfl
theorem drumMore_row : Rows.DrumMoreSaid :=
 OpenClaim.holds_of_wide 14 Tryz.f14 rfl rfl rfl rfl rfl rfl rfl ⟨rfl, rfl, rfl, rfl, rfl⟩ rfl rfl rfl rfl rfl (by as_aux_lemma => kernel_rfl) Tryz.func14 (joined_of drumMore_facts drumMore_road0 drumMore_road1 drumMore_road2 drumMore_road3)
  (of_decide_eq_true (by as_aux_lemma => kernel_rfl)) (by unfold Func.isWrapper; rw [if_neg (of_decide_eq_false (by as_aux_lemma => kernel_rfl))]; exact ⟨rfl, rfl⟩)
  (fun os started H enc _ => drumMore_lifted os started H enc)
theorem drumMore_card : Rows.DrumMoreCardSaid :=
 Claim7.holds_tied_plain_at .later [] [.data, .data, .data, .data, .pinned] true (true, "263524fd91af563947b647e8709e73ef988cdef21cccd4074f632dc410392126") true drumMore_row (fun _ h => by cases h) (by as_aux_lemma => kernel_rfl) (fun _ h => by cases h) drumMore_row_tie rfl ⟨rfl, rfl⟩ mainK rfl
  (fun f fn hf hfn => by
   obtain rfl : f = 14 := Option.some.inj ((show Tryz.prog.funcNamed "nacre/nacrelaw03.DrumMore" = some 14 by as_aux_lemma => kernel_rfl).symm.trans hf) |>.symm
   obtain rfl : fn = Tryz.f14 := (Option.some.inj (Tryz.func14.symm.trans hfn)).symm
   exact ⟨looksK, fun j t ht => by
    rw [Tryz.params14] at ht
    have hm : t ∈ [27, 92, 3] := by simpa using Array.mem_of_getElem? ht
    have h : ∀ t ∈ ([27, 92, 3] : List Nat), t ∈ [3, 9, 23, 27, 54, 92] := by decide
    exact standK t (h t hm)⟩)
  (by as_aux_lemma => kernel_rfl)
#print axioms drumMore_card
end Go.Proofs.YtohmhlkdgfcaeaaGreatDoor
