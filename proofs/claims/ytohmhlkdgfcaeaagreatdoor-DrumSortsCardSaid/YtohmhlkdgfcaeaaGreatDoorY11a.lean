/- What law 11 asks besides, part 1. -/
import Derived.Laws.BytesArg
import Derived.Laws.OwnMore
import Derived.Laws.Entries
import Derived.Laws.Small
import Derived.Test.YtohmhlkdgfcaeaaGreatDoorProg
import Derived.KernelRfl
import Derived.Scope
import Derived.Laws.Cover3
import Derived.Test.YtohmhlkdgfcaeaaGreatDoorJ8
set_option linter.unusedVariables false
set_option linter.unusedSimpArgs false
namespace Go.Proofs.YtohmhlkdgfcaeaaGreatDoor
section
open Go Go.RowKit
section
variable {X : Cx} {E : Env} {Q : Exit → Env → Prop} {ops : Array Oper} {rest : List Oper} {o : Oper} {S : Sl} {d : Nat} {x y : Operand}
theorem zCN {ts : List (Nat × TV)} {bs : List (Nat × TypeId × List TV)} {rs : List (Nat × xK)} {t e : TypeId} {sz : Nat} {v : TV} {es : List (List PV)} (ho : o.op = .call { callee := .builtin .append, args := #[x, y], argTypes := #[t, t] }) (hd : o.dst = some d) (hdn : Nat.ble (d + 1) X.nt = true)
  (hx : evT ⟨ts, bs, rs⟩ x = some (.pv (.val (.slice none 0 0)))) (hk : lk rs d = none) (hy : evT ⟨ts, bs, rs⟩ y = some v) (hs : Src ⟨ts, bs, rs⟩ v sz es) (hT : ElX X.P t e sz) (hb : es.length ≤ 1000000) :
  iD X o ⟨ts, bs, rs⟩ ⟨(d, .row d) :: ts, bs, (d, ⟨e, sz, es⟩) :: rs⟩ := by
 intro g F a w K Q hr hK
 have hxv := kE hr hx
 have hyv := yR hr hy
 obtain ⟨A, cap, news, n1, n2, n3, n4, n5, n6⟩ := hs.news hr hyv
 obtain ⟨v', w', r1, r2, r3, r4⟩ := eN (ty := o.type) hT (World.ownsRow_nil w X.w0.heap.size e sz) (cap := cap) n2 n3 n4 (by simpa using hb) hr.ext.size
 unfold Oper.wp
 simp only [execOp, ho, resolve, invoke, builtin, Sem.run_bind, Sem.run_pure, Result.andThen_ok, List.map_toArray, List.map_cons, List.map_nil, hxv, n1, r1, Oper.upon, hd]
 have h0 := hr.row_nil e sz hk
 have hk0 : lk ((d, (⟨e, sz, []⟩ : xK)) :: rs) d = some ⟨e, sz, []⟩ := by rw [yS, if_pos rfl]
 have h1 := h0.setrow (R' := ⟨e, sz, es⟩) (v := .slice none 0 0) (v' := v') (w' := w') (inner' := [] ++ news) hk0 (if_pos rfl) (bR h0 (k := d) (if_pos rfl) r3) (by simpa using r2)
  (by have := pO (w := w) (F := F) (es := []) (inner := []) ⟨by simp, by simp, by simp⟩ n2 n6 n5; simpa using this) r4
 suffices hs2 : ∃ g2, Rel X.w0 X.F0 X.nt g2 F ⟨ts, bs, (d, ⟨e, sz, es⟩) :: rs⟩ a w' ∧ g2.rw d = some v' by
  obtain ⟨g2, h2, h3⟩ := hs2
  exact hK g2 F _ _ (h2.put (Nat.le_of_ble_eq_true hdn) h3)
 refine ⟨_, ⟨h1.dfr, h1.sz, ?_, ?_, ?_, h1.bi, ?_, ?_, h1.ri, h1.rb, h1.ok, h1.ext, h1.le⟩, if_pos rfl⟩
 ·intro t' z hz
  obtain ⟨u, z1, z2⟩ := hr.ts t' z hz
  refine ⟨u, z1, ?_⟩
  have z3 : xX w F g z u := z2
  have hup : xX w' F g z u := (bR h0 (k := d) (if_pos rfl) r3).relT z3
  refine xX.gh g { bx := g.bx, rw := fun k' => if k' = d then some v' else if k' = d then some (Value.slice none 0 0) else g.rw k' } (fun _ _ h => h) (fun k' v2 hv2 => ?_) hup
  have hne : k' ≠ d := fun e => by rw [e, hr.rd d hk] at hv2; cases hv2
  simp only [if_neg hne]; exact hv2
 ·intro k' T' cs' hk'
  obtain ⟨b', us, z1, z2, z3, z4, z5, z6⟩ := hr.bs k' T' cs' hk'
  have htn := bR h0 (k := d) (if_pos rfl) r3
  refine ⟨b', us, z1, htn.heap (by simp [Value.ownBlock]) z2, z3, fun j c u hc hu => ?_, z5, z6⟩
  refine xX.gh g { bx := g.bx, rw := fun k' => if k' = d then some v' else if k' = d then some (Value.slice none 0 0) else g.rw k' } (fun _ _ h => h) (fun k' v2 hv2 => ?_) (htn.relT (z4 j c u hc hu))
  have hne : k' ≠ d := fun e => by rw [e, hr.rd d hk] at hv2; cases hv2
  simp only [if_neg hne]; exact hv2
 ·intro k' hk'; exact hr.bd k' hk'
 ·intro k' R' hk'
  refine h1.rs k' R' ?_
  simp only [yS] at hk' ⊢
  by_cases he : d = k'
  ·rw [if_pos he] at hk' ⊢; exact hk'
  ·rw [if_neg he] at hk' ⊢; rw [if_neg he]; exact hk'
 ·intro k' hk'
  refine h1.rd k' ?_
  simp only [yS] at hk' ⊢
  by_cases he : d = k'
  ·rw [if_pos he] at hk'; cases hk'
  ·rw [if_neg he] at hk' ⊢; rw [if_neg he]; exact hk'
end
end
section
open Go Go.RowKit
section
variable {X : Cx} {E E' : Env} {Q : Exit → Env → Prop} {ops : Array Oper} {rest : List Oper} {o : Oper} {S : Sl} {d : Nat} {x y : Operand}
variable {α : Type} {enc : α → List PV}
theorem zGQ {ts : List (Nat × TV)} {bs : List (Nat × TypeId × List TV)} {rs : List (Nat × xK)} {t T : TypeId} {sz : Nat} {l2 l3 : List α} (hq : app ([] : List α) l2 = some l3) (ho : o.op = .call { callee := .builtin .append, args := #[x, y], argTypes := #[t, t] }) (hd : o.dst = some d) (hdn : Nat.ble (d + 1) X.nt = true)
  (hx : evT ⟨ts, bs, rs⟩ x = some (.pv (.val (.slice none 0 0)))) (hk : lk rs d = none) (hy : evT ⟨ts, bs, rs⟩ y = some (.pv (.sl (l2.map enc)))) (hT : ElX X.P t T sz) (hone : ∀ q, (enc q).all PV.one = true) (hlen : ∀ q, (enc q).length = sz) :
  iD X o ⟨ts, bs, rs⟩ ⟨(d, .row d) :: ts, bs, (d, ⟨T, sz, l3.map enc⟩) :: rs⟩ := by
 obtain ⟨q1, q2⟩ := oU hq
 have q3 : l2 = l3 := q2.symm
 subst q3
 exact zCN ho hd hdn hx hk hy (Src.sl (l2.map enc) sz (by simpa using fun q _ => hlen q) (by intro e he c hc; obtain ⟨q, _, rfl⟩ := List.mem_map.1 he; exact List.all_eq_true.1 (hone q) c hc)) hT (by simpa using q1)
variable {T T' : TypeId} {k : IntKind} {a b c : Int}
end
end
section
open Go Go.RowKit
section
variable {X : Cx} {E : Env} {o : Oper} {d : Nat} {x y : Operand}
theorem zTE {T T' : TypeId} {a b : Bool} (ho : o.op = .binOp .neq T x y T') (hd : o.dst = some d) (hdn : Nat.ble (d + 1) X.nt = true) (hx : evT E x = some (.pv (.b a))) (hy : evT E y = some (.pv (.b b))) (hT : X.P.underlying T = some .bool) : GS X o E ⟨opT x ++ opT y, [], []⟩ ⟨some d, .pv (.b (!(a == b))), none, none⟩ :=
 bC ho hd hdn hx hy (fun w => by simp [eqGuard, binOp, Op.equal, Op.maxDepth, run_equalIn_bool _ _ _ _ _ hT])
end
end
section
open Go Go.RowKit
theorem zUI : zB Tryz.prog 115 := by unfold zB; kernel_rfl
theorem zUH : zB Tryz.prog 122 := by unfold zB; kernel_rfl
theorem zUD : zB Tryz.prog 134 := by unfold zB; kernel_rfl
theorem zKB : zB Tryz.prog 135 := by unfold zB; kernel_rfl
theorem zUC : zB Tryz.prog 136 := by unfold zB; kernel_rfl
theorem wG : zB Tryz.prog 138 := by unfold zB; kernel_rfl
theorem zKA : zB Tryz.prog 140 := by unfold zB; kernel_rfl
theorem zTZ : zB Tryz.prog 142 := by unfold zB; kernel_rfl
theorem zYL : zB Tryz.prog 23 := by unfold zB; kernel_rfl
theorem zHY : zB Tryz.prog 24 := by unfold zB; kernel_rfl
theorem zOR : zB Tryz.prog 27 := by unfold zB; kernel_rfl
theorem zYG : zB Tryz.prog 33 := by unfold zB; kernel_rfl
theorem zYF : zB Tryz.prog 34 := by unfold zB; kernel_rfl
theorem zYD : zB Tryz.prog 39 := by unfold zB; kernel_rfl
theorem zXZ : zB Tryz.prog 50 := by unfold zB; kernel_rfl
theorem zXY : zB Tryz.prog 53 := by unfold zB; kernel_rfl
theorem zOO : zB Tryz.prog 54 := by unfold zB; kernel_rfl
theorem zHW : zB Tryz.prog 55 := by unfold zB; kernel_rfl
theorem zXX : zB Tryz.prog 56 := by unfold zB; kernel_rfl
theorem zXW : zB Tryz.prog 57 := by unfold zB; kernel_rfl
theorem wF : zB Tryz.prog 59 := by unfold zB; kernel_rfl
theorem zXV : zB Tryz.prog 60 := by unfold zB; kernel_rfl
theorem zXT : zB Tryz.prog 62 := by unfold zB; kernel_rfl
theorem zXR : zB Tryz.prog 72 := by unfold zB; kernel_rfl
theorem zON : zB Tryz.prog 73 := by unfold zB; kernel_rfl
theorem zOM : zB Tryz.prog 80 := by unfold zB; kernel_rfl
theorem zXO : zB Tryz.prog 89 := by unfold zB; kernel_rfl
theorem zOL : zB Tryz.prog 90 := by unfold zB; kernel_rfl
theorem zOH : zB Tryz.prog 94 := by unfold zB; kernel_rfl
theorem yAC : Tryz.prog.underlying 4 = some .bool := by kernel_rfl
end
section
open Go Go.RowKit
section
variable {X : Cx} {E E' : Env} {Q : Exit → Env → Prop} {ops : Array Oper} {rest : List Oper} {o : Oper} {S : Sl} {d : Nat} {x y : Operand}
theorem Conv.softrow {ts : List (Nat × TV)} {bs : List (Nat × TypeId × List TV)} {rs : List (Nat × xK)} (k : Nat) {T : TypeId} {sz : Nat} {es es' : List (List PV)} (hk : lk rs k = some ⟨T, sz, es⟩) (e : es.map (List.map PV.soft0) = es') : Conv ⟨ts, bs, rs⟩ ⟨ts, bs, (k, ⟨T, sz, es'⟩) :: rs⟩ := fun w0 F0 nt g F a w hr => by
 subst e
 refine ⟨g, F, ⟨hr.dfr, hr.sz, hr.ts, hr.bs, hr.bd, hr.bi, ?_, ?_, hr.ri, hr.rb, hr.ok, hr.ext, hr.le⟩⟩
 ·intro k' R' hk'
  simp only [yS] at hk'
  by_cases he : k = k'
  ·rw [if_pos he] at hk'
   cases hk'
   subst he
   obtain ⟨v, inner, h1, h2, h3, h4⟩ := hr.rs k _ hk
   refine ⟨v, inner, h1, by simpa using h2, ⟨by simpa using h3.1, ?_, ?_⟩, h4⟩
   ·intro i e he
    rw [List.getElem?_map] at he
    obtain ⟨e', he', rfl⟩ := Option.map_eq_some_iff.1 he
    rw [List.length_map]
    exact h3.2.1 i e' he'
   ·intro i e j c u hi hj hu
    rw [List.getElem?_map] at hi
    obtain ⟨e', he', rfl⟩ := Option.map_eq_some_iff.1 hi
    rw [List.getElem?_map] at hj
    obtain ⟨c', hc', rfl⟩ := Option.map_eq_some_iff.1 hj
    exact (h3.2.2 i e' j c' u he' hc' hu).soft0
  ·rw [if_neg he] at hk'; exact hr.rs k' R' hk'
 ·intro k' hk'
  simp only [yS] at hk'
  by_cases he : k = k'
  ·rw [if_pos he] at hk'; cases hk'
  ·rw [if_neg he] at hk'; exact hr.rd k' hk'
end
end
section
open Go Go.RowKit
section
variable {X : Cx} {E E' : Env} {Q : Exit → Env → Prop} {ops : Array Oper} {rest : List Oper} {o : Oper} {S : Sl} {d : Nat} {x y : Operand}
variable {ts : List (Nat × TV)} {bs : List (Nat × TypeId × List TV)} {rs : List (Nat × xK)}
def nlv (l : List Int) : PV := match l with
 | [] => .val (.slice none 0 0)
 | x :: r => .sl ((x :: r).map eI)
def ne (l : List Int) : Option (List Int) := bif l.isEmpty then none else some l
theorem zWW {l l' : List Int} (h : ne l = some l') : PV.sl (l.map eI) = nlv l' := by
 cases l with
 | nil => cases h
 | cons x r => cases h; rfl
theorem Conv.nl (t : Nat) {l l' : List Int} (h : ne l = some l') (ht : lk ts t = some (.pv (.sl (l.map eI)))) : Conv ⟨ts, bs, rs⟩ ⟨(t, .pv (nlv l')) :: ts, bs, rs⟩ := Conv.retell t ht (by rw [zWW h])
theorem Rd.nl {w : World} {F : zR} {l : List Int} {v : Value} (h : Rd w F (nlv l) v) : Rd w F (.sl (l.map eI)) v := by
 cases l with
 | nil => exact Rd.soft0 h
 | cons x r => exact h
theorem Conv.nlsl (t : Nat) {l : List Int} (ht : lk ts t = some (.pv (nlv l))) : Conv ⟨ts, bs, rs⟩ ⟨(t, .pv (.sl (l.map eI))) :: ts, bs, rs⟩ := fun w0 F0 nt g F a w hr => by
 refine ⟨g, F, ⟨hr.dfr, hr.sz, ?_, hr.bs, hr.bd, hr.bi, hr.rs, hr.rd, hr.ri, hr.rb, hr.ok, hr.ext, hr.le⟩⟩
 intro t' v hv
 simp only [yS] at hv
 by_cases he : t = t'
 ·rw [if_pos he] at hv; cases hv; subst he
  obtain ⟨u, h1, h2⟩ := hr.ts t _ ht
  exact ⟨u, h1, Rd.nl h2⟩
 ·rw [if_neg he] at hv; exact hr.ts t' v hv
theorem zTD {T T' e : TypeId} {l : List Int} (ho : o.op = .binOp .eql T x y T') (hd : o.dst = some d) (hdn : Nat.ble (d + 1) X.nt = true) (hx : evT E x = some (.pv (nlv l))) (hy : evT E y = some (.pv (.val (.slice none 0 0)))) (hT : X.P.underlying T = some (.slice e)) : GS X o E ⟨opT x ++ opT y, [], []⟩ ⟨some d, .pv (.b l.isEmpty), none, none⟩ :=
 kC hd hdn fun E1 g F a w hag hr => by
  have h1 := yR hr ((zY hag (fun t ht => List.mem_append_left _ ht)).trans hx)
  have h2 := kE hr ((zY hag (fun t ht => List.mem_append_right _ ht)).trans hy)
  cases l with
  | nil =>
   have h1 := bM h1
   exact ⟨.bool true, by simp [execOp, ho, h1, h2, eqGuard, binOp, run_equal_slice_nil _ _ _ _ _ _ hT], .val _⟩
  | cons p q =>
   generalize hv : a.eval x = v at h1
   cases h1 with
   | sl _ A n cap sz ad us hn hcap hA hsz hc hp hrr =>
    have := (hA (by rw [hn]; simp)).1
    subst this
    exact ⟨.bool false, by simp [execOp, ho, hv, h2, eqGuard, binOp, run_equal_slice_nil _ _ _ _ _ _ hT], .val _⟩
end
end
section
open Go Go.RowKit
set_option maxRecDepth 4000
attribute [local irreducible] W Ops GS GSG
def vL (n : Nat) (v0 : xO) (v1 : Int) (v2 : zC) : Option (zC) := some ((zC.mk (wr ((max 0 (wr (v2.low - v0.fall.high))) + v1)) (wr ((max 0 (wr (v2.high - v0.fall.low))) + v1))))
theorem zZS (n : Nat) (v0 : xO) (v1 : Int) (v2 : zC) {r : (zC)} (h : vL n v0 v1 v2 = some r) :
  Fun Tryz.prog 115 [.agg (yJ v0), .val (.int .i64 v1), .agg (zH v2)] (.ret (.agg (zH r))) := by
 unfold vL at h
 refine zU 26 Tryz.func115 q q q ?_
 intro w0 F0
 change W _ _ (Ev [(0, .pv (.agg (yJ v0))), (1, .pv (.i v1)), (2, .pv (.agg (zH v2)))]) _
 refine W.seq<|W.region<|ob (xB q q q q q) q q<|ob (xB q q q q q) q q<|ob (zZ q q q xA) q q<|on0<|Sq.n<|W.seq<|W.region<|ov (zG q q q q yZ) q<|ov (zE q q q q q q zL) q<|ov (zG q q q q jS) q<|ov (zG q q q q xE) q<|ov (zE q q q q q q zL) q<|ov (xH q q q q q) q<|ov (fC q q q q q) q<|vm q q q q q<|ov (zW q q q q q) q<|ov (zG q q q q xE) q<|ov (zE q q q q q q zL) q<|ov (zG q q q q jS) q<|ov (zG q q q q yZ) q<|ov (zE q q q q q q zL) q<|ov (xH q q q q q) q<|ov (fC q q q q q) q<|vm q q q q q<|ov (zW q q q q q) q<|ov (yN (cs := (zH (zC.mk (wr ((max 0 (wr (v2.low - v0.fall.high))) + v1)) (wr ((max 0 (wr (v2.high - v0.fall.low))) + v1))))) q q q xA kW q q) q<|Ops.step q (zP q q q q q q yG q q)<|on0<|Sq.n<|W.ret ?_
 obtain rfl := Option.some.inj h
 exact Fin.r q (.cons (.agg _ _ _ _ (zH (zC.mk (wr ((max 0 (wr (v2.low - v0.fall.high))) + v1)) (wr ((max 0 (wr (v2.high - v0.fall.low))) + v1)))) q q xY yG) .nil) q
def pA (n : Nat) (v0 : zC) (v1 : zC) : Option (zC) := some ((zC.mk (max v0.low v1.low) (min v0.high v1.high)))
theorem zBX (n : Nat) (v0 : zC) (v1 : zC) {r : (zC)} (h : pA n v0 v1 = some r) :
  Fun Tryz.prog 138 [.agg (zH v0), .agg (zH v1)] (.ret (.agg (zH r))) := by
 unfold pA at h
 refine zU 16 Tryz.func138 q q q ?_
 intro w0 F0
 change W _ _ (Ev [(0, .pv (.agg (zH v0))), (1, .pv (.agg (zH v1)))]) _
 refine W.seq<|W.region<|ob (xB q q q q q) q q<|ob (xB q q q q q) q q<|ob (zZ q q q xA) q q<|on0<|Sq.n<|W.seq<|W.region<|ov (zG q q q q yZ) q<|ov (zE q q q q q q zL) q<|ov (zG q q q q yZ) q<|ov (zE q q q q q q zL) q<|ov (fC q q q q q) q<|ov (zG q q q q xE) q<|ov (zE q q q q q q zL) q<|ov (zG q q q q xE) q<|ov (zE q q q q q q zL) q<|ov (pG q q q q q) q<|ov (yN (cs := (zH (zC.mk (max v0.low v1.low) (min v0.high v1.high)))) q q q xA kW q q) q<|Ops.step q (zP q q q q q q yG q q)<|on0<|Sq.n<|W.ret ?_
 obtain rfl := Option.some.inj h
 exact Fin.r q (.cons (.agg _ _ _ _ (zH (zC.mk (max v0.low v1.low) (min v0.high v1.high))) q q xY yG) .nil) q
def lE (v0 : xO) (v1 : Int) (v2 : zC) (v101 : Int) : Option (zC) := some ((zC.mk v101 (wr ((wr (v2.high - v1)) + v0.fall.high))))
def vH (n : Nat) (v0 : xO) (v1 : Int) (v2 : zC) : Option (zC) := bif (decide (v1 < v2.low)) then ( lE v0 v1 v2 (wr ((wr (v2.low - v1)) + v0.fall.low)) ) else ( lE v0 v1 v2 0 )
theorem zZH (n : Nat) (v0 : xO) (v1 : Int) (v2 : zC) {r : (zC)} (h : vH n v0 v1 v2 = some r) :
  Fun Tryz.prog 142 [.agg (yJ v0), .val (.int .i64 v1), .agg (zH v2)] (.ret (.agg (zH r))) := by
 unfold vH at h
 refine zU 30 Tryz.func142 q q q ?_
 intro w0 F0
 change W _ _ (Ev [(0, .pv (.agg (yJ v0))), (1, .pv (.i v1)), (2, .pv (.agg (zH v2)))]) _
 refine W.seq<|W.region<|ob (xB q q q q q) q q<|ob (xB q q q q q) q q<|ob (zZ q q q xA) q q<|on0<|Sq.n<|W.seq<|W.region<|va q q q q q<|on0<|Sq.n<|W.seqJ (σ := Int) (fun s => (⟨[(1, .pv (.i v1)), (3, .box 3 0), (5, .box 5 0), (6, .box 6 0), (7, .pv (.i s))], [(3, 137, [.pv (.i v0.strength.low), .pv (.i v0.strength.high), .pv (.i v0.fall.low), .pv (.i v0.fall.high)]), (5, 57, [.pv (.i v2.low), .pv (.i v2.high)]), (6, 57, [.pv (.i 0), .pv (.i 0)])], []⟩ : Env)) (fun s => lE v0 v1 v2 s = some r) ?_ ?_
 ·refine W.seq<|W.region<|ov (zG q q q q yZ) q<|ov (zE q q q q q q zL) q<|vm q q q q q<|ov (gR q q q q q) q<|on0<|Sq.n<|W.cond (b := (decide (v1 < v2.low))) q (fun hc => ?_) (fun hc => ?_)
  ·have h := zI h hc
   refine W.region<|ov (zG q q q q yZ) q<|ov (zE q q q q q q zL) q<|vm q q q q q<|ov (xH q q q q q) q<|ov (zG q q q q jS) q<|ov (zG q q q q yZ) q<|ov (zE q q q q q q zL) q<|ov (zW q q q q q) q<|va q q q q q<|on0<|Sq.n<|⟨wr ((wr (v2.low - v1)) + v0.fall.low), h, zF ⟨q, q, q, q, q, trivial⟩ ⟨q, q, q, trivial⟩ trivial q⟩
  ·have h := zJ h hc
   refine W.skip<|Sq.n<|⟨0, h, zF ⟨q, q, q, q, q, trivial⟩ ⟨q, q, q, trivial⟩ trivial q⟩
 ·rintro v101 h
  change lE v0 v1 v2 v101 = some r at h
  unfold lE at h
  change W _ _ (⟨[(1, .pv (.i v1)), (3, .box 3 0), (5, .box 5 0), (6, .box 6 0), (7, .pv (.i v101))], [(3, 137, [.pv (.i v0.strength.low), .pv (.i v0.strength.high), .pv (.i v0.fall.low), .pv (.i v0.fall.high)]), (5, 57, [.pv (.i v2.low), .pv (.i v2.high)]), (6, 57, [.pv (.i 0), .pv (.i 0)])], []⟩ : Env) _
  refine W.seq<|W.region<|vm q q q q q<|ov (zG q q q q xE) q<|ov (zE q q q q q q zL) q<|vm q q q q q<|ov (xH q q q q q) q<|ov (zG q q q q jS) q<|ov (zG q q q q xE) q<|ov (zE q q q q q q zL) q<|ov (zW q q q q q) q<|ov (yN (cs := (zH (zC.mk v101 (wr ((wr (v2.high - v1)) + v0.fall.high))))) q q q xA kW q q) q<|Ops.step q (zP q q q q q q yG q q)<|on0<|Sq.n<|W.ret ?_
  obtain rfl := Option.some.inj h
  exact Fin.r q (.cons (.agg _ _ _ _ (zH (zC.mk v101 (wr ((wr (v2.high - v1)) + v0.fall.high)))) q q xY yG) .nil) q
def cJ (v0 : (List zC)) (v1 : Bool) : Nat → Int → (List Int) → Option ((List Int))
| 0, _, _ => none
| k1 + 1, v111, v112 => bif (decide (v111 < (v0.length : Int))) then ( (ix v0 v111).bind fun v117 => bif v1 then ( (ix v0 v111).bind fun v118 => (app v112 ([v118.high])).bind fun v119 => (cJ v0 v1 k1) (wr (v111 + 1)) v119 ) else ( (app v112 ([v117.low])).bind fun v120 => (cJ v0 v1 k1) (wr (v111 + 1)) v120 ) ) else ( some (v112) )
def uA (n : Nat) (v0 : (List zC)) (v1 : Bool) : Option ((List Int)) := cJ v0 v1 n 0 []
theorem zUT (n : Nat) (v0 : (List zC)) (v1 : Bool) {r : ((List Int))} (h : uA n v0 v1 = some r) :
  Fun Tryz.prog 73 [.sl (v0.map zH), .b v1] (.ret (.sl (r.map eI))) := by
 unfold uA at h
 refine zU 30 Tryz.func73 q q q ?_
 intro w0 F0
 change W _ _ (Ev [(0, .pv (.sl (List.map zH v0))), (1, .pv (.b v1))]) _
 refine W.seq<|W.region<|va q q q q q<|on0<|Sq.n<|W.seq<|W.region<|va q q q q q<|on0<|Sq.n<|W.seq<|W.seq<|W.region<|va q q q q q<|on0<|Sq.n<|W.block<|W.conv (Conv.nilrow 5 28 3 1 q q)<|W.loop (σ := Nat × Int × (List Int)) (fun s => (⟨[(0, .pv (.sl (List.map zH v0))), (1, .pv (.b v1)), (5, .row 28), (6, .pv (.i s.2.1))], [], [(28, ⟨3, 1, List.map eI s.2.2⟩)]⟩ : Env)) (fun s => cJ v0 v1 s.1 s.2.1 s.2.2 = some r) (fun s => s.1) (n, 0, []) h (zF ⟨q, q, q, q, trivial⟩ trivial ⟨q, trivial⟩ q) ?_
 rintro ⟨k1, v111, v112⟩ h
 change cJ v0 v1 k1 v111 v112 = some r at h
 rcases k1 with _ | k1
 ·rw [cJ] at h
  cases h
 ·rw [cJ] at h
  change W _ _ (⟨[(0, .pv (.sl (List.map zH v0))), (1, .pv (.b v1)), (5, .row 28), (6, .pv (.i v111))], [], [(28, ⟨3, 1, List.map eI v112⟩)]⟩ : Env) _
  refine W.seq<|W.seq<|W.region<|vm q q q q q<|vm q q q q q<|ov (zM (l := v0) (enc := zH) q aI q q q) q<|ov (yF q q q q q) q<|on0<|Sq.n<|W.cond (b := (decide (v111 < (v0.length : Int)))) q (fun hc => ?_) (fun hc => ?_)
  ·have h := zI h hc
   refine W.skip<|Sq.n<|W.seq<|W.block<|W.seq<|W.region<|vm q q q q q<|vm q q q q q ?_
   obtain ⟨v117, e117, h⟩ := bind_some h
   refine ov (zT (l := v0) (enc := zH) e117 q q q q q kF q) q<|ov (yB q q q q yZ q) q<|ov (zK q q q q q zL) q<|va q q q q q<|on0<|Sq.n<|W.seq<|W.seq<|W.region<|vm q q q q q<|on0<|Sq.n<|W.cond (b := v1) q (fun hc => ?_) (fun hc => ?_)
   ·have h := zI h hc
    refine W.region<|vm q q q q q<|vm q q q q q ?_
    obtain ⟨v118, e118, h⟩ := bind_some h
    refine ov (zT (l := v0) (enc := zH) e118 q q q q q kF q) q<|ov (yB q q q q xE q) q<|ov (zK q q q q q zL) q<|va q q q q q<|on0<|Sq.n<|W.region<|vm q q q q q<|vm q q q q q<|Ops.r (zQ (cs := [.val (.int .i64 v118.high)]) (es := List.map eI [v118.high]) q q q yH ⟨_, jN⟩ q q q q q q) q q ?_
    obtain ⟨v119, e119, h⟩ := bind_some h
    exact Ops.step q (xJ (enc := eI) e119 q q q q q q q q cZ (fun _ => q))<|va q q q q q<|on0<|Bl.n<|Sq.n<|W.region<|vm q q q q q<|ov (zW q q q q q) q<|va q q q q q<|on0<|Sq.n<|⟨(k1, wr (v111 + 1), v119), h, Nat.lt_succ_self _, zF ⟨q, q, q, q, trivial⟩ trivial ⟨q, trivial⟩ q⟩
   ·have h := zJ h hc
    refine W.skip<|Sq.n<|W.region<|vm q q q q q<|vm q q q q q<|Ops.r (zQ (cs := [.val (.int .i64 v117.low)]) (es := List.map eI [v117.low]) q q q yH ⟨_, jN⟩ q q q q q q) q q ?_
    obtain ⟨v120, e120, h⟩ := bind_some h
    exact Ops.step q (xJ (enc := eI) e120 q q q q q q q q cZ (fun _ => q))<|va q q q q q<|on0<|Bl.n<|Sq.n<|W.region<|vm q q q q q<|ov (zW q q q q q) q<|va q q q q q<|on0<|Sq.n<|⟨(k1, wr (v111 + 1), v120), h, Nat.lt_succ_self _, zF ⟨q, q, q, q, trivial⟩ trivial ⟨q, trivial⟩ q⟩
  ·have h := zJ h hc
   refine W.exit<|Sq.e<|Sq.e<|Bl.e<|Sq.n<|W.seq<|W.region<|vm q q q q q<|va q q q q q<|on0<|Sq.n<|W.share (k := 28) q<|W.ret ?_
   obtain rfl := Option.some.inj h
   exact Fin.r q (.cons (.tmp _ _ q) .nil) q
def aN (v0 : yI) (v1 : (List Int)) (v2 : Int) : Nat → Int → Int → Int → Option (bF)
| 0, _, _, _ => none
| k1 + 1, v105, v106, v107 => bif (decide (v107 < v2)) then ( (ix v1 v107).bind fun v112 => (quo .i64 (wr (v112 * v0.polish)) 100).bind fun v113 => (ix v1 v107).bind fun v114 => (quo .i64 (wr (v114 * v0.eat)) 100).bind fun v115 => (aN v0 v1 v2 k1) (wr (v105 - v113)) (wr (v106 - v115)) (wr (v107 + 1)) ) else ( some ((bF.mk (max 0 v105) (max 0 v106))) )
def oZ (n : Nat) (v0 : yI) (v1 : (List Int)) (v2 : Int) : Option (bF) := aN v0 v1 v2 n v0.rough v0.thick 0
theorem zPA (n : Nat) (v0 : yI) (v1 : (List Int)) (v2 : Int) {r : (bF)} (h : oZ n v0 v1 v2 = some r) :
  Fun Tryz.prog 140 [.agg (zX v0), .sl (v1.map eI), .val (.int .i64 v2)] (.ret (.agg (qH r))) := by
 unfold oZ at h
 refine zU 44 Tryz.func140 q q q ?_
 intro w0 F0
 change W _ _ (Ev [(0, .pv (.agg (zX v0))), (1, .pv (.sl (List.map eI v1))), (2, .pv (.i v2))]) _
 refine W.seq<|W.region<|ob (xB q q q q q) q q<|ob (zZ q q q sU) q q<|on0<|Sq.n<|W.seq<|W.draw (m := 5) Checked.mixed (Pre.v (GSG.of q (zG q q q q oG)) ((Pre.v (GSG.of q (zE q q q q q q zL)) ((Pre.v (GSG.of q (zG q q q q oE)) ((Pre.v (GSG.of q (zE q q q q q q zL)) ((Pre.v (GSG.of q (yC q q q q)) (Pre.nil _)))))))))) (by kernel_rfl)<|va q q q q q<|on0<|Sq.n<|W.seq<|W.seq<|W.region<|va q q q q q<|on0<|Sq.n<|W.block<|W.loop (σ := Nat × Int × Int × Int) (fun s => (⟨[(1, .pv (.sl (List.map eI v1))), (2, .pv (.i v2)), (3, .box 3 0), (6, .box 6 0), (7, .pv (.i s.2.1)), (8, .pv (.i s.2.2.1)), (9, .pv (.i s.2.2.2))], [(3, 67, [.pv (.i v0.rough), .pv (.i v0.goal), .pv (.i v0.thick), .pv (.i v0.least), .pv (.i v0.polish), .pv (.i v0.eat)]), (6, 69, [.pv (.i 0), .pv (.i 0)])], []⟩ : Env)) (fun s => aN v0 v1 v2 s.1 s.2.1 s.2.2.1 s.2.2.2 = some r) (fun s => s.1) (n, v0.rough, v0.thick, 0) h (zF ⟨q, q, q, q, q, q, q, trivial⟩ ⟨q, q, trivial⟩ trivial q) ?_
 rintro ⟨k1, v105, v106, v107⟩ h
 change aN v0 v1 v2 k1 v105 v106 v107 = some r at h
 rcases k1 with _ | k1
 ·rw [aN] at h
  cases h
 ·rw [aN] at h
  change W _ _ (⟨[(1, .pv (.sl (List.map eI v1))), (2, .pv (.i v2)), (3, .box 3 0), (6, .box 6 0), (7, .pv (.i v105)), (8, .pv (.i v106)), (9, .pv (.i v107))], [(3, 67, [.pv (.i v0.rough), .pv (.i v0.goal), .pv (.i v0.thick), .pv (.i v0.least), .pv (.i v0.polish), .pv (.i v0.eat)]), (6, 69, [.pv (.i 0), .pv (.i 0)])], []⟩ : Env) _
  refine W.seq<|W.seq<|W.region<|vm q q q q q<|vm q q q q q<|ov (yF q q q q q) q<|on0<|Sq.n<|W.cond (b := (decide (v107 < v2))) q (fun hc => ?_) (fun hc => ?_)
  ·have h := zI h hc
   refine W.skip<|Sq.n<|W.seq<|W.block ?_
   obtain ⟨v112, e112, h⟩ := bind_some h
   obtain ⟨v113, e113, h⟩ := bind_some h
   obtain ⟨v114, e114, h⟩ := bind_some h
   obtain ⟨v115, e115, h⟩ := bind_some h
   exact W.draw (m := 21) Checked.mixed (Pre.v (GSG.of q (zA q q q q)) ((Pre.v (GSG.of q (zA q q q q)) ((Pre.v (GSG.of q (zA q q q q)) ((Pre.v (GSG.of q (zT (l := v1) (enc := eI) e112 q q q q q yH q)) ((Pre.v (GSG.of q (zK q q q q q zL)) ((Pre.v (GSG.of q (zG q q q q oC)) ((Pre.v (GSG.of q (zE q q q q q q zL)) ((Pre.v (GSG.of q (iV q q q q q)) ((Pre.v (GSG.of q (eU e113 q q q q q)) ((Pre.v (GSG.of q (xH q q q q q)) ((Pre.v (GSG.of q (zA q q q q)) ((Pre.v (GSG.of q (zA q q q q)) ((Pre.v (GSG.of q (zA q q q q)) ((Pre.v (GSG.of q (zT (l := v1) (enc := eI) e114 q q q q q yH q)) ((Pre.v (GSG.of q (zK q q q q q zL)) ((Pre.v (GSG.of q (zG q q q q oB)) ((Pre.v (GSG.of q (zE q q q q q q zL)) ((Pre.v (GSG.of q (iV q q q q q)) ((Pre.v (GSG.of q (eU e115 q q q q q)) ((Pre.v (GSG.of q (xH q q q q q)) ((Pre.v (GSG.of q (yC q q q q)) (Pre.nil _)))))))))))))))))))))))))))))))))))))))))) (by kernel_rfl)<|va q q q q q<|on0<|Bl.n<|Sq.n<|W.region<|vm q q q q q<|ov (zW q q q q q) q<|va q q q q q<|on0<|Sq.n<|⟨(k1, wr (v105 - v113), wr (v106 - v115), wr (v107 + 1)), h, Nat.lt_succ_self _, zF ⟨q, q, q, q, q, q, q, trivial⟩ ⟨q, q, trivial⟩ trivial q⟩
  ·have h := zJ h hc
   refine W.exit<|Sq.e<|Sq.e<|Bl.e<|Sq.n<|W.seq<|W.region<|vm q q q q q<|ov (fC q q q q q) q<|vm q q q q q<|ov (fC q q q q q) q<|ov (yN (cs := (qH (bF.mk (max 0 v105) (max 0 v106)))) q q q sU zNI q q) q<|Ops.step q (zP q q q q q q oY q q)<|on0<|Sq.n<|W.ret ?_
   obtain rfl := Option.some.inj h
   exact Fin.r q (.cons (.agg _ _ _ _ (qH (bF.mk (max 0 v105) (max 0 v106))) q q zPN oY) .nil) q
end
section
open Go Go.RowKit
set_option maxRecDepth 4000
attribute [local irreducible] W Ops GS GSG
def dZ (v0 : (List Int)) : Nat → Int → Int → Option (Int)
| 0, _, _ => none
| k1 + 1, v102, v103 => bif (decide (v103 < (v0.length : Int))) then ( (ix v0 v103).bind fun v105 => (dZ v0 k1) (max v102 (wr (v105 + 1))) (wr (v103 + 1)) ) else ( some (v102) )
def qT (n : Nat) (v0 : (List Int)) : Option (Int) := dZ v0 n 0 0
theorem zET (n : Nat) (v0 : (List Int)) {r : (Int)} (h : qT n v0 = some r) :
  Fun Tryz.prog 59 [.sl (v0.map eI)] (.ret (.val (.int .i64 r))) := by
 unfold qT at h
 refine zU 19 Tryz.func59 q q q ?_
 intro w0 F0
 change W _ _ (Ev [(0, .pv (.sl (List.map eI v0)))]) _
 refine W.seq<|W.region<|va q q q q q<|on0<|Sq.n<|W.seq<|W.region<|va q q q q q<|on0<|Sq.n<|W.seq<|W.seq<|W.region<|va q q q q q<|on0<|Sq.n<|W.block<|W.loop (σ := Nat × Int × Int) (fun s => (Ev [(0, .pv (.sl (List.map eI v0))), (3, .pv (.i s.2.1)), (4, .pv (.i s.2.2))])) (fun s => dZ v0 s.1 s.2.1 s.2.2 = some r) (fun s => s.1) (n, 0, 0) h (zF ⟨q, q, q, trivial⟩ trivial trivial q) ?_
 rintro ⟨k1, v102, v103⟩ h
 change dZ v0 k1 v102 v103 = some r at h
 rcases k1 with _ | k1
 ·rw [dZ] at h
  cases h
 ·rw [dZ] at h
  change W _ _ (Ev [(0, .pv (.sl (List.map eI v0))), (3, .pv (.i v102)), (4, .pv (.i v103))]) _
  refine W.seq<|W.seq<|W.region<|vm q q q q q<|vm q q q q q<|ov (zM (l := v0) (enc := eI) q xR q q q) q<|ov (yF q q q q q) q<|on0<|Sq.n<|W.cond (b := (decide (v103 < (v0.length : Int)))) q (fun hc => ?_) (fun hc => ?_)
  ·have h := zI h hc
   refine W.skip<|Sq.n<|W.seq<|W.block<|W.region<|vm q q q q q<|vm q q q q q<|vm q q q q q ?_
   obtain ⟨v105, e105, h⟩ := bind_some h
   exact ov (zT (l := v0) (enc := eI) e105 q q q q q yH q) q<|ov (zK q q q q q zL) q<|ov (zW q q q q q) q<|ov (fC q q q q q) q<|va q q q q q<|on0<|Bl.n<|Sq.n<|W.region<|vm q q q q q<|ov (zW q q q q q) q<|va q q q q q<|on0<|Sq.n<|⟨(k1, max v102 (wr (v105 + 1)), wr (v103 + 1)), h, Nat.lt_succ_self _, zF ⟨q, q, q, trivial⟩ trivial trivial q⟩
  ·have h := zJ h hc
   refine W.exit<|Sq.e<|Sq.e<|Bl.e<|Sq.n<|W.seq<|W.region<|vm q q q q q<|va q q q q q<|on0<|Sq.n<|W.ret ?_
   obtain rfl := Option.some.inj h
   exact Fin.r q (.cons (.tmp _ _ q) .nil) q
def aP (v0 : (List zC)) : Nat → Int → Option (Bool)
| 0, _ => none
| k1 + 1, v103 => bif (decide (v103 < (v0.length : Int))) then ( (ix v0 v103).bind fun v106 => (ix v0 v103).bind fun v107 => bif (decide (v107.high < v106.low)) then ( some (false) ) else ( (aP v0 k1) (wr (v103 + 1)) ) ) else ( some (true) )
def vJ (n : Nat) (v0 : (List zC)) : Option (Bool) := aP v0 n 0
theorem zZM (n : Nat) (v0 : (List zC)) {r : (Bool)} (h : vJ n v0 = some r) :
  Fun Tryz.prog 134 [.sl (v0.map zH)] (.ret (.b r)) := by
 unfold vJ at h
 refine zU 21 Tryz.func134 q q q ?_
 intro w0 F0
 change W _ _ (Ev [(0, .pv (.sl (List.map zH v0)))]) _
 refine W.seq<|W.region<|va q q q q q<|on0<|Sq.n<|W.seq<|W.seq<|W.region<|va q q q q q<|on0<|Sq.n<|W.block<|W.loop (σ := Nat × Int) (fun s => (Ev [(0, .pv (.sl (List.map zH v0))), (3, .pv (.i s.2))])) (fun s => aP v0 s.1 s.2 = some r) (fun s => s.1) (n, 0) h (zF ⟨q, q, trivial⟩ trivial trivial q) ?_
 rintro ⟨k1, v103⟩ h
 change aP v0 k1 v103 = some r at h
 rcases k1 with _ | k1
 ·rw [aP] at h
  cases h
 ·rw [aP] at h
  change W _ _ (Ev [(0, .pv (.sl (List.map zH v0))), (3, .pv (.i v103))]) _
  refine W.seq<|W.seq<|W.region<|vm q q q q q<|vm q q q q q<|ov (zM (l := v0) (enc := zH) q aI q q q) q<|ov (yF q q q q q) q<|on0<|Sq.n<|W.cond (b := (decide (v103 < (v0.length : Int)))) q (fun hc => ?_) (fun hc => ?_)
  ·have h := zI h hc
   refine W.skip<|Sq.n<|W.seq<|W.block<|W.seq ?_
   obtain ⟨v106, e106, h⟩ := bind_some h
   obtain ⟨v107, e107, h⟩ := bind_some h
   refine W.draw (m := 10) Checked.mixed (Pre.v (GSG.of q (zA q q q q)) ((Pre.v (GSG.of q (zA q q q q)) ((Pre.v (GSG.of q (zT (l := v0) (enc := zH) e106 q q q q q kF q)) ((Pre.v (GSG.of q (yB q q q q yZ q)) ((Pre.v (GSG.of q (zK q q q q q zL)) ((Pre.v (GSG.of q (zA q q q q)) ((Pre.v (GSG.of q (zA q q q q)) ((Pre.v (GSG.of q (zT (l := v0) (enc := zH) e107 q q q q q kF q)) ((Pre.v (GSG.of q (yB q q q q xE q)) ((Pre.v (GSG.of q (zK q q q q q zL)) (Pre.nil _)))))))))))))))))))) (by kernel_rfl)<|ov (gR q q q q q) q<|on0<|Sq.n<|W.cond (b := (decide (v107.high < v106.low))) q (fun hc => ?_) (fun hc => ?_)
   ·have h := zI h hc
    refine W.seq<|W.region<|va q q q q q<|on0<|Sq.n<|W.ret<|Bl.r<|Sq.r<|Sq.r<|Bl.r<|Sq.r ?_
    obtain rfl := Option.some.inj h
    exact Fin.r q (.cons (.tmp _ _ q) .nil) q
   ·have h := zJ h hc
    exact W.skip<|Bl.n<|Sq.n<|W.region<|vm q q q q q<|ov (zW q q q q q) q<|va q q q q q<|on0<|Sq.n<|⟨(k1, wr (v103 + 1)), h, Nat.lt_succ_self _, zF ⟨q, q, trivial⟩ trivial trivial q⟩
  ·have h := zJ h hc
   refine W.exit<|Sq.e<|Sq.e<|Bl.e<|Sq.n<|W.seq<|W.region<|va q q q q q<|on0<|Sq.n<|W.ret ?_
   obtain rfl := Option.some.inj h
   exact Fin.r q (.cons (.tmp _ _ q) .nil) q
def lF (K1 : Int → (List (List Int)) → Option ((List (List Int)))) (v132 : Int) (v146 : (List (List Int))) : Nat → Int → (List (List Int)) → Option ((List (List Int)))
| 0, _, _ => none
| k5 + 1, v150, v151 => bif (decide (v150 < (v146.length : Int))) then ( (ix v146 v150).bind fun v155 => (app ([v132]) v155).bind fun v156 => (app v151 ([v156])).bind fun v157 => (lF K1 v132 v146 k5) (wr (v150 + 1)) v157 ) else ( K1 (wr (v132 + 1)) v151 )
def dH (n : Nat) (K_s : Int → Int → Int → Option ((List (List Int)))) (v1 : Int) (v2 : Int) : Nat → Int → (List (List Int)) → Option ((List (List Int)))
| 0, _, _ => none
| k1 + 1, v132, v133 => bif (decide (v132 < v1)) then ( (K_s (wr (v132 + 1)) v1 (wr (v2 - 1))).bind fun v146 => lF (dH n K_s v1 v2 k1) v132 v146 n 0 v133 ) else ( some (v133) )
def eJ : Nat → Int → Int → Int → Option ((List (List Int)))
| 0, _, _, _ => none
| n + 1, v0, v1, v2 => bif (decide (v2 = 0)) then ( some ([[]]) ) else ( dH n (eJ n) v1 v2 n v0 [] )
theorem zZL (n : Nat) : ∀ (v0 : Int) (v1 : Int) (v2 : Int) {r : ((List (List Int)))}, eJ n v0 v1 v2 = some r →
  Fun Tryz.prog 135 [.val (.int .i64 v0), .val (.int .i64 v1), .val (.int .i64 v2)] (.ret (.sl (r.map (eL eI)))) := by
 induction n with
 | zero => intro v0 v1 v2 r h; rw [eJ] at h; cases h
 | succ n ih =>
  intro v0 v1 v2 r h
  rw [eJ] at h
  refine zU 43 Tryz.func135 q q q ?_
  intro w0 F0
  change W _ _ (Ev [(0, .pv (.i v0)), (1, .pv (.i v1)), (2, .pv (.i v2))]) _
  refine W.seq<|W.region<|va q q q q q<|on0<|Sq.n<|W.seq<|W.seq<|W.region<|vm q q q q q<|ov (kR q q q q q) q<|on0<|Sq.n<|W.cond (b := (decide (v2 = 0))) q (fun hc => ?_) (fun hc => ?_)
  ·have h := zI h hc
   refine W.seq<|W.region<|Ops.r (zQ (cs := [.val (.slice none 0 0)]) (es := [[.val (.slice none 0 0)]]) q q q fN ⟨_, qK⟩ q q q q q q) q q<|Ops.conv (Conv.softrow (es' := List.map (eL eI) [[]]) 13 q q)<|va q q q q q<|on0<|Sq.n<|W.share (k := 13) q<|W.ret<|Sq.r ?_
   obtain rfl := Option.some.inj h
   exact Fin.r q (.cons (.tmp _ _ q) .nil) q
  ·have h := zJ h hc
   refine W.skip<|Sq.n<|W.seq<|W.region<|va q q q q q<|on0<|Sq.n<|W.seq<|W.seq<|W.region<|vm q q q q q<|va q q q q q<|on0<|Sq.n<|W.block<|W.conv (Conv.nilrow 7 41 23 1 q q)<|W.loop (σ := Nat × Int × (List (List Int))) (fun s => (⟨[(1, .pv (.i v1)), (2, .pv (.i v2)), (7, .row 41), (8, .pv (.i s.2.1))], [], [(41, ⟨23, 1, List.map (eL eI) s.2.2⟩)]⟩ : Env)) (fun s => dH n (eJ n) v1 v2 s.1 s.2.1 s.2.2 = some r) (fun s => s.1) (n, v0, []) h (zF ⟨q, q, q, q, trivial⟩ trivial ⟨q, trivial⟩ q) ?_
   rintro ⟨k1, v132, v133⟩ h
   change dH n (eJ n) v1 v2 k1 v132 v133 = some r at h
   rcases k1 with _ | k1
   ·rw [dH] at h
    cases h
   ·rw [dH] at h
    change W _ _ (⟨[(1, .pv (.i v1)), (2, .pv (.i v2)), (7, .row 41), (8, .pv (.i v132))], [], [(41, ⟨23, 1, List.map (eL eI) v133⟩)]⟩ : Env) _
    refine W.seq<|W.seq<|W.region<|vm q q q q q<|vm q q q q q<|ov (yF q q q q q) q<|on0<|Sq.n<|W.cond (b := (decide (v132 < v1))) q (fun hc => ?_) (fun hc => ?_)
    ·have h := zI h hc
     refine W.skip<|Sq.n<|W.seq<|W.block<|W.seq<|W.region<|vm q q q q q<|ov (zW q q q q q) q<|vm q q q q q<|vm q q q q q<|ov (xH q q q q q) q ?_
     obtain ⟨v146, e146, h⟩ := bind_some h
     refine ov (zD q q q zKB q (ih _ _ _ e146)) q<|va q q q q q<|on0<|Sq.n<|W.seq<|W.region<|va q q q q q<|on0<|Sq.n<|W.block<|W.loop (σ := Nat × Int × (List (List Int))) (fun s => (⟨[(1, .pv (.i v1)), (2, .pv (.i v2)), (7, .row 41), (8, .pv (.i v132)), (9, .pv (.sl (List.map (eL eI) v146))), (10, .pv (.i s.2.1))], [], [(41, ⟨23, 1, List.map (eL eI) s.2.2⟩)]⟩ : Env)) (fun s => lF (dH n (eJ n) v1 v2 k1) v132 v146 s.1 s.2.1 s.2.2 = some r) (fun s => s.1) (n, 0, v133) h (zF ⟨q, q, q, q, q, q, trivial⟩ trivial ⟨q, trivial⟩ q) ?_
     rintro ⟨k5, v150, v151⟩ h
     change lF (dH n (eJ n) v1 v2 k1) v132 v146 k5 v150 v151 = some r at h
     rcases k5 with _ | k5
     ·rw [lF] at h
      cases h
     ·rw [lF] at h
      change W _ _ (⟨[(1, .pv (.i v1)), (2, .pv (.i v2)), (7, .row 41), (8, .pv (.i v132)), (9, .pv (.sl (List.map (eL eI) v146))), (10, .pv (.i v150))], [], [(41, ⟨23, 1, List.map (eL eI) v151⟩)]⟩ : Env) _
      refine W.seq<|W.seq<|W.region<|vm q q q q q<|vm q q q q q<|ov (zM (l := v146) (enc := (eL eI)) q pS q q q) q<|ov (yF q q q q q) q<|on0<|Sq.n<|W.cond (b := (decide (v150 < (v146.length : Int)))) q (fun hc => ?_) (fun hc => ?_)
      ·have h := zI h hc
       refine W.skip<|Sq.n<|W.seq<|W.block<|W.region<|vm q q q q q<|vm q q q q q<|Ops.r (zQ (cs := [.val (.int .i64 v132)]) (es := List.map eI [v132]) q q q yH ⟨_, jN⟩ q q q q q q) q q<|vm q q q q q<|vm q q q q q ?_
       obtain ⟨v155, e155, h⟩ := bind_some h
       refine ov (zT (l := v146) (enc := (eL eI)) e155 q q q q q fN q) q<|ov (zK q q q q q kS) q ?_
       obtain ⟨v156, e156, h⟩ := bind_some h
       refine Ops.step q (zAO (enc := eI) e156 q q q q q q cZ (fun _ => q) (fun _ => q))<|Ops.share (k := 34) q<|Ops.r (zQ (cs := [.sl (List.map eI v156)]) (es := List.map (eL eI) [v156]) q q q fN ⟨_, qK⟩ q q q q q q) q q ?_
       obtain ⟨v157, e157, h⟩ := bind_some h
       exact Ops.step q (xJ (enc := (eL eI)) e157 q q q q q q q q sM (fun _ => q))<|va q q q q q<|on0<|Bl.n<|Sq.n<|W.region<|vm q q q q q<|ov (zW q q q q q) q<|va q q q q q<|on0<|Sq.n<|⟨(k5, wr (v150 + 1), v157), h, Nat.lt_succ_self _, zF ⟨q, q, q, q, q, q, trivial⟩ trivial ⟨q, trivial⟩ q⟩
      ·have h := zJ h hc
       exact W.exit<|Sq.e<|Sq.e<|Bl.e<|Bl.n<|Sq.n<|W.region<|vm q q q q q<|ov (zW q q q q q) q<|va q q q q q<|on0<|Sq.n<|⟨(k1, wr (v132 + 1), v151), h, Nat.lt_succ_self _, zF ⟨q, q, q, q, trivial⟩ trivial ⟨q, trivial⟩ q⟩
    ·have h := zJ h hc
     refine W.exit<|Sq.e<|Sq.e<|Bl.e<|Sq.n<|W.seq<|W.region<|vm q q q q q<|va q q q q q<|on0<|Sq.n<|W.share (k := 41) q<|W.ret ?_
     obtain rfl := Option.some.inj h
     exact Fin.r q (.cons (.tmp _ _ q) .nil) q
end
section
open Go Go.RowKit
set_option maxRecDepth 4000
attribute [local irreducible] W Ops GS GSG
def zCR (n : Nat) (v0 : Int) (v1 : Int) : Option (Bool) := (tI n v1).bind fun v101 => (quo .i64 v0 v101).bind fun v102 => (rem .i64 v102 2).bind fun v103 => some ((decide (v103 = 1)))
theorem yBF (n : Nat) (v0 : Int) (v1 : Int) {r : (Bool)} (h : zCR n v0 v1 = some r) :
  Fun Tryz.prog 72 [.val (.int .i64 v0), .val (.int .i64 v1)] (.ret (.b r)) := by
 unfold zCR at h
 refine zU 11 Tryz.func72 q q q ?_
 intro w0 F0
 change W _ _ (Ev [(0, .pv (.i v0)), (1, .pv (.i v1))]) _
 refine W.seq<|W.region<|va q q q q q<|on0<|Sq.n<|W.seq<|W.region<|vm q q q q q<|vm q q q q q ?_
 obtain ⟨v101, e101, h⟩ := bind_some h
 refine ov (zD q q q wJ q (zCA _ _ e101)) q ?_
 obtain ⟨v102, e102, h⟩ := bind_some h
 refine ov (eU e102 q q q q q) q ?_
 obtain ⟨v103, e103, h⟩ := bind_some h
 refine ov (iU e103 q q q q q) q<|ov (kR q q q q q) q<|va q q q q q<|on0<|Sq.n<|W.ret ?_
 obtain rfl := Option.some.inj h
 exact Fin.r q (.cons (.tmp _ _ q) .nil) q
def nK (n : Nat) (K1 : Int → zC → Option (zC)) (v0 : (List zC)) (v105 : Int) (v106 : zC) (v112 : Bool) : Option (zC) := bif v112 then ( (ix v0 v105).bind fun v113 => (pA n v106 v113).bind fun v114 => K1 (wr (v105 + 1)) v114 ) else ( K1 (wr (v105 + 1)) v106 )
def bH (n : Nat) (v0 : (List zC)) (v1 : (List Int)) (v2 : Int) : Nat → Int → zC → Option (zC)
| 0, _, _ => none
| k1 + 1, v105, v106 => bif (decide (v105 < (v0.length : Int))) then ( bif (decide ((v1.length : Int) = 0)) then ( nK n (bH n v0 v1 v2 k1) v0 v105 v106 true ) else ( (ix v1 v105).bind fun v111 => nK n (bH n v0 v1 v2 k1) v0 v105 v106 (decide (v111 = v2)) ) ) else ( some (v106) )
def zCS (n : Nat) (v0 : (List zC)) (v1 : (List Int)) (v2 : Int) : Option (zC) := bH n v0 v1 v2 n 0 (zC.mk 0 12)
theorem yBH (n : Nat) (v0 : (List zC)) (v1 : (List Int)) (v2 : Int) {r : (zC)} (h : zCS n v0 v1 v2 = some r) :
  Fun Tryz.prog 62 [.sl (v0.map zH), .sl (v1.map eI), .val (.int .i64 v2)] (.ret (.agg (zH r))) := by
 unfold zCS at h
 refine zU 34 Tryz.func62 q q q ?_
 intro w0 F0
 change W _ _ (Ev [(0, .pv (.sl (List.map zH v0))), (1, .pv (.sl (List.map eI v1))), (2, .pv (.i v2))]) _
 refine W.seq<|W.region<|ob (zZ q q q xA) q q<|on0<|Sq.n<|W.seq<|W.region<|ov (yN (cs := (zH (zC.mk 0 12))) q q q xA kW q q) q<|ob (zZ q q q xA) q q<|Ops.step q (zP q q q q q q yG q q)<|on0<|Sq.n<|W.seq<|W.seq<|W.region<|va q q q q q<|on0<|Sq.n<|W.block<|W.loop (σ := Nat × Int × zC) (fun s => (⟨[(0, .pv (.sl (List.map zH v0))), (1, .pv (.sl (List.map eI v1))), (2, .pv (.i v2)), (6, .box 6 0), (7, .box 7 0), (8, .pv (.i s.2.1))], [(6, 57, [.pv (.i 0), .pv (.i 0)]), (7, 57, [.pv (.i s.2.2.low), .pv (.i s.2.2.high)])], []⟩ : Env)) (fun s => bH n v0 v1 v2 s.1 s.2.1 s.2.2 = some r) (fun s => s.1) (n, 0, (zC.mk 0 12)) h (zF ⟨q, q, q, q, q, q, trivial⟩ ⟨q, q, trivial⟩ trivial q) ?_
 rintro ⟨k1, v105, v106⟩ h
 change bH n v0 v1 v2 k1 v105 v106 = some r at h
 rcases k1 with _ | k1
 ·rw [bH] at h
  cases h
 ·rw [bH] at h
  change W _ _ (⟨[(0, .pv (.sl (List.map zH v0))), (1, .pv (.sl (List.map eI v1))), (2, .pv (.i v2)), (6, .box 6 0), (7, .box 7 0), (8, .pv (.i v105))], [(6, 57, [.pv (.i 0), .pv (.i 0)]), (7, 57, [.pv (.i v106.low), .pv (.i v106.high)])], []⟩ : Env) _
  refine W.seq<|W.seq<|W.region<|vm q q q q q<|vm q q q q q<|ov (zM (l := v0) (enc := zH) q aI q q q) q<|ov (yF q q q q q) q<|on0<|Sq.n<|W.cond (b := (decide (v105 < (v0.length : Int)))) q (fun hc => ?_) (fun hc => ?_)
  ·have h := zI h hc
   refine W.skip<|Sq.n<|W.seq<|W.block<|W.seqJ (σ := Bool) (fun s => (⟨[(0, .pv (.sl (List.map zH v0))), (1, .pv (.sl (List.map eI v1))), (2, .pv (.i v2)), (6, .box 6 0), (7, .box 7 0), (8, .pv (.i v105)), (26, .pv (.b s))], [(6, 57, [.pv (.i 0), .pv (.i 0)]), (7, 57, [.pv (.i v106.low), .pv (.i v106.high)])], []⟩ : Env)) (fun s => nK n (bH n v0 v1 v2 k1) v0 v105 v106 s = some r) ?_ ?_
   ·refine W.region<|vm q q q q q<|ov (zM (l := v1) (enc := eI) q xR q q q) q<|ov (kR q q q q q) q<|vm q q q q q<|Ops.split 19 q (fun hb => ?_) (fun hb => ?_)
    ·have h := zI h hb
     refine o2 q q q q q q<|o2 q q q q q q<|o2 q q q q q q<|o2 q q q q q q<|o2 q q q q q q<|o2 q q q q q q<|vt q q q q q q<|on0<|Sq.n<|⟨true, h, zF ⟨q, q, q, q, q, q, q, trivial⟩ ⟨q, q, trivial⟩ trivial q⟩
    ·have h := zJ h hb
     refine on q q q<|vm q q q q q<|on q q q<|vm q q q q q<|on q q q ?_
     obtain ⟨v111, e111, h⟩ := bind_some h
     refine ov (zT (l := v1) (enc := eI) e111 q q q q q yH q) q<|on q q q<|ov (zK q q q q q zL) q<|on q q q<|vm q q q q q<|on q q q<|ov (kR q q q q q) q<|vf q q q q q q<|on0<|Sq.n<|⟨(decide (v111 = v2)), h, zF ⟨q, q, q, q, q, q, q, trivial⟩ ⟨q, q, trivial⟩ trivial q⟩
   ·rintro v112 h
    change nK n (bH n v0 v1 v2 k1) v0 v105 v106 v112 = some r at h
    unfold nK at h
    change W _ _ (⟨[(0, .pv (.sl (List.map zH v0))), (1, .pv (.sl (List.map eI v1))), (2, .pv (.i v2)), (6, .box 6 0), (7, .box 7 0), (8, .pv (.i v105)), (26, .pv (.b v112))], [(6, 57, [.pv (.i 0), .pv (.i 0)]), (7, 57, [.pv (.i v106.low), .pv (.i v106.high)])], []⟩ : Env) _
    refine W.cond (b := v112) q (fun hc => ?_) (fun hc => ?_)
    ·have h := zI h hc
     obtain ⟨v113, e113, h⟩ := bind_some h
     refine W.draw (m := 5) Checked.mixed (Pre.v (GSG.of q (zS q q q q q xY yG q q)) ((Pre.v (GSG.of q (zA q q q q)) ((Pre.v (GSG.of q (zA q q q q)) ((Pre.v (GSG.of q (zT (l := v0) (enc := zH) e113 q q q q q kF q)) ((Pre.v (GSG.of q (yX q q q q xY yG q q)) (Pre.nil _)))))))))) (by kernel_rfl) ?_
     obtain ⟨v114, e114, h⟩ := bind_some h
     exact ov (zD q q q wG q (zBX _ _ _ e114)) q<|Ops.step q (zP q q q q q q yG q q)<|on0<|Bl.n<|Sq.n<|W.region<|vm q q q q q<|ov (zW q q q q q) q<|va q q q q q<|on0<|Sq.n<|⟨(k1, wr (v105 + 1), v114), h, Nat.lt_succ_self _, zF ⟨q, q, q, q, q, q, trivial⟩ ⟨q, q, trivial⟩ trivial q⟩
    ·have h := zJ h hc
     exact W.skip<|Bl.n<|Sq.n<|W.region<|vm q q q q q<|ov (zW q q q q q) q<|va q q q q q<|on0<|Sq.n<|⟨(k1, wr (v105 + 1), v106), h, Nat.lt_succ_self _, zF ⟨q, q, q, q, q, q, trivial⟩ ⟨q, q, trivial⟩ trivial q⟩
  ·have h := zJ h hc
   refine W.exit<|Sq.e<|Sq.e<|Bl.e<|Sq.n<|W.seq<|W.region<|ov (zS q q q q q xY yG q q) q<|Ops.step q (zP q q q q q q yG q q)<|on0<|Sq.n<|W.ret ?_
   obtain rfl := Option.some.inj h
   exact Fin.r q (.cons (.agg _ _ _ _ (zH v106) q q xY yG) .nil) q
end
section
open Go Go.RowKit
set_option maxRecDepth 4000
attribute [local irreducible] W Ops GS GSG
def zBR (n : Nat) (v0 : Int) (v1 : zN) : Option (Bool) := (fG n v0 0 (wr ((v1.batches.length : Int) - 1))).bind fun v101 => some ((!v101))
theorem zZR (n : Nat) (v0 : Int) (v1 : zN) {r : (Bool)} (h : zBR n v0 v1 = some r) :
  Fun Tryz.prog 122 [.val (.int .i64 v0), .ref (yA v1)] (.ret (.b r)) := by
 unfold zBR at h
 refine zU 11 Tryz.func122 q q q ?_
 intro w0 F0
 change W _ _ (Ev [(0, .pv (.i v0)), (1, .pv (.ref [.sl (List.map yJ v1.acids), .val (.int .i64 v1.known), .val (.int .i64 v1.hours), .sl (List.map eI v1.adds), .sl (List.map yL v1.strips), .sl (List.map zX v1.batches)]))]) _
 refine W.seq<|W.region<|va q q q q q<|on0<|Sq.n<|W.seq<|W.region<|vm q q q q q<|ov (yB q q q q kG q) q<|ov (zK q q q q q jJ) q<|ov (zM (l := v1.batches) (enc := zX) q fA q q q) q<|ov (xH q q q q q) q ?_
 obtain ⟨v101, e101, h⟩ := bind_some h
 refine ov (zD q q q kB q (kP _ _ _ _ e101)) q<|ov (yW q q q q) q<|va q q q q q<|on0<|Sq.n<|W.ret ?_
 obtain rfl := Option.some.inj h
 exact Fin.r q (.cons (.tmp _ _ q) .nil) q
def eB (n : Nat) (v0 : zN) (v1 : (List Int)) : Nat → Int → Option (Bool)
| 0, _ => none
| k1 + 1, v103 => bif (decide (v103 < (v1.length : Int))) then ( (ix v1 v103).bind fun v106 => (fO n v106 0 (wr ((v0.batches.length : Int) - 1))).bind fun v107 => bif (!v107) then ( some (false) ) else ( (eB n v0 v1 k1) (wr (v103 + 1)) ) ) else ( some ((decide ((v1.length : Int) = (v0.batches.length : Int)))) )
def zCW (n : Nat) (v0 : zN) (v1 : (List Int)) : Option (Bool) := eB n v0 v1 (n + v1.length) 0
theorem yBM (n : Nat) (v0 : zN) (v1 : (List Int)) {r : (Bool)} (h : zCW n v0 v1 = some r) :
  Fun Tryz.prog 53 [.agg (yA v0), .sl (v1.map eI)] (.ret (.b r)) := by
 unfold zCW at h
 refine zU 28 Tryz.func53 q q q ?_
 intro w0 F0
 change W _ _ (Ev [(0, .pv (.agg (yA v0))), (1, .pv (.sl (List.map eI v1)))]) _
 refine W.seq<|W.region<|ob (xB q q q q q) q q<|va q q q q q<|on0<|Sq.n<|W.seq<|W.seq<|W.region<|va q q q q q<|on0<|Sq.n<|W.block<|W.loop (σ := Nat × Int) (fun s => (⟨[(1, .pv (.sl (List.map eI v1))), (2, .box 2 0), (5, .pv (.i s.2))], [(2, 27, (bD v0))], []⟩ : Env)) (fun s => eB n v0 v1 s.1 s.2 = some r) (fun s => s.1) (n + v1.length, 0) h (zF ⟨q, q, q, trivial⟩ ⟨q, trivial⟩ trivial q) ?_
 rintro ⟨k1, v103⟩ h
 change eB n v0 v1 k1 v103 = some r at h
 rcases k1 with _ | k1
 ·rw [eB] at h
  cases h
 ·rw [eB] at h
  change W _ _ (⟨[(1, .pv (.sl (List.map eI v1))), (2, .box 2 0), (5, .pv (.i v103))], [(2, 27, (bD v0))], []⟩ : Env) _
  refine W.seq<|W.seq<|W.region<|vm q q q q q<|vm q q q q q<|ov (zM (l := v1) (enc := eI) q xR q q q) q<|ov (yF q q q q q) q<|on0<|Sq.n<|W.cond (b := (decide (v103 < (v1.length : Int)))) q (fun hc => ?_) (fun hc => ?_)
  ·have h := zI h hc
   refine W.skip<|Sq.n<|W.seq<|W.block<|W.seq ?_
   obtain ⟨v106, e106, h⟩ := bind_some h
   refine W.draw (m := 8) Checked.mixed (Pre.v (GSG.of q (zA q q q q)) ((Pre.v (GSG.of q (zA q q q q)) ((Pre.v (GSG.of q (zT (l := v1) (enc := eI) e106 q q q q q yH q)) ((Pre.v (GSG.of q (zK q q q q q zL)) ((Pre.v (GSG.of q (zG q q q q kG)) ((Pre.v (GSG.of q (zE q q q q q q jJ)) ((Pre.v (GSG.of q (zM (l := v0.batches) (enc := zX) q fA q q q)) ((Pre.v (GSG.of q (xH q q q q q)) (Pre.nil _)))))))))))))))) (by kernel_rfl) ?_
   obtain ⟨v107, e107, h⟩ := bind_some h
   refine ov (zD q q q jX q (gU _ _ _ _ e107)) q<|ov (yW q q q q) q<|on0<|Sq.n<|W.cond (b := (!v107)) q (fun hc => ?_) (fun hc => ?_)
   ·have h := zI h hc
    refine W.seq<|W.region<|va q q q q q<|on0<|Sq.n<|W.ret<|Bl.r<|Sq.r<|Sq.r<|Bl.r<|Sq.r ?_
    obtain rfl := Option.some.inj h
    exact Fin.r q (.cons (.tmp _ _ q) .nil) q
   ·have h := zJ h hc
    exact W.skip<|Bl.n<|Sq.n<|W.region<|vm q q q q q<|ov (zW q q q q q) q<|va q q q q q<|on0<|Sq.n<|⟨(k1, wr (v103 + 1)), h, Nat.lt_succ_self _, zF ⟨q, q, q, trivial⟩ ⟨q, trivial⟩ trivial q⟩
  ·have h := zJ h hc
   refine W.exit<|Sq.e<|Sq.e<|Bl.e<|Sq.n<|W.seq<|W.region<|vm q q q q q<|ov (zM (l := v1) (enc := eI) q xR q q q) q<|ov (zG q q q q kG) q<|ov (zE q q q q q q jJ) q<|ov (zM (l := v0.batches) (enc := zX) q fA q q q) q<|ov (kR q q q q q) q<|va q q q q q<|on0<|Sq.n<|W.ret ?_
   obtain rfl := Option.some.inj h
   exact Fin.r q (.cons (.tmp _ _ q) .nil) q
def aO (n : Nat) (K1 : Int → Option (Bool)) (v0 : (List zC)) (v1 : (List Int)) (v101 : Int) : Nat → Int → Option (Bool)
| 0, _ => none
| k4 + 1, v123 => bif (decide (v123 < v101)) then ( (ix v1 v101).bind fun v129 => (ix v0 v129).bind fun v130 => (ix v1 v123).bind fun v131 => (ix v0 v131).bind fun v132 => (pA n v130 v132).bind fun v133 => bif (decide (v133.low ≤ v133.high)) then ( some (false) ) else ( (aO n K1 v0 v1 v101 k4) (wr (v123 + 1)) ) ) else ( K1 (wr (v101 + 1)) )
def fJ (n : Nat) (v0 : (List zC)) (v1 : (List Int)) : Nat → Int → Option (Bool)
| 0, _ => none
| k1 + 1, v101 => bif (decide (v101 < (v1.length : Int))) then ( aO n (fJ n v0 v1 k1) v0 v1 v101 n 0 ) else ( some (true) )
def vI (n : Nat) (v0 : (List zC)) (v1 : (List Int)) : Option (Bool) := fJ n v0 v1 n 0
theorem zZK (n : Nat) (v0 : (List zC)) (v1 : (List Int)) {r : (Bool)} (h : vI n v0 v1 = some r) :
  Fun Tryz.prog 136 [.sl (v0.map zH), .sl (v1.map eI)] (.ret (.b r)) := by
 unfold vI at h
 refine zU 39 Tryz.func136 q q q ?_
 intro w0 F0
 change W _ _ (Ev [(0, .pv (.sl (List.map zH v0))), (1, .pv (.sl (List.map eI v1)))]) _
 refine W.seq<|W.region<|va q q q q q<|on0<|Sq.n<|W.seq<|W.seq<|W.region<|va q q q q q<|on0<|Sq.n<|W.block<|W.loop (σ := Nat × Int) (fun s => (Ev [(0, .pv (.sl (List.map zH v0))), (1, .pv (.sl (List.map eI v1))), (5, .pv (.i s.2))])) (fun s => fJ n v0 v1 s.1 s.2 = some r) (fun s => s.1) (n, 0) h (zF ⟨q, q, q, trivial⟩ trivial trivial q) ?_
 rintro ⟨k1, v101⟩ h
 change fJ n v0 v1 k1 v101 = some r at h
 rcases k1 with _ | k1
 ·rw [fJ] at h
  cases h
 ·rw [fJ] at h
  change W _ _ (Ev [(0, .pv (.sl (List.map zH v0))), (1, .pv (.sl (List.map eI v1))), (5, .pv (.i v101))]) _
  refine W.seq<|W.seq<|W.region<|vm q q q q q<|vm q q q q q<|ov (zM (l := v1) (enc := eI) q xR q q q) q<|ov (yF q q q q q) q<|on0<|Sq.n<|W.cond (b := (decide (v101 < (v1.length : Int)))) q (fun hc => ?_) (fun hc => ?_)
  ·have h := zI h hc
   refine W.skip<|Sq.n<|W.seq<|W.block<|W.seq<|W.region<|va q q q q q<|on0<|Sq.n<|W.block<|W.loop (σ := Nat × Int) (fun s => (Ev [(0, .pv (.sl (List.map zH v0))), (1, .pv (.sl (List.map eI v1))), (5, .pv (.i v101)), (6, .pv (.i s.2))])) (fun s => aO n (fJ n v0 v1 k1) v0 v1 v101 s.1 s.2 = some r) (fun s => s.1) (n, 0) h (zF ⟨q, q, q, q, trivial⟩ trivial trivial q) ?_
   rintro ⟨k4, v123⟩ h
   change aO n (fJ n v0 v1 k1) v0 v1 v101 k4 v123 = some r at h
   rcases k4 with _ | k4
   ·rw [aO] at h
    cases h
   ·rw [aO] at h
    change W _ _ (Ev [(0, .pv (.sl (List.map zH v0))), (1, .pv (.sl (List.map eI v1))), (5, .pv (.i v101)), (6, .pv (.i v123))]) _
    refine W.seq<|W.seq<|W.region<|vm q q q q q<|vm q q q q q<|ov (yF q q q q q) q<|on0<|Sq.n<|W.cond (b := (decide (v123 < v101))) q (fun hc => ?_) (fun hc => ?_)
    ·have h := zI h hc
     refine W.skip<|Sq.n<|W.seq<|W.block<|W.seq ?_
     obtain ⟨v129, e129, h⟩ := bind_some h
     obtain ⟨v130, e130, h⟩ := bind_some h
     obtain ⟨v131, e131, h⟩ := bind_some h
     obtain ⟨v132, e132, h⟩ := bind_some h
     obtain ⟨v133, e133, h⟩ := bind_some h
     refine W.draw (m := 16) Checked.mixed (Pre.v (GSG.of q (zA q q q q)) ((Pre.v (GSG.of q (zA q q q q)) ((Pre.v (GSG.of q (zA q q q q)) ((Pre.v (GSG.of q (zT (l := v1) (enc := eI) e129 q q q q q yH q)) ((Pre.v (GSG.of q (zK q q q q q zL)) ((Pre.v (GSG.of q (zT (l := v0) (enc := zH) e130 q q q q q kF q)) ((Pre.v (GSG.of q (yX q q q q xY yG q q)) ((Pre.v (GSG.of q (zA q q q q)) ((Pre.v (GSG.of q (zA q q q q)) ((Pre.v (GSG.of q (zA q q q q)) ((Pre.v (GSG.of q (zT (l := v1) (enc := eI) e131 q q q q q yH q)) ((Pre.v (GSG.of q (zK q q q q q zL)) ((Pre.v (GSG.of q (zT (l := v0) (enc := zH) e132 q q q q q kF q)) ((Pre.v (GSG.of q (yX q q q q xY yG q q)) ((Pre.v (GSG.of q (zD q q q wG q (zBX _ _ _ e133))) ((Pre.b (GSG.of q (zZ q q q xA)) q (Pre.nil _)))))))))))))))))))))))))))))))) (by kernel_rfl)<|Ops.step q (zP q q q q q q yG q q)<|on0<|Sq.n<|W.seq<|W.region<|ov (zG q q q q yZ) q<|ov (zE q q q q q q zL) q<|ov (zG q q q q xE) q<|ov (zE q q q q q q zL) q<|ov (jI q q q q q) q<|on0<|Sq.n<|W.cond (b := (decide (v133.low ≤ v133.high))) q (fun hc => ?_) (fun hc => ?_)
     ·have h := zI h hc
      refine W.seq<|W.region<|va q q q q q<|on0<|Sq.n<|W.ret<|Bl.r<|Sq.r<|Sq.r<|Bl.r<|Bl.r<|Sq.r<|Sq.r<|Bl.r<|Sq.r ?_
      obtain rfl := Option.some.inj h
      exact Fin.r q (.cons (.tmp _ _ q) .nil) q
     ·have h := zJ h hc
      exact W.skip<|Bl.n<|Sq.n<|W.region<|vm q q q q q<|ov (zW q q q q q) q<|va q q q q q<|on0<|Sq.n<|⟨(k4, wr (v123 + 1)), h, Nat.lt_succ_self _, zF ⟨q, q, q, q, trivial⟩ trivial trivial q⟩
    ·have h := zJ h hc
     exact W.exit<|Sq.e<|Sq.e<|Bl.e<|Bl.n<|Sq.n<|W.region<|vm q q q q q<|ov (zW q q q q q) q<|va q q q q q<|on0<|Sq.n<|⟨(k1, wr (v101 + 1)), h, Nat.lt_succ_self _, zF ⟨q, q, q, trivial⟩ trivial trivial q⟩
  ·have h := zJ h hc
   refine W.exit<|Sq.e<|Sq.e<|Bl.e<|Sq.n<|W.seq<|W.region<|va q q q q q<|on0<|Sq.n<|W.ret ?_
   obtain rfl := Option.some.inj h
   exact Fin.r q (.cons (.tmp _ _ q) .nil) q
end
section
open Go Go.RowKit
set_option maxRecDepth 4000
attribute [local irreducible] W Ops GS GSG
def cH (n : Nat) (K1 : Int → (List zC) → Option ((List zC) × Bool)) (v0 : zN) (v135 : Int) (v136 : (List zC)) : Nat → Int → zC → Option ((List zC) × Bool)
| 0, _, _ => none
| k9 + 1, v160, v161 => bif (decide (v160 < (v0.strips.length : Int))) then ( (ix v0.strips v160).bind fun v164 => bif (decide (v164.hour = v135)) then ( (pA n v161 (zC.mk (wr (v164.seen - v164.off)) (wr (v164.seen + v164.off)))).bind fun v165 => (cH n K1 v0 v135 v136 k9) (wr (v160 + 1)) v165 ) else ( (cH n K1 v0 v135 v136 k9) (wr (v160 + 1)) v161 ) ) else (
 bif (decide (v161.high < v161.low)) then ( some (([], false)) ) else ( (app v136 ([v161])).bind fun v166 => K1 (wr (v135 + 1)) v166 ) )
def lA (n : Nat) (K1 : Int → (List zC) → Option ((List zC) × Bool)) (v0 : zN) (v135 : Int) (v136 : (List zC)) (v157 : zC) : Option ((List zC) × Bool) := cH n K1 v0 v135 v136 n 0 v157
def aK (n : Nat) (v0 : zN) (v101 : xO) : Nat → Int → (List zC) → Option ((List zC) × Bool)
| 0, _, _ => none
| k10 + 1, v173, v174 => bif (decide (0 ≤ v173)) then ( (ix v174 v173).bind fun v181 => (ix v0.adds (wr (v173 + 1))).bind fun v182 => (ix v174 (wr (v173 + 1))).bind fun v183 => (vH n v101 v182 v183).bind fun v184 => (pA n v181 v184).bind fun v185 => (ix v174 v173).bind fun v186 => (aK n v0 v101 k10) (wr (v173 - 1)) (sts v174 v173 v185) ) else ( some ((v174, true)) )
def gM (n : Nat) (v0 : zN) (v101 : xO) : Nat → Int → (List zC) → Option ((List zC) × Bool)
| 0, _, _ => none
| k1 + 1, v135, v136 => bif (decide (v135 < v0.hours)) then ( (ix v0.adds 0).bind fun v152 => (ix v0.adds 0).bind fun v153 => bif (decide (0 < v135)) then ( (ix v0.adds v135).bind fun v154 => (ix v136 (wr (v135 - 1))).bind fun v155 => (vL n v101 v154 v155).bind fun v156 => lA n (gM n v0 v101 k1) v0 v135 v136 v156 ) else (
 lA n (gM n v0 v101 k1) v0 v135 v136 (zC.mk (wr (v101.strength.low + v152)) (wr (v101.strength.high + v153))) ) ) else ( aK n v0 v101 n (wr (v0.hours - 2)) v136 )
def qQ (n : Nat) (v0 : zN) (v1 : Int) : Option ((List zC) × Bool) := (ix v0.acids v1).bind fun v101 => (zCR n v0.known v1).bind fun v102 => bif (!v102) then ( some (([], false)) ) else ( gM n v0 v101 n 0 [] )
theorem zUR (n : Nat) (v0 : zN) (v1 : Int) {r : ((List zC) × Bool)} (h : qQ n v0 v1 = some r) :
  Fun Tryz.prog 90 [.agg (yA v0), .val (.int .i64 v1)] (.ret (.tup [.sl (r.1.map zH), .b r.2])) := by
 unfold qQ at h
 refine zU 127 Tryz.func90 q q q ?_
 intro w0 F0
 change W _ _ (Ev [(0, .pv (.agg (yA v0))), (1, .pv (.i v1))]) _
 refine W.seq<|W.region<|ob (xB q q q q q) q q<|va q q q q q<|va q q q q q<|on0<|Sq.n<|W.seq<|W.region<|ov (zG q q q q xL) q<|ov (zE q q q q q q kO) q<|vm q q q q q ?_
 obtain ⟨v101, e101, h⟩ := bind_some h
 refine ov (zT (l := v0.acids) (enc := yJ) e101 q q q q q nC q) q<|ov (yX q q q q oV dB q q) q<|ob (zZ q q q iO) q q<|Ops.step q (zP q q q q q q dB q q)<|on0<|Sq.n<|W.seq<|W.seq<|W.region<|ov (zG q q q q gD) q<|ov (zE q q q q q q zL) q<|vm q q q q q ?_
 obtain ⟨v102, e102, h⟩ := bind_some h
 refine ov (zD q q q zXR q (yBF _ _ _ e102)) q<|ov (yW q q q q) q<|on0<|Sq.n<|W.cond (b := (!v102)) q (fun hc => ?_) (fun hc => ?_)
 ·have h := zI h hc
  refine W.seq<|W.region<|va q q q q q<|va q q q q q<|on0<|Sq.n<|W.conv (Conv.nilsl 4 q)<|W.ret<|Sq.r ?_
  obtain rfl := Option.some.inj h
  exact Fin.r q (.cons (.tmp _ _ q) (.cons (.tmp _ _ q) .nil)) q
 ·have h := zJ h hc
  refine W.skip<|Sq.n<|W.seq<|W.region<|va q q q q q<|on0<|Sq.n<|W.seq<|W.seq<|W.region<|va q q q q q<|on0<|Sq.n<|W.block<|W.conv (Conv.nilrow 7 97 57 2 q q)<|W.loop (σ := Nat × Int × (List zC)) (fun s => (⟨[(2, .box 2 0), (6, .box 6 0), (7, .row 97), (8, .pv (.i s.2.1))], [(2, 27, (bD v0)), (6, 137, [.pv (.i v101.strength.low), .pv (.i v101.strength.high), .pv (.i v101.fall.low), .pv (.i v101.fall.high)])], [(97, ⟨57, 2, List.map zH s.2.2⟩)]⟩ : Env)) (fun s => gM n v0 v101 s.1 s.2.1 s.2.2 = some r) (fun s => s.1) (n, 0, []) h (zF ⟨q, q, q, q, trivial⟩ ⟨q, q, trivial⟩ ⟨q, trivial⟩ q) ?_
  rintro ⟨k1, v135, v136⟩ h
  change gM n v0 v101 k1 v135 v136 = some r at h
  rcases k1 with _ | k1
  ·rw [gM] at h
   cases h
  ·rw [gM] at h
   change W _ _ (⟨[(2, .box 2 0), (6, .box 6 0), (7, .row 97), (8, .pv (.i v135))], [(2, 27, (bD v0)), (6, 137, [.pv (.i v101.strength.low), .pv (.i v101.strength.high), .pv (.i v101.fall.low), .pv (.i v101.fall.high)])], [(97, ⟨57, 2, List.map zH v136⟩)]⟩ : Env) _
   refine W.seq<|W.seq<|W.region<|vm q q q q q<|ov (zG q q q q xW) q<|ov (zE q q q q q q zL) q<|ov (yF q q q q q) q<|on0<|Sq.n<|W.cond (b := (decide (v135 < v0.hours))) q (fun hc => ?_) (fun hc => ?_)
   ·have h := zI h hc
    refine W.skip<|Sq.n<|W.seq<|W.block<|W.seq ?_
    obtain ⟨v152, e152, h⟩ := bind_some h
    obtain ⟨v153, e153, h⟩ := bind_some h
    refine W.draw (m := 18) Checked.mixed (Pre.v (GSG.of q (zG q q q q fK)) ((Pre.v (GSG.of q (zG q q q q yZ)) ((Pre.v (GSG.of q (zE q q q q q q zL)) ((Pre.v (GSG.of q (zG q q q q kM)) ((Pre.v (GSG.of q (zE q q q q q q kS)) ((Pre.v (GSG.of q (zT (l := v0.adds) (enc := eI) e152 q q q q q yH q)) ((Pre.v (GSG.of q (zK q q q q q zL)) ((Pre.v (GSG.of q (zW q q q q q)) ((Pre.v (GSG.of q (zG q q q q fK)) ((Pre.v (GSG.of q (zG q q q q xE)) ((Pre.v (GSG.of q (zE q q q q q q zL)) ((Pre.v (GSG.of q (zG q q q q kM)) ((Pre.v (GSG.of q (zE q q q q q q kS)) ((Pre.v (GSG.of q (zT (l := v0.adds) (enc := eI) e153 q q q q q yH q)) ((Pre.v (GSG.of q (zK q q q q q zL)) ((Pre.v (GSG.of q (zW q q q q q)) ((Pre.v (GSG.of q (yN (cs := (zH (zC.mk (wr (v101.strength.low + v152)) (wr (v101.strength.high + v153))))) q q q xA kW q q)) ((Pre.b (GSG.of q (zZ q q q xA)) q (Pre.nil _)))))))))))))))))))))))))))))))))))) (by kernel_rfl)<|Ops.step q (zP q q q q q q yG q q)<|on0<|Sq.n<|W.seqJ (σ := zC) (fun s => (⟨[(2, .box 2 0), (6, .box 6 0), (7, .row 97), (8, .pv (.i v135)), (9, .box 9 0)], [(2, 27, (bD v0)), (6, 137, [.pv (.i v101.strength.low), .pv (.i v101.strength.high), .pv (.i v101.fall.low), .pv (.i v101.fall.high)]), (9, 57, [.pv (.i s.low), .pv (.i s.high)])], [(97, ⟨57, 2, List.map zH v136⟩)]⟩ : Env)) (fun s => lA n (gM n v0 v101 k1) v0 v135 v136 s = some r) ?_ ?_
    ·refine W.seq<|W.region<|vm q q q q q<|ov (gR q q q q q) q<|on0<|Sq.n<|W.cond (b := (decide (0 < v135))) q (fun hc => ?_) (fun hc => ?_)
     ·have h := zI h hc
      obtain ⟨v154, e154, h⟩ := bind_some h
      obtain ⟨v155, e155, h⟩ := bind_some h
      refine W.draw (m := 11) Checked.mixed (Pre.v (GSG.of q (zS q q q q q oV dB q q)) ((Pre.v (GSG.of q (zG q q q q kM)) ((Pre.v (GSG.of q (zE q q q q q q kS)) ((Pre.v (GSG.of q (zA q q q q)) ((Pre.v (GSG.of q (zT (l := v0.adds) (enc := eI) e154 q q q q q yH q)) ((Pre.v (GSG.of q (zK q q q q q zL)) ((Pre.v (GSG.of q (zA q q q q)) ((Pre.v (GSG.of q (zA q q q q)) ((Pre.v (GSG.of q (xH q q q q q)) ((Pre.v (GSG.of q (kQ (l := v136) (enc := zH) e155 q q q q q q kF)) ((Pre.v (GSG.of q (gC (sz := 2) (l := v136) (enc := zH) e155 q q q q q xY yG)) (Pre.nil _)))))))))))))))))))))) (by kernel_rfl) ?_
      obtain ⟨v156, e156, h⟩ := bind_some h
      refine ov (zD q q q zUI q (zZS _ _ _ _ e156)) q<|Ops.step q (zP q q q q q q yG q q)<|on0<|Sq.n<|⟨v156, h, zF ⟨q, q, q, q, q, trivial⟩ ⟨q, q, q, trivial⟩ ⟨q, trivial⟩ q⟩
     ·have h := zJ h hc
      refine W.skip<|Sq.n<|⟨(zC.mk (wr (v101.strength.low + v152)) (wr (v101.strength.high + v153))), h, zF ⟨q, q, q, q, q, trivial⟩ ⟨q, q, q, trivial⟩ ⟨q, trivial⟩ q⟩
    ·rintro v157 h
     change lA n (gM n v0 v101 k1) v0 v135 v136 v157 = some r at h
     unfold lA at h
     change W _ _ (⟨[(2, .box 2 0), (6, .box 6 0), (7, .row 97), (8, .pv (.i v135)), (9, .box 9 0)], [(2, 27, (bD v0)), (6, 137, [.pv (.i v101.strength.low), .pv (.i v101.strength.high), .pv (.i v101.fall.low), .pv (.i v101.fall.high)]), (9, 57, [.pv (.i v157.low), .pv (.i v157.high)])], [(97, ⟨57, 2, List.map zH v136⟩)]⟩ : Env) _
     refine W.seq<|W.seq<|W.region<|va q q q q q<|on0<|Sq.n<|W.block<|W.loop (σ := Nat × Int × zC) (fun s => (⟨[(2, .box 2 0), (6, .box 6 0), (7, .row 97), (8, .pv (.i v135)), (9, .box 9 0), (10, .pv (.i s.2.1))], [(2, 27, (bD v0)), (6, 137, [.pv (.i v101.strength.low), .pv (.i v101.strength.high), .pv (.i v101.fall.low), .pv (.i v101.fall.high)]), (9, 57, [.pv (.i s.2.2.low), .pv (.i s.2.2.high)])], [(97, ⟨57, 2, List.map zH v136⟩)]⟩ : Env)) (fun s => cH n (gM n v0 v101 k1) v0 v135 v136 s.1 s.2.1 s.2.2 = some r) (fun s => s.1) (n, 0, v157) h (zF ⟨q, q, q, q, q, q, trivial⟩ ⟨q, q, q, trivial⟩ ⟨q, trivial⟩ q) ?_
     rintro ⟨k9, v160, v161⟩ h
     change cH n (gM n v0 v101 k1) v0 v135 v136 k9 v160 v161 = some r at h
     rcases k9 with _ | k9
     ·rw [cH] at h
      cases h
     ·rw [cH] at h
      change W _ _ (⟨[(2, .box 2 0), (6, .box 6 0), (7, .row 97), (8, .pv (.i v135)), (9, .box 9 0), (10, .pv (.i v160))], [(2, 27, (bD v0)), (6, 137, [.pv (.i v101.strength.low), .pv (.i v101.strength.high), .pv (.i v101.fall.low), .pv (.i v101.fall.high)]), (9, 57, [.pv (.i v161.low), .pv (.i v161.high)])], [(97, ⟨57, 2, List.map zH v136⟩)]⟩ : Env) _
      refine W.seq<|W.seq<|W.region<|vm q q q q q<|ov (zG q q q q jE) q<|ov (zE q q q q q q fF) q<|ov (zM (l := v0.strips) (enc := yL) q dS q q q) q<|ov (yF q q q q q) q<|on0<|Sq.n<|W.cond (b := (decide (v160 < (v0.strips.length : Int)))) q (fun hc => ?_) (fun hc => ?_)
      ·have h := zI h hc
       refine W.skip<|Sq.n<|W.seq<|W.block<|W.seq<|W.region<|ov (zG q q q q jE) q<|ov (zE q q q q q q fF) q<|vm q q q q q ?_
       obtain ⟨v164, e164, h⟩ := bind_some h
       refine ov (zT (l := v0.strips) (enc := yL) e164 q q q q q lZ q) q<|ov (yX q q q q wM mT q q) q<|ob (zZ q q q oW) q q<|Ops.step q (zP q q q q q q mT q q)<|on0<|Sq.n<|W.seq<|W.region<|ov (zG q q q q bJ) q<|ov (zE q q q q q q zL) q<|vm q q q q q<|ov (kR q q q q q) q<|on0<|Sq.n<|W.cond (b := (decide (v164.hour = v135))) q (fun hc => ?_) (fun hc => ?_)
       ·have h := zI h hc
        refine W.region<|ov (zS q q q q q xY yG q q) q<|ov (zG q q q q cR) q<|ov (zE q q q q q q zL) q<|ov (zG q q q q cQ) q<|ov (zE q q q q q q zL) q<|ov (xH q q q q q) q<|ov (zG q q q q cR) q<|ov (zE q q q q q q zL) q<|ov (zG q q q q cQ) q<|ov (zE q q q q q q zL) q<|ov (zW q q q q q) q<|ov (yN (cs := (zH (zC.mk (wr (v164.seen - v164.off)) (wr (v164.seen + v164.off))))) q q q xA kW q q) q ?_
        obtain ⟨v165, e165, h⟩ := bind_some h
        exact ov (zD q q q wG q (zBX _ _ _ e165)) q<|Ops.step q (zP q q q q q q yG q q)<|on0<|Bl.n<|Sq.n<|W.region<|vm q q q q q<|ov (zW q q q q q) q<|va q q q q q<|on0<|Sq.n<|⟨(k9, wr (v160 + 1), v165), h, Nat.lt_succ_self _, zF ⟨q, q, q, q, q, q, trivial⟩ ⟨q, q, q, trivial⟩ ⟨q, trivial⟩ q⟩
       ·have h := zJ h hc
        exact W.skip<|Bl.n<|Sq.n<|W.region<|vm q q q q q<|ov (zW q q q q q) q<|va q q q q q<|on0<|Sq.n<|⟨(k9, wr (v160 + 1), v161), h, Nat.lt_succ_self _, zF ⟨q, q, q, q, q, q, trivial⟩ ⟨q, q, q, trivial⟩ ⟨q, trivial⟩ q⟩
      ·have h := zJ h hc
       refine W.exit<|Sq.e<|Sq.e<|Bl.e<|Sq.n<|W.seq<|W.seq<|W.region<|ov (zG q q q q yZ) q<|ov (zE q q q q q q zL) q<|ov (zG q q q q xE) q<|ov (zE q q q q q q zL) q<|ov (gR q q q q q) q<|on0<|Sq.n<|W.cond (b := (decide (v161.high < v161.low))) q (fun hc => ?_) (fun hc => ?_)
       ·have h := zI h hc
        refine W.seq<|W.region<|va q q q q q<|va q q q q q<|on0<|Sq.n<|W.conv (Conv.nilsl 4 q)<|W.ret<|Sq.r<|Bl.r<|Sq.r<|Sq.r<|Bl.r<|Sq.r ?_
        obtain rfl := Option.some.inj h
        exact Fin.r q (.cons (.tmp _ _ q) (.cons (.tmp _ _ q) .nil)) q
       ·have h := zJ h hc
        refine W.skip<|Sq.n<|W.region<|vm q q q q q<|ov (zS q q q q q xY yG q q) q<|Ops.r (zQ (cs := [.val (.int .i64 v161.low), .val (.int .i64 v161.high)]) (es := List.map zH [v161]) q q q kF ⟨_, xA⟩ q q q q q q) q q ?_
        obtain ⟨v166, e166, h⟩ := bind_some h
        exact Ops.step q (xJ (enc := zH) e166 q q q q q q q q zBV (fun _ => q))<|va q q q q q<|on0<|Bl.n<|Sq.n<|W.region<|vm q q q q q<|ov (zW q q q q q) q<|va q q q q q<|on0<|Sq.n<|⟨(k1, wr (v135 + 1), v166), h, Nat.lt_succ_self _, zF ⟨q, q, q, q, trivial⟩ ⟨q, q, trivial⟩ ⟨q, trivial⟩ q⟩
   ·have h := zJ h hc
    refine W.exit<|Sq.e<|Sq.e<|Bl.e<|Sq.n<|W.seq<|W.seq<|W.region<|ov (zG q q q q xW) q<|ov (zE q q q q q q zL) q<|ov (xH q q q q q) q<|va q q q q q<|on0<|Sq.n<|W.block<|W.loop (σ := Nat × Int × (List zC)) (fun s => (⟨[(2, .box 2 0), (6, .box 6 0), (7, .row 97), (12, .pv (.i s.2.1))], [(2, 27, (bD v0)), (6, 137, [.pv (.i v101.strength.low), .pv (.i v101.strength.high), .pv (.i v101.fall.low), .pv (.i v101.fall.high)])], [(97, ⟨57, 2, List.map zH s.2.2⟩)]⟩ : Env)) (fun s => aK n v0 v101 s.1 s.2.1 s.2.2 = some r) (fun s => s.1) (n, wr (v0.hours - 2), v136) h (zF ⟨q, q, q, q, trivial⟩ ⟨q, q, trivial⟩ ⟨q, trivial⟩ q) ?_
    rintro ⟨k10, v173, v174⟩ h
    change aK n v0 v101 k10 v173 v174 = some r at h
    rcases k10 with _ | k10
    ·rw [aK] at h
     cases h
    ·rw [aK] at h
     change W _ _ (⟨[(2, .box 2 0), (6, .box 6 0), (7, .row 97), (12, .pv (.i v173))], [(2, 27, (bD v0)), (6, 137, [.pv (.i v101.strength.low), .pv (.i v101.strength.high), .pv (.i v101.fall.low), .pv (.i v101.fall.high)])], [(97, ⟨57, 2, List.map zH v174⟩)]⟩ : Env) _
     refine W.seq<|W.seq<|W.region<|vm q q q q q<|ov (gS q q q q q) q<|on0<|Sq.n<|W.cond (b := (decide (0 ≤ v173))) q (fun hc => ?_) (fun hc => ?_)
     ·have h := zI h hc
      refine W.skip<|Sq.n<|W.seq<|W.block ?_
      obtain ⟨v181, e181, h⟩ := bind_some h
      obtain ⟨v182, e182, h⟩ := bind_some h
      obtain ⟨v183, e183, h⟩ := bind_some h
      obtain ⟨v184, e184, h⟩ := bind_some h
      obtain ⟨v185, e185, h⟩ := bind_some h
      refine W.draw (m := 20) Checked.mixed (Pre.v (GSG.of q (zA q q q q)) ((Pre.v (GSG.of q (zA q q q q)) ((Pre.v (GSG.of q (zA q q q q)) ((Pre.v (GSG.of q (zA q q q q)) ((Pre.v (GSG.of q (kQ (l := v174) (enc := zH) e181 q q q q q q kF)) ((Pre.v (GSG.of q (gC (sz := 2) (l := v174) (enc := zH) e181 q q q q q xY yG)) ((Pre.v (GSG.of q (zS q q q q q oV dB q q)) ((Pre.v (GSG.of q (zG q q q q kM)) ((Pre.v (GSG.of q (zE q q q q q q kS)) ((Pre.v (GSG.of q (zA q q q q)) ((Pre.v (GSG.of q (zW q q q q q)) ((Pre.v (GSG.of q (zT (l := v0.adds) (enc := eI) e182 q q q q q yH q)) ((Pre.v (GSG.of q (zK q q q q q zL)) ((Pre.v (GSG.of q (zA q q q q)) ((Pre.v (GSG.of q (zA q q q q)) ((Pre.v (GSG.of q (zW q q q q q)) ((Pre.v (GSG.of q (kQ (l := v174) (enc := zH) e183 q q q q q q kF)) ((Pre.v (GSG.of q (gC (sz := 2) (l := v174) (enc := zH) e183 q q q q q xY yG)) ((Pre.v (GSG.of q (zD q q q zTZ q (zZH _ _ _ _ e184))) ((Pre.v (GSG.of q (zD q q q wG q (zBX _ _ _ e185))) (Pre.nil _)))))))))))))))))))))))))))))))))))))))) (by kernel_rfl) ?_
      obtain ⟨v186, e186, h⟩ := bind_some h
      exact ov (kQ (l := v174) (enc := zH) e186 q q q q q q kF) q<|Ops.step q (dC (sz := 2) (l := v174) (enc := zH) v185 e186 q q q q q q q yG q q)<|on0<|Bl.n<|Sq.n<|W.region<|vm q q q q q<|ov (xH q q q q q) q<|va q q q q q<|on0<|Sq.n<|⟨(k10, wr (v173 - 1), sts v174 v173 v185), h, Nat.lt_succ_self _, zF ⟨q, q, q, q, trivial⟩ ⟨q, q, trivial⟩ ⟨q, trivial⟩ q⟩
     ·have h := zJ h hc
      refine W.exit<|Sq.e<|Sq.e<|Bl.e<|Sq.n<|W.seq<|W.region<|vm q q q q q<|va q q q q q<|va q q q q q<|on0<|Sq.n<|W.share (k := 97) q<|W.ret ?_
      obtain rfl := Option.some.inj h
      exact Fin.r q (.cons (.tmp _ _ q) (.cons (.tmp _ _ q) .nil)) q
def eA (n : Nat) (v0 : (List zC)) (v1 : (List Int)) : Nat → Int → Option (Bool)
| 0, _ => none
| k1 + 1, v106 => bif (decide (v106 < (v1.length : Int))) then ( (ix v1 v106).bind fun v112 => (qM v1 0 v106).bind fun v113 => (qT n v113).bind fun v114 => bif (decide (v114 < v112)) then ( some (false) ) else ( (ix v1 v106).bind fun v115 => (zCS n v0 v1 v115).bind fun v116 => bif (decide (v116.high < v116.low)) then ( some (false) ) else ( (eA n v0 v1 k1) (wr (v106 + 1)) )
 ) ) else ( some (true) )
def wW (n : Nat) (v0 : (List zC)) (v1 : (List Int)) : Option (Bool) := eA n v0 v1 n 0
theorem zUU (n : Nat) (v0 : (List zC)) (v1 : (List Int)) {r : (Bool)} (h : wW n v0 v1 = some r) :
  Fun Tryz.prog 54 [.sl (v0.map zH), .sl (v1.map eI)] (.ret (.b r)) := by
 unfold wW at h
 refine zU 34 Tryz.func54 q q q ?_
 intro w0 F0
 change W _ _ (Ev [(0, .pv (.sl (List.map zH v0))), (1, .pv (.sl (List.map eI v1)))]) _
 refine W.seq<|W.region<|va q q q q q<|on0<|Sq.n<|W.seq<|W.seq<|W.region<|va q q q q q<|on0<|Sq.n<|W.block<|W.loop (σ := Nat × Int) (fun s => (Ev [(0, .pv (.sl (List.map zH v0))), (1, .pv (.sl (List.map eI v1))), (5, .pv (.i s.2))])) (fun s => eA n v0 v1 s.1 s.2 = some r) (fun s => s.1) (n, 0) h (zF ⟨q, q, q, trivial⟩ trivial trivial q) ?_
 rintro ⟨k1, v106⟩ h
 change eA n v0 v1 k1 v106 = some r at h
 rcases k1 with _ | k1
 ·rw [eA] at h
  cases h
 ·rw [eA] at h
  change W _ _ (Ev [(0, .pv (.sl (List.map zH v0))), (1, .pv (.sl (List.map eI v1))), (5, .pv (.i v106))]) _
  refine W.seq<|W.seq<|W.region<|vm q q q q q<|vm q q q q q<|ov (zM (l := v1) (enc := eI) q xR q q q) q<|ov (yF q q q q q) q<|on0<|Sq.n<|W.cond (b := (decide (v106 < (v1.length : Int)))) q (fun hc => ?_) (fun hc => ?_)
  ·have h := zI h hc
   refine W.skip<|Sq.n<|W.seq<|W.block<|W.seq<|W.seq ?_
   obtain ⟨v112, e112, h⟩ := bind_some h
   obtain ⟨v113, e113, h⟩ := bind_some h
   obtain ⟨v114, e114, h⟩ := bind_some h
   refine W.draw (m := 8) Checked.mixed (Pre.v (GSG.of q (zA q q q q)) ((Pre.v (GSG.of q (zA q q q q)) ((Pre.v (GSG.of q (zT (l := v1) (enc := eI) e112 q q q q q yH q)) ((Pre.v (GSG.of q (zK q q q q q zL)) ((Pre.v (GSG.of q (zA q q q q)) ((Pre.v (GSG.of q (zA q q q q)) ((Pre.v (GSG.of q (rJ (enc := eI) e113 q q q q yH (fun _ => q) q q)) ((Pre.v (GSG.of q (zD q q q wF q (zET _ _ e114))) (Pre.nil _)))))))))))))))) (by kernel_rfl)<|ov (gR q q q q q) q<|on0<|Sq.n<|W.cond (b := (decide (v114 < v112))) q (fun hc => ?_) (fun hc => ?_)
   ·have h := zI h hc
    refine W.seq<|W.region<|va q q q q q<|on0<|Sq.n<|W.ret<|Sq.r<|Bl.r<|Sq.r<|Sq.r<|Bl.r<|Sq.r ?_
    obtain rfl := Option.some.inj h
    exact Fin.r q (.cons (.tmp _ _ q) .nil) q
   ·have h := zJ h hc
    refine W.skip<|Sq.n<|W.seq<|W.region<|vm q q q q q<|vm q q q q q<|vm q q q q q<|vm q q q q q ?_
    obtain ⟨v115, e115, h⟩ := bind_some h
    refine ov (zT (l := v1) (enc := eI) e115 q q q q q yH q) q<|ov (zK q q q q q zL) q ?_
    obtain ⟨v116, e116, h⟩ := bind_some h
    refine ov (zD q q q zXT q (yBH _ _ _ _ e116)) q<|ob (zZ q q q xA) q q<|Ops.step q (zP q q q q q q yG q q)<|on0<|Sq.n<|W.seq<|W.region<|ov (zG q q q q yZ) q<|ov (zE q q q q q q zL) q<|ov (zG q q q q xE) q<|ov (zE q q q q q q zL) q<|ov (gR q q q q q) q<|on0<|Sq.n<|W.cond (b := (decide (v116.high < v116.low))) q (fun hc => ?_) (fun hc => ?_)
    ·have h := zI h hc
     refine W.seq<|W.region<|va q q q q q<|on0<|Sq.n<|W.ret<|Bl.r<|Sq.r<|Sq.r<|Bl.r<|Sq.r ?_
     obtain rfl := Option.some.inj h
     exact Fin.r q (.cons (.tmp _ _ q) .nil) q
    ·have h := zJ h hc
     exact W.skip<|Bl.n<|Sq.n<|W.region<|vm q q q q q<|ov (zW q q q q q) q<|va q q q q q<|on0<|Sq.n<|⟨(k1, wr (v106 + 1)), h, Nat.lt_succ_self _, zF ⟨q, q, q, trivial⟩ trivial trivial q⟩
  ·have h := zJ h hc
   refine W.exit<|Sq.e<|Sq.e<|Bl.e<|Sq.n<|W.seq<|W.region<|va q q q q q<|on0<|Sq.n<|W.ret ?_
   obtain rfl := Option.some.inj h
   exact Fin.r q (.cons (.tmp _ _ q) .nil) q
end
section
open Go Go.RowKit
set_option maxRecDepth 4000
attribute [local irreducible] W Ops GS GSG
def dX (n : Nat) (v0 : zN) : Nat → Int → (List Int) → Option ((List Int))
| 0, _, _ => none
| k1 + 1, v107, v108 => bif (decide (v107 < (v0.acids.length : Int))) then ( (qQ n v0 v107).bind fun v111 => bif v111.2 then ( (app v108 ([v107])).bind fun v112 => (dX n v0 k1) (wr (v107 + 1)) v112 ) else ( (dX n v0 k1) (wr (v107 + 1)) v108 ) ) else ( some (v108) )
def wV (n : Nat) (v0 : zN) : Option ((List Int)) := dX n v0 n 0 []
theorem zUS (n : Nat) (v0 : zN) {r : ((List Int))} (h : wV n v0 = some r) :
  Fun Tryz.prog 80 [.agg (yA v0)] (.ret (.sl (r.map eI))) := by
 unfold wV at h
 refine zU 26 Tryz.func80 q q q ?_
 intro w0 F0
 change W _ _ (Ev [(0, .pv (.agg (yA v0)))]) _
 refine W.seq<|W.region<|ob (xB q q q q q) q q<|va q q q q q<|on0<|Sq.n<|W.seq<|W.region<|va q q q q q<|on0<|Sq.n<|W.seq<|W.seq<|W.region<|va q q q q q<|on0<|Sq.n<|W.block<|W.conv (Conv.nilrow 3 24 3 1 q q)<|W.loop (σ := Nat × Int × (List Int)) (fun s => (⟨[(1, .box 1 0), (3, .row 24), (4, .pv (.i s.2.1))], [(1, 27, (bD v0))], [(24, ⟨3, 1, List.map eI s.2.2⟩)]⟩ : Env)) (fun s => dX n v0 s.1 s.2.1 s.2.2 = some r) (fun s => s.1) (n, 0, []) h (zF ⟨q, q, q, trivial⟩ ⟨q, trivial⟩ ⟨q, trivial⟩ q) ?_
 rintro ⟨k1, v107, v108⟩ h
 change dX n v0 k1 v107 v108 = some r at h
 rcases k1 with _ | k1
 ·rw [dX] at h
  cases h
 ·rw [dX] at h
  change W _ _ (⟨[(1, .box 1 0), (3, .row 24), (4, .pv (.i v107))], [(1, 27, (bD v0))], [(24, ⟨3, 1, List.map eI v108⟩)]⟩ : Env) _
  refine W.seq<|W.seq<|W.region<|vm q q q q q<|ov (zG q q q q xL) q<|ov (zE q q q q q q kO) q<|ov (zM (l := v0.acids) (enc := yJ) q jA q q q) q<|ov (yF q q q q q) q<|on0<|Sq.n<|W.cond (b := (decide (v107 < (v0.acids.length : Int)))) q (fun hc => ?_) (fun hc => ?_)
  ·have h := zI h hc
   refine W.skip<|Sq.n<|W.seq<|W.block<|W.seq<|W.region<|ov (zS q q q q q xG yU q q) q<|vm q q q q q ?_
   obtain ⟨v111, e111, h⟩ := bind_some h
   refine ov (zD q q q zOL q (zUR _ _ _ e111)) q<|vm q q q q q<|ov (zO q q q q q) q<|ov (zO q q q q q) q<|va q q q q q<|va q q q q q<|on0<|Sq.n<|W.seq<|W.region<|vm q q q q q<|on0<|Sq.n<|W.cond (b := v111.2) q (fun hc => ?_) (fun hc => ?_)
   ·have h := zI h hc
    refine W.region<|vm q q q q q<|vm q q q q q<|Ops.r (zQ (cs := [.val (.int .i64 v107)]) (es := List.map eI [v107]) q q q yH ⟨_, jN⟩ q q q q q q) q q ?_
    obtain ⟨v112, e112, h⟩ := bind_some h
    exact Ops.step q (xJ (enc := eI) e112 q q q q q q q q cZ (fun _ => q))<|va q q q q q<|on0<|Bl.n<|Sq.n<|W.region<|vm q q q q q<|ov (zW q q q q q) q<|va q q q q q<|on0<|Sq.n<|⟨(k1, wr (v107 + 1), v112), h, Nat.lt_succ_self _, zF ⟨q, q, q, trivial⟩ ⟨q, trivial⟩ ⟨q, trivial⟩ q⟩
   ·have h := zJ h hc
    exact W.skip<|Bl.n<|Sq.n<|W.region<|vm q q q q q<|ov (zW q q q q q) q<|va q q q q q<|on0<|Sq.n<|⟨(k1, wr (v107 + 1), v108), h, Nat.lt_succ_self _, zF ⟨q, q, q, trivial⟩ ⟨q, trivial⟩ ⟨q, trivial⟩ q⟩
  ·have h := zJ h hc
   refine W.exit<|Sq.e<|Sq.e<|Bl.e<|Sq.n<|W.seq<|W.region<|vm q q q q q<|va q q q q q<|on0<|Sq.n<|W.share (k := 24) q<|W.ret ?_
   obtain rfl := Option.some.inj h
   exact Fin.r q (.cons (.tmp _ _ q) .nil) q
end
section
open Go Go.RowKit
set_option maxRecDepth 4000
attribute [local irreducible] W Ops GS GSG
def bS (n : Nat) (K12 : Int → (List (List Int)) → Option ((List Int))) (v193 : (List (List Int))) (v337 : Int) : Nat → Int → (List (List Int)) → Option ((List Int))
| 0, _, _ => none
| k16 + 1, v365, v366 => (ix v193 v337).bind fun v373 => (qT n v373).bind fun v374 => bif (decide (v365 ≤ v374)) then ( (ix v193 v337).bind fun v375 => (app ([] : List Int) v375).bind fun v376 => (app v376 ([v365])).bind fun v377 => (app v366 ([v377])).bind fun v378 => (bS n K12 v193 v337 k16) (wr (v365 + 1)) v378 ) else ( K12 (wr (v337 + 1)) v366 )
def fH (n : Nat) (K1 : (List (List Int)) → Int → Option ((List Int))) (v193 : (List (List Int))) (v194 : Int) : Nat → Int → (List (List Int)) → Option ((List Int))
| 0, _, _ => none
| k12 + 1, v337, v338 => bif (decide (v337 < (v193.length : Int))) then ( bS n (fH n K1 v193 v194 k12) v193 v337 n 0 v338 ) else ( K1 v338 (wr (v194 + 1)) )
def bT (K17 : (List Int) → Int → Option ((List Int))) (v193 : (List (List Int))) (v384 : (List Int)) (v385 : Int) (v399 : Bool) : Option ((List Int)) := bif v399 then ( (ix v193 v385).bind fun v400 => (ne v400).bind fun v401 => K17 v401 (wr (v385 + 1)) ) else ( K17 v384 (wr (v385 + 1)) )
def jK (n : Nat) (v0 : (List zC)) (v193 : (List (List Int))) : Nat → (List Int) → Int → Option ((List Int))
| 0, _, _ => none
| k17 + 1, v384, v385 => bif (decide (v385 < (v193.length : Int))) then ( (ix v193 v385).bind fun v394 => (wW n v0 v394).bind fun v395 => bif v395 then ( bif (List.isEmpty v384) then ( bT (jK n v0 v193 k17) v193 v384 v385 true ) else ( (ix v193 v385).bind fun v396 => (qT n v396).bind fun v397 => (qT n v384).bind fun v398 =>
 bT (jK n v0 v193 k17) v193 v384 v385 (decide (v397 < v398)) ) ) else ( bT (jK n v0 v193 k17) v193 v384 v385 false ) ) else ( some (v384) )
def fT (n : Nat) (v0 : (List zC)) : Nat → (List (List Int)) → Int → Option ((List Int))
| 0, _, _ => none
| k1 + 1, v193, v194 => bif (decide (v194 < (v0.length : Int))) then ( fH n (fT n v0 k1) v193 v194 n 0 [] ) else ( jK n v0 v193 n [] 0 )
def zCU (n : Nat) (v0 : (List zC)) : Option ((List Int)) := fT n v0 n ([[]]) 0
theorem yBK (n : Nat) (v0 : (List zC)) {r : ((List Int))} (h : zCU n v0 = some r) :
  Fun Tryz.prog 57 [.sl (v0.map zH)] (.ret (.sl (r.map eI))) := by
 unfold zCU at h
 refine zU 75 Tryz.func57 q q q ?_
 intro w0 F0
 change W _ _ (Ev [(0, .pv (.sl (List.map zH v0)))]) _
 refine W.seq<|W.region<|va q q q q q<|on0<|Sq.n<|W.seq<|W.region<|Ops.r (zQ (cs := [.val (.slice none 0 0)]) (es := [[.val (.slice none 0 0)]]) q q q fN ⟨_, qK⟩ q q q q q q) q q<|Ops.conv (Conv.softrow (es' := List.map (eL eI) [[]]) 10 q q)<|va q q q q q<|on0<|Sq.n<|W.seq<|W.seq<|W.region<|va q q q q q<|on0<|Sq.n<|W.block<|W.share (k := 10) q<|W.loop (σ := Nat × (List (List Int)) × Int) (fun s => (Ev [(0, .pv (.sl (List.map zH v0))), (3, .pv (.sl (List.map (eL eI) s.2.1))), (4, .pv (.i s.2.2))])) (fun s => fT n v0 s.1 s.2.1 s.2.2 = some r) (fun s => s.1) (n, [[]], 0) h (zF ⟨q, q, q, trivial⟩ trivial trivial q) ?_
 rintro ⟨k1, v193, v194⟩ h
 change fT n v0 k1 v193 v194 = some r at h
 rcases k1 with _ | k1
 ·rw [fT] at h
  cases h
 ·rw [fT] at h
  change W _ _ (Ev [(0, .pv (.sl (List.map zH v0))), (3, .pv (.sl (List.map (eL eI) v193))), (4, .pv (.i v194))]) _
  refine W.seq<|W.seq<|W.region<|vm q q q q q<|vm q q q q q<|ov (zM (l := v0) (enc := zH) q aI q q q) q<|ov (yF q q q q q) q<|on0<|Sq.n<|W.cond (b := (decide (v194 < (v0.length : Int)))) q (fun hc => ?_) (fun hc => ?_)
  ·have h := zI h hc
   refine W.skip<|Sq.n<|W.seq<|W.block<|W.seq<|W.region<|va q q q q q<|on0<|Sq.n<|W.seq<|W.seq<|W.region<|va q q q q q<|on0<|Sq.n<|W.block<|W.conv (Conv.nilrow 5 42 23 1 q q)<|W.loop (σ := Nat × Int × (List (List Int))) (fun s => (⟨[(0, .pv (.sl (List.map zH v0))), (3, .pv (.sl (List.map (eL eI) v193))), (4, .pv (.i v194)), (5, .row 42), (6, .pv (.i s.2.1))], [], [(42, ⟨23, 1, List.map (eL eI) s.2.2⟩)]⟩ : Env)) (fun s => fH n (fT n v0 k1) v193 v194 s.1 s.2.1 s.2.2 = some r) (fun s => s.1) (n, 0, []) h (zF ⟨q, q, q, q, q, trivial⟩ trivial ⟨q, trivial⟩ q) ?_
   rintro ⟨k12, v337, v338⟩ h
   change fH n (fT n v0 k1) v193 v194 k12 v337 v338 = some r at h
   rcases k12 with _ | k12
   ·rw [fH] at h
    cases h
   ·rw [fH] at h
    change W _ _ (⟨[(0, .pv (.sl (List.map zH v0))), (3, .pv (.sl (List.map (eL eI) v193))), (4, .pv (.i v194)), (5, .row 42), (6, .pv (.i v337))], [], [(42, ⟨23, 1, List.map (eL eI) v338⟩)]⟩ : Env) _
    refine W.seq<|W.seq<|W.region<|vm q q q q q<|vm q q q q q<|ov (zM (l := v193) (enc := (eL eI)) q pS q q q) q<|ov (yF q q q q q) q<|on0<|Sq.n<|W.cond (b := (decide (v337 < (v193.length : Int)))) q (fun hc => ?_) (fun hc => ?_)
    ·have h := zI h hc
     refine W.skip<|Sq.n<|W.seq<|W.block<|W.seq<|W.region<|va q q q q q<|on0<|Sq.n<|W.block<|W.loop (σ := Nat × Int × (List (List Int))) (fun s => (⟨[(0, .pv (.sl (List.map zH v0))), (3, .pv (.sl (List.map (eL eI) v193))), (4, .pv (.i v194)), (5, .row 42), (6, .pv (.i v337)), (7, .pv (.i s.2.1))], [], [(42, ⟨23, 1, List.map (eL eI) s.2.2⟩)]⟩ : Env)) (fun s => bS n (fH n (fT n v0 k1) v193 v194 k12) v193 v337 s.1 s.2.1 s.2.2 = some r) (fun s => s.1) (n, 0, v338) h (zF ⟨q, q, q, q, q, q, trivial⟩ trivial ⟨q, trivial⟩ q) ?_
     rintro ⟨k16, v365, v366⟩ h
     change bS n (fH n (fT n v0 k1) v193 v194 k12) v193 v337 k16 v365 v366 = some r at h
     rcases k16 with _ | k16
     ·rw [bS] at h
      cases h
     ·rw [bS] at h
      change W _ _ (⟨[(0, .pv (.sl (List.map zH v0))), (3, .pv (.sl (List.map (eL eI) v193))), (4, .pv (.i v194)), (5, .row 42), (6, .pv (.i v337)), (7, .pv (.i v365))], [], [(42, ⟨23, 1, List.map (eL eI) v366⟩)]⟩ : Env) _
      refine W.seq<|W.seq<|W.region<|vm q q q q q<|vm q q q q q<|vm q q q q q ?_
      obtain ⟨v373, e373, h⟩ := bind_some h
      refine ov (zT (l := v193) (enc := (eL eI)) e373 q q q q q fN q) q<|ov (zK q q q q q kS) q ?_
      obtain ⟨v374, e374, h⟩ := bind_some h
      refine ov (zD q q q wF q (zET _ _ e374)) q<|ov (jI q q q q q) q<|on0<|Sq.n<|W.cond (b := (decide (v365 ≤ v374))) q (fun hc => ?_) (fun hc => ?_)
      ·have h := zI h hc
       refine W.skip<|Sq.n<|W.seq<|W.block<|W.region<|vm q q q q q<|vm q q q q q<|vm q q q q q ?_
       obtain ⟨v375, e375, h⟩ := bind_some h
       refine ov (zT (l := v193) (enc := (eL eI)) e375 q q q q q fN q) q<|ov (zK q q q q q kS) q ?_
       obtain ⟨v376, e376, h⟩ := bind_some h
       refine Ops.step q (zGQ (enc := eI) e376 q q q q q q cZ (fun _ => q) (fun _ => q))<|vm q q q q q<|Ops.r (zQ (cs := [.val (.int .i64 v365)]) (es := List.map eI [v365]) q q q yH ⟨_, jN⟩ q q q q q q) q q ?_
       obtain ⟨v377, e377, h⟩ := bind_some h
       refine Ops.step q (xJ (enc := eI) e377 q q q q q q q q cZ (fun _ => q))<|Ops.share (k := 37) q<|Ops.r (zQ (cs := [.sl (List.map eI v377)]) (es := List.map (eL eI) [v377]) q q q fN ⟨_, qK⟩ q q q q q q) q q ?_
       obtain ⟨v378, e378, h⟩ := bind_some h
       exact Ops.step q (xJ (enc := (eL eI)) e378 q q q q q q q q sM (fun _ => q))<|va q q q q q<|on0<|Bl.n<|Sq.n<|W.region<|vm q q q q q<|ov (zW q q q q q) q<|va q q q q q<|on0<|Sq.n<|⟨(k16, wr (v365 + 1), v378), h, Nat.lt_succ_self _, zF ⟨q, q, q, q, q, q, trivial⟩ trivial ⟨q, trivial⟩ q⟩
      ·have h := zJ h hc
       exact W.exit<|Sq.e<|Sq.e<|Bl.e<|Bl.n<|Sq.n<|W.region<|vm q q q q q<|ov (zW q q q q q) q<|va q q q q q<|on0<|Sq.n<|⟨(k12, wr (v337 + 1), v366), h, Nat.lt_succ_self _, zF ⟨q, q, q, q, q, trivial⟩ trivial ⟨q, trivial⟩ q⟩
    ·have h := zJ h hc
     exact W.exit<|Sq.e<|Sq.e<|Bl.e<|Sq.n<|W.region<|vm q q q q q<|va q q q q q<|on0<|Bl.n<|Sq.n<|W.region<|vm q q q q q<|ov (zW q q q q q) q<|va q q q q q<|Ops.share (k := 42) q<|on0<|Sq.n<|⟨(k1, v338, wr (v194 + 1)), h, Nat.lt_succ_self _, zF ⟨q, q, q, trivial⟩ trivial trivial q⟩
  ·have h := zJ h hc
   refine W.exit<|Sq.e<|Sq.e<|Bl.e<|Sq.n<|W.seq<|W.region<|va q q q q q<|on0<|Sq.n<|W.seq<|W.seq<|W.region<|va q q q q q<|on0<|Sq.n<|W.block<|W.loop (σ := Nat × (List Int) × Int) (fun s => (Ev [(0, .pv (.sl (List.map zH v0))), (3, .pv (.sl (List.map (eL eI) v193))), (8, .pv (nlv s.2.1)), (9, .pv (.i s.2.2))])) (fun s => jK n v0 v193 s.1 s.2.1 s.2.2 = some r) (fun s => s.1) (n, [], 0) h (zF ⟨q, q, q, q, trivial⟩ trivial trivial q) ?_
   rintro ⟨k17, v384, v385⟩ h
   change jK n v0 v193 k17 v384 v385 = some r at h
   rcases k17 with _ | k17
   ·rw [jK] at h
    cases h
   ·rw [jK] at h
    change W _ _ (Ev [(0, .pv (.sl (List.map zH v0))), (3, .pv (.sl (List.map (eL eI) v193))), (8, .pv (nlv v384)), (9, .pv (.i v385))]) _
    refine W.seq<|W.seq<|W.region<|vm q q q q q<|vm q q q q q<|ov (zM (l := v193) (enc := (eL eI)) q pS q q q) q<|ov (yF q q q q q) q<|on0<|Sq.n<|W.cond (b := (decide (v385 < (v193.length : Int)))) q (fun hc => ?_) (fun hc => ?_)
    ·have h := zI h hc
     refine W.skip<|Sq.n<|W.seq<|W.block<|W.seqJ (σ := Bool) (fun s => (Ev [(0, .pv (.sl (List.map zH v0))), (3, .pv (.sl (List.map (eL eI) v193))), (8, .pv (nlv v384)), (9, .pv (.i v385)), (69, .pv (.b s))])) (fun s => bT (jK n v0 v193 k17) v193 v384 v385 s = some r) ?_ ?_
     ·refine W.region<|vm q q q q q<|vm q q q q q<|vm q q q q q ?_
      obtain ⟨v394, e394, h⟩ := bind_some h
      refine ov (zT (l := v193) (enc := (eL eI)) e394 q q q q q fN q) q<|ov (zK q q q q q kS) q ?_
      obtain ⟨v395, e395, h⟩ := bind_some h
      refine ov (zD q q q zOO q (zUU _ _ _ e395)) q<|vm q q q q q<|Ops.split 56 q (fun hb => ?_) (fun hb => ?_)
      ·have h := zI h hb
       refine on q q q<|vm q q q q q<|on q q q<|ov (zTD q q q q q xR) q<|on q q q<|vm q q q q q<|Ops.split 59 q (fun hb => ?_) (fun hb => ?_)
       ·have h := zI h hb
        refine o2 q q q q q q<|o2 q q q q q q<|o2 q q q q q q<|o2 q q q q q q<|o2 q q q q q q<|o2 q q q q q q<|o2 q q q q q q<|o2 q q q q q q<|on q q q<|vt q q q q q q<|vt q q q q q q<|on0<|Sq.n<|⟨true, h, zF ⟨q, q, q, q, q, trivial⟩ trivial trivial q⟩
       ·have h := zJ h hb
        refine on q q q<|vm q q q q q<|on q q q<|vm q q q q q<|on q q q ?_
        obtain ⟨v396, e396, h⟩ := bind_some h
        refine ov (zT (l := v193) (enc := (eL eI)) e396 q q q q q fN q) q<|on q q q<|ov (zK q q q q q kS) q<|on q q q ?_
        obtain ⟨v397, e397, h⟩ := bind_some h
        refine ov (zD q q q wF q (zET _ _ e397)) q<|on q q q<|vm q q q q q<|on q q q<|Ops.conv (Conv.nlsl 65 q) ?_
        obtain ⟨v398, e398, h⟩ := bind_some h
        refine ov (zD q q q wF q (zET _ _ e398)) q<|on q q q<|ov (yF q q q q q) q<|on q q q<|vf q q q q q q<|vt q q q q q q<|on0<|Sq.n<|⟨(decide (v397 < v398)), h, zF ⟨q, q, q, q, q, trivial⟩ trivial trivial q⟩
      ·have h := zJ h hb
       refine o2 q q q q q q<|o2 q q q q q q<|o2 q q q q q q<|o2 q q q q q q<|o2 q q q q q q<|o2 q q q q q q<|o2 q q q q q q<|o2 q q q q q q<|o2 q q q q q q<|o2 q q q q q q<|o2 q q q q q q<|o2 q q q q q q<|vf q q q q q q<|on0<|Sq.n<|⟨false, h, zF ⟨q, q, q, q, q, trivial⟩ trivial trivial q⟩
     ·rintro v399 h
      change bT (jK n v0 v193 k17) v193 v384 v385 v399 = some r at h
      unfold bT at h
      change W _ _ (Ev [(0, .pv (.sl (List.map zH v0))), (3, .pv (.sl (List.map (eL eI) v193))), (8, .pv (nlv v384)), (9, .pv (.i v385)), (69, .pv (.b v399))]) _
      refine W.cond (b := v399) q (fun hc => ?_) (fun hc => ?_)
      ·have h := zI h hc
       refine W.region<|vm q q q q q<|vm q q q q q ?_
       obtain ⟨v400, e400, h⟩ := bind_some h
       refine ov (zT (l := v193) (enc := (eL eI)) e400 q q q q q fN q) q<|ov (zK q q q q q kS) q ?_
       obtain ⟨v401, e401, h⟩ := bind_some h
       exact Ops.conv (Conv.nl 73 e401 q)<|va q q q q q<|on0<|Bl.n<|Sq.n<|W.region<|vm q q q q q<|ov (zW q q q q q) q<|va q q q q q<|on0<|Sq.n<|⟨(k17, v401, wr (v385 + 1)), h, Nat.lt_succ_self _, zF ⟨q, q, q, q, trivial⟩ trivial trivial q⟩
      ·have h := zJ h hc
       exact W.skip<|Bl.n<|Sq.n<|W.region<|vm q q q q q<|ov (zW q q q q q) q<|va q q q q q<|on0<|Sq.n<|⟨(k17, v384, wr (v385 + 1)), h, Nat.lt_succ_self _, zF ⟨q, q, q, q, trivial⟩ trivial trivial q⟩
    ·have h := zJ h hc
     refine W.exit<|Sq.e<|Sq.e<|Bl.e<|Sq.n<|W.seq<|W.region<|vm q q q q q<|va q q q q q<|on0<|Sq.n<|W.conv (Conv.nlsl 2 q)<|W.ret ?_
     obtain rfl := Option.some.inj h
     exact Fin.r q (.cons (.tmp _ _ q) .nil) q
end
section
open Go Go.RowKit
set_option maxRecDepth 4000
attribute [local irreducible] W Ops GS GSG
def zCQ (n : Nat) (v0 : zN) : Option (Bool) := (wV n v0).bind fun v101 => some ((decide (0 < (v101.length : Int))))
theorem yBC (n : Nat) (v0 : zN) {r : (Bool)} (h : zCQ n v0 = some r) :
  Fun Tryz.prog 89 [.agg (yA v0)] (.ret (.b r)) := by
 unfold zCQ at h
 refine zU 7 Tryz.func89 q q q ?_
 intro w0 F0
 change W _ _ (Ev [(0, .pv (.agg (yA v0)))]) _
 refine W.seq<|W.region<|ob (xB q q q q q) q q<|va q q q q q<|on0<|Sq.n<|W.seq<|W.region<|ov (zS q q q q q xG yU q q) q ?_
 obtain ⟨v101, e101, h⟩ := bind_some h
 refine ov (zD q q q zOM q (zUS _ _ e101)) q<|ov (zM (l := v101) (enc := eI) q xR q q q) q<|ov (gR q q q q q) q<|va q q q q q<|on0<|Sq.n<|W.ret ?_
 obtain rfl := Option.some.inj h
 exact Fin.r q (.cons (.tmp _ _ q) .nil) q
def nI (K1 : Int → yY → Option (yY)) (v111 : Int) (v126 : bF) (v129 : bF) (v130 : yY) : Option (yY) := K1 (wr (v111 + 1)) (yY.mk (zC.mk (min v130.rough.low v129.rough) (max v130.rough.high v126.rough)) (zC.mk (min v130.thick.low v129.thick) (max v130.thick.high v126.thick)))
def gI (n : Nat) (v0 : zN) (v1 : Int) (v2 : Int) (v101 : (List Int)) : Nat → Int → yY → Option (yY)
| 0, _, _ => none
| k1 + 1, v111, v112 => bif (decide (v111 < (v101.length : Int))) then ( (ix v101 v111).bind fun v122 => (qQ n v0 v122).bind fun v123 => (ix v0.batches v1).bind fun v124 => (uA n v123.1 false).bind fun v125 => (oZ n v124 v125 v2).bind fun v126 => (ix v0.batches v1).bind fun v127 => (uA n v123.1 true).bind fun v128 => (oZ n v127 v128 v2).bind fun v129 =>
 bif (decide (v111 = 0)) then ( nI (gI n v0 v1 v2 v101 k1) v111 v126 v129 (yY.mk (zC.mk v129.rough v126.rough) (zC.mk v129.thick v126.thick)) ) else ( nI (gI n v0 v1 v2 v101 k1) v111 v126 v129 v112 ) ) else ( some (v112) )
def wU (n : Nat) (v0 : zN) (v1 : Int) (v2 : Int) : Option (yY) := (wV n v0).bind fun v101 => gI n v0 v1 v2 v101 n 0 (yY.mk (zC.mk 0 0) (zC.mk 0 0))
theorem zUN (n : Nat) (v0 : zN) (v1 : Int) (v2 : Int) {r : (yY)} (h : wU n v0 v1 v2 = some r) :
  Fun Tryz.prog 94 [.agg (yA v0), .val (.int .i64 v1), .val (.int .i64 v2)] (.ret (.agg (jV r))) := by
 unfold wU at h
 refine zU 91 Tryz.func94 q q q ?_
 intro w0 F0
 change W _ _ (Ev [(0, .pv (.agg (yA v0))), (1, .pv (.i v1)), (2, .pv (.i v2))]) _
 refine W.seq<|W.region<|ob (xB q q q q q) q q<|ob (zZ q q q lW) q q<|on0<|Sq.n<|W.seq<|W.region<|ob (zZ q q q lW) q q<|on0<|Sq.n<|W.seq<|W.region<|ov (zS q q q q q xG yU q q) q ?_
 obtain ⟨v101, e101, h⟩ := bind_some h
 refine ov (zD q q q zOM q (zUS _ _ e101)) q<|va q q q q q<|on0<|Sq.n<|W.seq<|W.seq<|W.region<|va q q q q q<|on0<|Sq.n<|W.block<|W.loop (σ := Nat × Int × yY) (fun s => (⟨[(1, .pv (.i v1)), (2, .pv (.i v2)), (3, .box 3 0), (6, .box 6 0), (7, .box 7 0), (8, .pv (.sl (List.map eI v101))), (9, .pv (.i s.2.1))], [(3, 27, (bD v0)), (6, 71, [.pv (.i 0), .pv (.i 0), .pv (.i 0), .pv (.i 0)]), (7, 71, [.pv (.i s.2.2.rough.low), .pv (.i s.2.2.rough.high), .pv (.i s.2.2.thick.low), .pv (.i s.2.2.thick.high)])], []⟩ : Env)) (fun s => gI n v0 v1 v2 v101 s.1 s.2.1 s.2.2 = some r) (fun s => s.1) (n, 0, (yY.mk (zC.mk 0 0) (zC.mk 0 0))) h (zF ⟨q, q, q, q, q, q, q, trivial⟩ ⟨q, q, q, trivial⟩ trivial q) ?_
 rintro ⟨k1, v111, v112⟩ h
 change gI n v0 v1 v2 v101 k1 v111 v112 = some r at h
 rcases k1 with _ | k1
 ·rw [gI] at h
  cases h
 ·rw [gI] at h
  change W _ _ (⟨[(1, .pv (.i v1)), (2, .pv (.i v2)), (3, .box 3 0), (6, .box 6 0), (7, .box 7 0), (8, .pv (.sl (List.map eI v101))), (9, .pv (.i v111))], [(3, 27, (bD v0)), (6, 71, [.pv (.i 0), .pv (.i 0), .pv (.i 0), .pv (.i 0)]), (7, 71, [.pv (.i v112.rough.low), .pv (.i v112.rough.high), .pv (.i v112.thick.low), .pv (.i v112.thick.high)])], []⟩ : Env) _
  refine W.seq<|W.seq<|W.region<|vm q q q q q<|vm q q q q q<|ov (zM (l := v101) (enc := eI) q xR q q q) q<|ov (yF q q q q q) q<|on0<|Sq.n<|W.cond (b := (decide (v111 < (v101.length : Int)))) q (fun hc => ?_) (fun hc => ?_)
  ·have h := zI h hc
   refine W.skip<|Sq.n<|W.seq<|W.block<|W.seq ?_
   obtain ⟨v122, e122, h⟩ := bind_some h
   obtain ⟨v123, e123, h⟩ := bind_some h
   refine W.draw (m := 10) Checked.mixed (Pre.v (GSG.of q (zS q q q q q xG yU q q)) ((Pre.v (GSG.of q (zA q q q q)) ((Pre.v (GSG.of q (zA q q q q)) ((Pre.v (GSG.of q (zT (l := v101) (enc := eI) e122 q q q q q yH q)) ((Pre.v (GSG.of q (zK q q q q q zL)) ((Pre.v (GSG.of q (zD q q q zOL q (zUR _ _ _ e123))) ((Pre.v (GSG.of q (zA q q q q)) ((Pre.v (GSG.of q (zO q q q q q)) ((Pre.v (GSG.of q (zO q q q q q)) ((Pre.v (GSG.of q (yC q q q q)) (Pre.nil _)))))))))))))))))))) (by kernel_rfl)<|va q q q q q<|on0<|Sq.n<|W.seq ?_
   obtain ⟨v124, e124, h⟩ := bind_some h
   obtain ⟨v125, e125, h⟩ := bind_some h
   obtain ⟨v126, e126, h⟩ := bind_some h
   obtain ⟨v127, e127, h⟩ := bind_some h
   obtain ⟨v128, e128, h⟩ := bind_some h
   obtain ⟨v129, e129, h⟩ := bind_some h
   refine W.draw (m := 20) Checked.mixed (Pre.v (GSG.of q (zG q q q q kG)) ((Pre.v (GSG.of q (zE q q q q q q jJ)) ((Pre.v (GSG.of q (zA q q q q)) ((Pre.v (GSG.of q (zT (l := v0.batches) (enc := zX) e124 q q q q q dA q)) ((Pre.v (GSG.of q (yX q q q q bQ gK q q)) ((Pre.v (GSG.of q (zA q q q q)) ((Pre.v (GSG.of q (zD q q q zON q (zUT _ _ _ e125))) ((Pre.v (GSG.of q (zA q q q q)) ((Pre.v (GSG.of q (zD q q q zKA q (zPA _ _ _ _ e126))) ((Pre.v (GSG.of q (zG q q q q kG)) ((Pre.v (GSG.of q (zE q q q q q q jJ)) ((Pre.v (GSG.of q (zA q q q q)) ((Pre.v (GSG.of q (zT (l := v0.batches) (enc := zX) e127 q q q q q dA q)) ((Pre.v (GSG.of q (yX q q q q bQ gK q q)) ((Pre.v (GSG.of q (zA q q q q)) ((Pre.v (GSG.of q (zD q q q zON q (zUT _ _ _ e128))) ((Pre.v (GSG.of q (zA q q q q)) ((Pre.v (GSG.of q (zD q q q zKA q (zPA _ _ _ _ e129))) ((Pre.b (GSG.of q (zZ q q q sU)) q ((Pre.b (GSG.of q (zZ q q q sU)) q (Pre.nil _)))))))))))))))))))))))))))))))))))))))) (by kernel_rfl)<|Ops.step q (zP q q q q q q oY q q)<|Ops.step q (zP q q q q q q oY q q)<|on0<|Sq.n<|W.seqJ (σ := yY) (fun s => (⟨[(1, .pv (.i v1)), (2, .pv (.i v2)), (3, .box 3 0), (6, .box 6 0), (7, .box 7 0), (8, .pv (.sl (List.map eI v101))), (9, .pv (.i v111)), (12, .box 12 0), (13, .box 13 0)], [(3, 27, (bD v0)), (6, 71, [.pv (.i 0), .pv (.i 0), .pv (.i 0), .pv (.i 0)]), (7, 71, [.pv (.i s.rough.low), .pv (.i s.rough.high), .pv (.i s.thick.low), .pv (.i s.thick.high)]), (12, 69, [.pv (.i v126.rough), .pv (.i v126.thick)]), (13, 69, [.pv (.i v129.rough), .pv (.i v129.thick)])], []⟩ : Env)) (fun s => nI (gI n v0 v1 v2 v101 k1) v111 v126 v129 s = some r) ?_ ?_
   ·refine W.seq<|W.region<|vm q q q q q<|ov (kR q q q q q) q<|on0<|Sq.n<|W.cond (b := (decide (v111 = 0))) q (fun hc => ?_) (fun hc => ?_)
    ·have h := zI h hc
     refine W.region<|ov (zG q q q q oA) q<|ov (zE q q q q q q zL) q<|ov (zG q q q q oA) q<|ov (zE q q q q q q zL) q<|ov (yN (cs := (zH (zC.mk v129.rough v126.rough))) q q q xA kW q q) q<|ov (zG q q q q nZ) q<|ov (zE q q q q q q zL) q<|ov (zG q q q q nZ) q<|ov (zE q q q q q q zL) q<|ov (yN (cs := (zH (zC.mk v129.thick v126.thick))) q q q xA kW q q) q<|ov (yN (cs := (jV (yY.mk (zC.mk v129.rough v126.rough) (zC.mk v129.thick v126.thick)))) q q q lW zGL q q) q<|Ops.step q (zP q q q q q q dU q q)<|on0<|Sq.n<|⟨(yY.mk (zC.mk v129.rough v126.rough) (zC.mk v129.thick v126.thick)), h, zF ⟨q, q, q, q, q, q, q, q, q, trivial⟩ ⟨q, q, q, q, q, trivial⟩ trivial q⟩
    ·have h := zJ h hc
     refine W.skip<|Sq.n<|⟨v112, h, zF ⟨q, q, q, q, q, q, q, q, q, trivial⟩ ⟨q, q, q, q, q, trivial⟩ trivial q⟩
   ·rintro v130 h
    change nI (gI n v0 v1 v2 v101 k1) v111 v126 v129 v130 = some r at h
    unfold nI at h
    change W _ _ (⟨[(1, .pv (.i v1)), (2, .pv (.i v2)), (3, .box 3 0), (6, .box 6 0), (7, .box 7 0), (8, .pv (.sl (List.map eI v101))), (9, .pv (.i v111)), (12, .box 12 0), (13, .box 13 0)], [(3, 27, (bD v0)), (6, 71, [.pv (.i 0), .pv (.i 0), .pv (.i 0), .pv (.i 0)]), (7, 71, [.pv (.i v130.rough.low), .pv (.i v130.rough.high), .pv (.i v130.thick.low), .pv (.i v130.thick.high)]), (12, 69, [.pv (.i v126.rough), .pv (.i v126.thick)]), (13, 69, [.pv (.i v129.rough), .pv (.i v129.thick)])], []⟩ : Env) _
    exact W.seq<|W.region<|ov (zG q q q q iM) q<|ov (zG q q q q yZ) q<|ov (zE q q q q q q zL) q<|ov (zG q q q q oA) q<|ov (zE q q q q q q zL) q<|ov (pG q q q q q) q<|ov (zG q q q q iM) q<|ov (zG q q q q xE) q<|ov (zE q q q q q q zL) q<|ov (zG q q q q oA) q<|ov (zE q q q q q q zL) q<|ov (fC q q q q q) q<|ov (yN (cs := (zH (zC.mk (min v130.rough.low v129.rough) (max v130.rough.high v126.rough)))) q q q xA kW q q) q<|ov (zG q q q q iM) q<|Ops.step q (zP q q q q q q yG q q)<|on0<|Sq.n<|W.region<|ov (zG q q q q iL) q<|ov (zG q q q q yZ) q<|ov (zE q q q q q q zL) q<|ov (zG q q q q nZ) q<|ov (zE q q q q q q zL) q<|ov (pG q q q q q) q<|ov (zG q q q q iL) q<|ov (zG q q q q xE) q<|ov (zE q q q q q q zL) q<|ov (zG q q q q nZ) q<|ov (zE q q q q q q zL) q<|ov (fC q q q q q) q<|ov (yN (cs := (zH (zC.mk (min v130.thick.low v129.thick) (max v130.thick.high v126.thick)))) q q q xA kW q q) q<|ov (zG q q q q iL) q<|Ops.step q (zP q q q q q q yG q q)<|on0<|Bl.n<|Sq.n<|W.region<|vm q q q q q<|ov (zW q q q q q) q<|va q q q q q<|on0<|Sq.n<|⟨(k1, wr (v111 + 1), (yY.mk (zC.mk (min v130.rough.low v129.rough) (max v130.rough.high v126.rough)) (zC.mk (min v130.thick.low v129.thick) (max v130.thick.high v126.thick)))), h, Nat.lt_succ_self _, zF ⟨q, q, q, q, q, q, q, trivial⟩ ⟨q, q, q, trivial⟩ trivial q⟩
  ·have h := zJ h hc
   refine W.exit<|Sq.e<|Sq.e<|Bl.e<|Sq.n<|W.seq<|W.region<|ov (zS q q q q q rV dU q q) q<|Ops.step q (zP q q q q q q dU q q)<|on0<|Sq.n<|W.ret ?_
   obtain rfl := Option.some.inj h
   exact Fin.r q (.cons (.agg _ _ _ _ (jV v112) q q rV dU) .nil) q
end
section
open Go Go.RowKit
set_option maxRecDepth 4000
attribute [local irreducible] W Ops GS GSG
def nT (n : Nat) (v0 : zN) (v102 : Bool) : Option (Int) := bif v102 then ( some (2) ) else ( (zCQ n v0).bind fun v103 => bif (!v103) then ( some (7) ) else ( some (0) ) )
def wZ (n : Nat) (v0 : zN) (v1 : Bool) : Option (Int) := (zCY n v0).bind fun v101 => bif (!v101) then ( nT n v0 true ) else ( nT n v0 (!v1) )
theorem zUX (n : Nat) (v0 : zN) (v1 : Bool) {r : (Int)} (h : wZ n v0 v1 = some r) :
  Fun Tryz.prog 27 [.agg (yA v0), .b v1] (.ret (.val (.int .i64 r))) := by
 unfold wZ at h
 refine zU 15 Tryz.func27 q q q ?_
 intro w0 F0
 change W _ _ (Ev [(0, .pv (.agg (yA v0))), (1, .pv (.b v1))]) _
 refine W.seq<|W.region<|ob (xB q q q q q) q q<|va q q q q q<|on0<|Sq.n<|W.seq<|W.seqJ (σ := Bool) (fun s => (⟨[(2, .box 2 0), (11, .pv (.b s))], [(2, 27, (bD v0))], []⟩ : Env)) (fun s => nT n v0 s = some r) ?_ ?_
 ·refine W.region<|ov (zS q q q q q xG yU q q) q ?_
  obtain ⟨v101, e101, h⟩ := bind_some h
  refine ov (zD q q q zYD q (yBR _ _ e101)) q<|ov (yW q q q q) q<|vm q q q q q<|Ops.split 8 q (fun hb => ?_) (fun hb => ?_)
  ·have h := zI h hb
   refine o2 q q q q q q<|o2 q q q q q q<|vt q q q q q q<|on0<|Sq.n<|⟨true, h, zF ⟨q, q, trivial⟩ ⟨q, trivial⟩ trivial q⟩
  ·have h := zJ h hb
   refine on q q q<|vm q q q q q<|on q q q<|ov (yW q q q q) q<|vf q q q q q q<|on0<|Sq.n<|⟨(!v1), h, zF ⟨q, q, trivial⟩ ⟨q, trivial⟩ trivial q⟩
 ·rintro v102 h
  change nT n v0 v102 = some r at h
  unfold nT at h
  change W _ _ (⟨[(2, .box 2 0), (11, .pv (.b v102))], [(2, 27, (bD v0))], []⟩ : Env) _
  refine W.cond (b := v102) q (fun hc => ?_) (fun hc => ?_)
  ·have h := zI h hc
   refine W.seq<|W.region<|va q q q q q<|on0<|Sq.n<|W.ret<|Sq.r ?_
   obtain rfl := Option.some.inj h
   exact Fin.r q (.cons (.tmp _ _ q) .nil) q
  ·have h := zJ h hc
   refine W.skip<|Sq.n<|W.seq<|W.seq<|W.region<|ov (zS q q q q q xG yU q q) q ?_
   obtain ⟨v103, e103, h⟩ := bind_some h
   refine ov (zD q q q zXO q (yBC _ _ e103)) q<|ov (yW q q q q) q<|on0<|Sq.n<|W.cond (b := (!v103)) q (fun hc => ?_) (fun hc => ?_)
   ·have h := zI h hc
    refine W.seq<|W.region<|va q q q q q<|on0<|Sq.n<|W.ret<|Sq.r ?_
    obtain rfl := Option.some.inj h
    exact Fin.r q (.cons (.tmp _ _ q) .nil) q
   ·have h := zJ h hc
    refine W.skip<|Sq.n<|W.seq<|W.region<|va q q q q q<|on0<|Sq.n<|W.ret ?_
    obtain rfl := Option.some.inj h
    exact Fin.r q (.cons (.tmp _ _ q) .nil) q
def eF (n : Nat) (v0 : zN) (v1 : Int) : Nat → Int → Option (Int)
| 0, _ => none
| k1 + 1, v103 => bif (decide (v103 ≤ v0.hours)) then ( (wU n v0 v1 v103).bind fun v106 => (ix v0.batches v1).bind fun v107 => bif (decide (v106.rough.high ≤ v107.goal)) then ( some (v103) ) else ( (eF n v0 v1 k1) (wr (v103 + 1)) ) ) else ( some ((-1)) )
def zDA (n : Nat) (v0 : zN) (v1 : Int) : Option (Int) := eF n v0 v1 n 0
theorem yBU (n : Nat) (v0 : zN) (v1 : Int) {r : (Int)} (h : zDA n v0 v1 = some r) :
  Fun Tryz.prog 33 [.agg (yA v0), .val (.int .i64 v1)] (.ret (.val (.int .i64 r))) := by
 unfold zDA at h
 refine zU 26 Tryz.func33 q q q ?_
 intro w0 F0
 change W _ _ (Ev [(0, .pv (.agg (yA v0))), (1, .pv (.i v1))]) _
 refine W.seq<|W.region<|ob (xB q q q q q) q q<|va q q q q q<|on0<|Sq.n<|W.seq<|W.seq<|W.region<|va q q q q q<|on0<|Sq.n<|W.block<|W.loop (σ := Nat × Int) (fun s => (⟨[(1, .pv (.i v1)), (2, .box 2 0), (5, .pv (.i s.2))], [(2, 27, (bD v0))], []⟩ : Env)) (fun s => eF n v0 v1 s.1 s.2 = some r) (fun s => s.1) (n, 0) h (zF ⟨q, q, q, trivial⟩ ⟨q, trivial⟩ trivial q) ?_
 rintro ⟨k1, v103⟩ h
 change eF n v0 v1 k1 v103 = some r at h
 rcases k1 with _ | k1
 ·rw [eF] at h
  cases h
 ·rw [eF] at h
  change W _ _ (⟨[(1, .pv (.i v1)), (2, .box 2 0), (5, .pv (.i v103))], [(2, 27, (bD v0))], []⟩ : Env) _
  refine W.seq<|W.seq<|W.region<|vm q q q q q<|ov (zG q q q q xW) q<|ov (zE q q q q q q zL) q<|ov (jI q q q q q) q<|on0<|Sq.n<|W.cond (b := (decide (v103 ≤ v0.hours))) q (fun hc => ?_) (fun hc => ?_)
  ·have h := zI h hc
   refine W.skip<|Sq.n<|W.seq<|W.block<|W.seq ?_
   obtain ⟨v106, e106, h⟩ := bind_some h
   obtain ⟨v107, e107, h⟩ := bind_some h
   refine W.draw (m := 12) Checked.mixed (Pre.v (GSG.of q (zS q q q q q xG yU q q)) ((Pre.v (GSG.of q (zA q q q q)) ((Pre.v (GSG.of q (zA q q q q)) ((Pre.v (GSG.of q (zD q q q zOH q (zUN _ _ _ _ e106))) ((Pre.v (GSG.of q (pH q q q q zFX xY yG q q)) ((Pre.v (GSG.of q (pI q q q q zFY zL q)) ((Pre.v (GSG.of q (zG q q q q kG)) ((Pre.v (GSG.of q (zE q q q q q q jJ)) ((Pre.v (GSG.of q (zA q q q q)) ((Pre.v (GSG.of q (zT (l := v0.batches) (enc := zX) e107 q q q q q dA q)) ((Pre.v (GSG.of q (yB q q q q oF q)) ((Pre.v (GSG.of q (zK q q q q q zL)) (Pre.nil _)))))))))))))))))))))))) (by kernel_rfl)<|ov (jI q q q q q) q<|on0<|Sq.n<|W.cond (b := (decide (v106.rough.high ≤ v107.goal))) q (fun hc => ?_) (fun hc => ?_)
   ·have h := zI h hc
    refine W.seq<|W.region<|vm q q q q q<|va q q q q q<|on0<|Sq.n<|W.ret<|Bl.r<|Sq.r<|Sq.r<|Bl.r<|Sq.r ?_
    obtain rfl := Option.some.inj h
    exact Fin.r q (.cons (.tmp _ _ q) .nil) q
   ·have h := zJ h hc
    exact W.skip<|Bl.n<|Sq.n<|W.region<|vm q q q q q<|ov (zW q q q q q) q<|va q q q q q<|on0<|Sq.n<|⟨(k1, wr (v103 + 1)), h, Nat.lt_succ_self _, zF ⟨q, q, q, trivial⟩ ⟨q, trivial⟩ trivial q⟩
  ·have h := zJ h hc
   refine W.exit<|Sq.e<|Sq.e<|Bl.e<|Sq.n<|W.seq<|W.region<|va q q q q q<|on0<|Sq.n<|W.ret ?_
   obtain rfl := Option.some.inj h
   exact Fin.r q (.cons (.tmp _ _ q) .nil) q
def eE (n : Nat) (v0 : zN) (v1 : Int) : Nat → Int → Option (Int)
| 0, _ => none
| k1 + 1, v103 => bif (decide (0 ≤ v103)) then ( (wU n v0 v1 v103).bind fun v106 => (ix v0.batches v1).bind fun v107 => bif (decide (v107.least ≤ v106.thick.low)) then ( some (v103) ) else ( (eE n v0 v1 k1) (wr (v103 - 1)) ) ) else ( some ((-1)) )
def zCZ (n : Nat) (v0 : zN) (v1 : Int) : Option (Int) := eE n v0 v1 n v0.hours
theorem yBT (n : Nat) (v0 : zN) (v1 : Int) {r : (Int)} (h : zCZ n v0 v1 = some r) :
  Fun Tryz.prog 34 [.agg (yA v0), .val (.int .i64 v1)] (.ret (.val (.int .i64 r))) := by
 unfold zCZ at h
 refine zU 26 Tryz.func34 q q q ?_
 intro w0 F0
 change W _ _ (Ev [(0, .pv (.agg (yA v0))), (1, .pv (.i v1))]) _
 refine W.seq<|W.region<|ob (xB q q q q q) q q<|va q q q q q<|on0<|Sq.n<|W.seq<|W.seq<|W.region<|ov (zG q q q q xW) q<|ov (zE q q q q q q zL) q<|va q q q q q<|on0<|Sq.n<|W.block<|W.loop (σ := Nat × Int) (fun s => (⟨[(1, .pv (.i v1)), (2, .box 2 0), (5, .pv (.i s.2))], [(2, 27, (bD v0))], []⟩ : Env)) (fun s => eE n v0 v1 s.1 s.2 = some r) (fun s => s.1) (n, v0.hours) h (zF ⟨q, q, q, trivial⟩ ⟨q, trivial⟩ trivial q) ?_
 rintro ⟨k1, v103⟩ h
 change eE n v0 v1 k1 v103 = some r at h
 rcases k1 with _ | k1
 ·rw [eE] at h
  cases h
 ·rw [eE] at h
  change W _ _ (⟨[(1, .pv (.i v1)), (2, .box 2 0), (5, .pv (.i v103))], [(2, 27, (bD v0))], []⟩ : Env) _
  refine W.seq<|W.seq<|W.region<|vm q q q q q<|ov (gS q q q q q) q<|on0<|Sq.n<|W.cond (b := (decide (0 ≤ v103))) q (fun hc => ?_) (fun hc => ?_)
  ·have h := zI h hc
   refine W.skip<|Sq.n<|W.seq<|W.block<|W.seq ?_
   obtain ⟨v106, e106, h⟩ := bind_some h
   obtain ⟨v107, e107, h⟩ := bind_some h
   refine W.draw (m := 12) Checked.mixed (Pre.v (GSG.of q (zS q q q q q xG yU q q)) ((Pre.v (GSG.of q (zA q q q q)) ((Pre.v (GSG.of q (zA q q q q)) ((Pre.v (GSG.of q (zD q q q zOH q (zUN _ _ _ _ e106))) ((Pre.v (GSG.of q (pH q q q q zFW xY yG q q)) ((Pre.v (GSG.of q (pI q q q q zFZ zL q)) ((Pre.v (GSG.of q (zG q q q q kG)) ((Pre.v (GSG.of q (zE q q q q q q jJ)) ((Pre.v (GSG.of q (zA q q q q)) ((Pre.v (GSG.of q (zT (l := v0.batches) (enc := zX) e107 q q q q q dA q)) ((Pre.v (GSG.of q (yB q q q q oD q)) ((Pre.v (GSG.of q (zK q q q q q zL)) (Pre.nil _)))))))))))))))))))))))) (by kernel_rfl)<|ov (gS q q q q q) q<|on0<|Sq.n<|W.cond (b := (decide (v107.least ≤ v106.thick.low))) q (fun hc => ?_) (fun hc => ?_)
   ·have h := zI h hc
    refine W.seq<|W.region<|vm q q q q q<|va q q q q q<|on0<|Sq.n<|W.ret<|Bl.r<|Sq.r<|Sq.r<|Bl.r<|Sq.r ?_
    obtain rfl := Option.some.inj h
    exact Fin.r q (.cons (.tmp _ _ q) .nil) q
   ·have h := zJ h hc
    exact W.skip<|Bl.n<|Sq.n<|W.region<|vm q q q q q<|ov (xH q q q q q) q<|va q q q q q<|on0<|Sq.n<|⟨(k1, wr (v103 - 1)), h, Nat.lt_succ_self _, zF ⟨q, q, q, trivial⟩ ⟨q, trivial⟩ trivial q⟩
  ·have h := zJ h hc
   refine W.exit<|Sq.e<|Sq.e<|Bl.e<|Sq.n<|W.seq<|W.region<|va q q q q q<|on0<|Sq.n<|W.ret ?_
   obtain rfl := Option.some.inj h
   exact Fin.r q (.cons (.tmp _ _ q) .nil) q
end
section
open Go Go.RowKit
set_option maxRecDepth 4000
attribute [local irreducible] W Ops GS GSG
def nL (K1 : Int → (List zC) → Option ((List zC))) (v115 : Int) (v116 : (List zC)) (v126 : Int) (v127 : Int) : Option ((List zC)) := (app v116 ([(zC.mk v126 v127)])).bind fun v128 => K1 (wr (v115 + 1)) v128
def lB (K1 : Int → (List zC) → Option ((List zC))) (v115 : Int) (v116 : (List zC)) (v123 : Int) (v124 : Int) (v125 : Bool) : Option ((List zC)) := bif v125 then ( nL K1 v115 v116 1 0 ) else ( nL K1 v115 v116 v123 v124 )
def fB (n : Nat) (v0 : zN) : Nat → Int → (List zC) → Option ((List zC))
| 0, _, _ => none
| k1 + 1, v115, v116 => bif (decide (v115 < (v0.batches.length : Int))) then ( (zDA n v0 v115).bind fun v123 => (zCZ n v0 v115).bind fun v124 => bif (decide (v123 < 0)) then ( lB (fB n v0 k1) v115 v116 v123 v124 true ) else ( bif (decide (v124 < 0)) then ( lB (fB n v0 k1) v115 v116 v123 v124 true ) else (
 lB (fB n v0 k1) v115 v116 v123 v124 (decide (v124 < v123)) ) ) ) else ( some (v116) )
def uB (n : Nat) (v0 : zN) : Option ((List zC)) := fB n v0 n 0 []
theorem zMZ (n : Nat) (v0 : zN) {r : ((List zC))} (h : uB n v0 = some r) :
  Fun Tryz.prog 55 [.agg (yA v0)] (.ret (.sl (r.map zH))) := by
 unfold uB at h
 refine zU 38 Tryz.func55 q q q ?_
 intro w0 F0
 change W _ _ (Ev [(0, .pv (.agg (yA v0)))]) _
 refine W.seq<|W.region<|ob (xB q q q q q) q q<|va q q q q q<|on0<|Sq.n<|W.seq<|W.region<|va q q q q q<|on0<|Sq.n<|W.seq<|W.seq<|W.region<|va q q q q q<|on0<|Sq.n<|W.block<|W.conv (Conv.nilrow 3 36 57 2 q q)<|W.loop (σ := Nat × Int × (List zC)) (fun s => (⟨[(1, .box 1 0), (3, .row 36), (4, .pv (.i s.2.1))], [(1, 27, (bD v0))], [(36, ⟨57, 2, List.map zH s.2.2⟩)]⟩ : Env)) (fun s => fB n v0 s.1 s.2.1 s.2.2 = some r) (fun s => s.1) (n, 0, []) h (zF ⟨q, q, q, trivial⟩ ⟨q, trivial⟩ ⟨q, trivial⟩ q) ?_
 rintro ⟨k1, v115, v116⟩ h
 change fB n v0 k1 v115 v116 = some r at h
 rcases k1 with _ | k1
 ·rw [fB] at h
  cases h
 ·rw [fB] at h
  change W _ _ (⟨[(1, .box 1 0), (3, .row 36), (4, .pv (.i v115))], [(1, 27, (bD v0))], [(36, ⟨57, 2, List.map zH v116⟩)]⟩ : Env) _
  refine W.seq<|W.seq<|W.region<|vm q q q q q<|ov (zG q q q q kG) q<|ov (zE q q q q q q jJ) q<|ov (zM (l := v0.batches) (enc := zX) q fA q q q) q<|ov (yF q q q q q) q<|on0<|Sq.n<|W.cond (b := (decide (v115 < (v0.batches.length : Int)))) q (fun hc => ?_) (fun hc => ?_)
  ·have h := zI h hc
   refine W.skip<|Sq.n<|W.seq<|W.block<|W.seq ?_
   obtain ⟨v123, e123, h⟩ := bind_some h
   refine W.draw (m := 5) Checked.mixed (Pre.v (GSG.of q (zS q q q q q xG yU q q)) ((Pre.v (GSG.of q (zA q q q q)) ((Pre.v (GSG.of q (zD q q q zYG q (yBU _ _ _ e123))) ((Pre.v (GSG.of q (zS q q q q q xG yU q q)) ((Pre.v (GSG.of q (zA q q q q)) (Pre.nil _)))))))))) (by kernel_rfl) ?_
   obtain ⟨v124, e124, h⟩ := bind_some h
   refine ov (zD q q q zYF q (yBT _ _ _ e124)) q<|va q q q q q<|va q q q q q<|on0<|Sq.n<|W.seqJ (σ := Int × Int) (fun s => (⟨[(1, .box 1 0), (3, .row 36), (4, .pv (.i v115)), (5, .pv (.i s.1)), (6, .pv (.i s.2))], [(1, 27, (bD v0))], [(36, ⟨57, 2, List.map zH v116⟩)]⟩ : Env)) (fun s => nL (fB n v0 k1) v115 v116 s.1 s.2 = some r) ?_ ?_
   ·refine W.seqJ (σ := Bool) (fun s => (⟨[(1, .box 1 0), (3, .row 36), (4, .pv (.i v115)), (5, .pv (.i v123)), (6, .pv (.i v124)), (30, .pv (.b s))], [(1, 27, (bD v0))], [(36, ⟨57, 2, List.map zH v116⟩)]⟩ : Env)) (fun s => lB (fB n v0 k1) v115 v116 v123 v124 s = some r) ?_ ?_
    ·refine W.region<|vm q q q q q<|ov (yF q q q q q) q<|vm q q q q q<|Ops.split 22 q (fun hb => ?_) (fun hb => ?_)
     ·have h := zI h hb
      refine o2 q q q q q q<|o2 q q q q q q<|vt q q q q q q<|vm q q q q q<|o2 q q q q q q<|o2 q q q q q q<|o2 q q q q q q<|vt q q q q q q<|on0<|Sq.n<|⟨true, h, zF ⟨q, q, q, q, q, q, trivial⟩ ⟨q, trivial⟩ ⟨q, trivial⟩ q⟩
     ·have h := zJ h hb
      refine on q q q<|vm q q q q q<|on q q q<|ov (yF q q q q q) q<|vf q q q q q q<|vm q q q q q<|Ops.split 26 q (fun hb => ?_) (fun hb => ?_)
      ·have h := zI h hb
       refine o2 q q q q q q<|o2 q q q q q q<|o2 q q q q q q<|vt q q q q q q<|on0<|Sq.n<|⟨true, h, zF ⟨q, q, q, q, q, q, trivial⟩ ⟨q, trivial⟩ ⟨q, trivial⟩ q⟩
      ·have h := zJ h hb
       refine on q q q<|vm q q q q q<|on q q q<|vm q q q q q<|on q q q<|ov (gR q q q q q) q<|vf q q q q q q<|on0<|Sq.n<|⟨(decide (v124 < v123)), h, zF ⟨q, q, q, q, q, q, trivial⟩ ⟨q, trivial⟩ ⟨q, trivial⟩ q⟩
    ·rintro v125 h
     change lB (fB n v0 k1) v115 v116 v123 v124 v125 = some r at h
     unfold lB at h
     change W _ _ (⟨[(1, .box 1 0), (3, .row 36), (4, .pv (.i v115)), (5, .pv (.i v123)), (6, .pv (.i v124)), (30, .pv (.b v125))], [(1, 27, (bD v0))], [(36, ⟨57, 2, List.map zH v116⟩)]⟩ : Env) _
     refine W.cond (b := v125) q (fun hc => ?_) (fun hc => ?_)
     ·have h := zI h hc
      refine W.region<|va q q q q q<|va q q q q q<|on0<|Sq.n<|⟨(1, 0), h, zF ⟨q, q, q, q, q, trivial⟩ ⟨q, trivial⟩ ⟨q, trivial⟩ q⟩
     ·have h := zJ h hc
      refine W.skip<|Sq.n<|⟨(v123, v124), h, zF ⟨q, q, q, q, q, trivial⟩ ⟨q, trivial⟩ ⟨q, trivial⟩ q⟩
   ·rintro ⟨v126, v127⟩ h
    change nL (fB n v0 k1) v115 v116 v126 v127 = some r at h
    unfold nL at h
    change W _ _ (⟨[(1, .box 1 0), (3, .row 36), (4, .pv (.i v115)), (5, .pv (.i v126)), (6, .pv (.i v127))], [(1, 27, (bD v0))], [(36, ⟨57, 2, List.map zH v116⟩)]⟩ : Env) _
    refine W.region<|vm q q q q q<|vm q q q q q<|vm q q q q q<|ov (yN (cs := (zH (zC.mk v126 v127))) q q q xA kW q q) q<|Ops.r (zQ (cs := [.val (.int .i64 v126), .val (.int .i64 v127)]) (es := List.map zH [(zC.mk v126 v127)]) q q q kF ⟨_, xA⟩ q q q q q q) q q ?_
    obtain ⟨v128, e128, h⟩ := bind_some h
    exact Ops.step q (xJ (enc := zH) e128 q q q q q q q q zBV (fun _ => q))<|va q q q q q<|on0<|Bl.n<|Sq.n<|W.region<|vm q q q q q<|ov (zW q q q q q) q<|va q q q q q<|on0<|Sq.n<|⟨(k1, wr (v115 + 1), v128), h, Nat.lt_succ_self _, zF ⟨q, q, q, trivial⟩ ⟨q, trivial⟩ ⟨q, trivial⟩ q⟩
  ·have h := zJ h hc
   refine W.exit<|Sq.e<|Sq.e<|Bl.e<|Sq.n<|W.seq<|W.region<|vm q q q q q<|va q q q q q<|on0<|Sq.n<|W.share (k := 36) q<|W.ret ?_
   obtain rfl := Option.some.inj h
   exact Fin.r q (.cons (.tmp _ _ q) .nil) q
def lC (n : Nat) (v0 : zN) (v1 : (List Int)) (v104 : (List yM)) (v105 : Int) : Option (Bool × Int) := bif (!decide (v105 = 0)) then ( some ((false, v105)) ) else ( (qP n v0 v104).bind fun v106 => (tF n v106 v1).bind fun v107 => some ((v107, 0)) )
def zCX (n : Nat) (v0 : zN) (v1 : (List Int)) : Option (Bool × Int) := bif (decide ((v1.length : Int) = (v0.batches.length : Int))) then ( (qX n v1 (fun z0 => zBR n z0 v0)).bind fun v101 => (cT n v0 (!v101)).bind fun v102 => lC n v0 v1 v102.1 v102.2 ) else ( (cT n v0 false).bind fun v103 => lC n v0 v1 v103.1 v103.2 )
theorem yBN (n : Nat) (v0 : zN) (v1 : (List Int)) {r : (Bool × Int)} (h : zCX n v0 v1 = some r) :
  Fun Tryz.prog 50 [.agg (yA v0), .sl (v1.map eI)] (.ret (.tup [.b r.1, .val (.int .i64 r.2)])) := by
 unfold zCX at h
 refine zU 33 Tryz.func50 q q q ?_
 intro w0 F0
 change W _ _ (Ev [(0, .pv (.agg (yA v0))), (1, .pv (.sl (List.map eI v1)))]) _
 refine W.seq<|W.region<|ob (xB q q q q q) q q<|va q q q q q<|va q q q q q<|on0<|Sq.n<|W.seqJ (σ := (List yM) × Int) (fun s => (Ev [(1, .pv (.sl (List.map eI v1))), (2, .pv (.ref [.sl (List.map yJ v0.acids), .val (.int .i64 v0.known), .val (.int .i64 v0.hours), .sl (List.map eI v0.adds), .sl (List.map yL v0.strips), .sl (List.map zX v0.batches)])), (6, .pv (.sl (List.map zV s.1))), (7, .pv (.i s.2))])) (fun s => lC n v0 v1 s.1 s.2 = some r) ?_ ?_
 ·refine W.conv (Conv.freeze (k := 2) (cs := [.sl (List.map yJ v0.acids), .val (.int .i64 v0.known), .val (.int .i64 v0.hours), .sl (List.map eI v0.adds), .sl (List.map yL v0.strips), .sl (List.map zX v0.batches)]) q) ?_
  rcases Bool.eq_false_or_eq_true ((decide ((v1.length : Int) = (v0.batches.length : Int)))) with hb2 | hb2
  ·have h := zI h hb2
   obtain ⟨v101, e101, h⟩ := bind_some h
   obtain ⟨v102, e102, h⟩ := bind_some h
   refine W.draw (m := 18) Checked.mixed (Pre.v (GSG.of q (yX q q q q xG yU q q)) ((Pre.v (GSG.of q (zA q q q q)) ((Pre.v (GSG.of q (zM (l := v1) (enc := eI) q xR q q q)) ((Pre.v (GSG.of q (yB q q q q kG q)) ((Pre.v (GSG.of q (zK q q q q q jJ)) ((Pre.v (GSG.of q (zM (l := v0.batches) (enc := zX) q fA q q q)) ((Pre.v (GSG.of q (kR q q q q q)) ((Pre.v (GSG.as (GSG.of q (zA q q q q)) (congrArg (fun b => TV.pv (PV.b b)) hb2)) ((Pre.v (GSG.on q q q (zA q q q q)) ((Pre.v (GSG.on q q q (bP q q q q q)) ((Pre.v (GSG.on q q q (zD q q q wH q (zBY _ _ _ zUH (fun _ y e => zZR _ _ _ e) e101))) ((Pre.v (GSG.on q q q (yW q q q q)) ((Pre.v (GSG.of q (yQ q q q q q)) ((Pre.v (GSG.of q (zD q q q eP q (lU _ _ _ e102))) ((Pre.v (GSG.of q (zA q q q q)) ((Pre.v (GSG.of q (zO q q q q q)) ((Pre.v (GSG.of q (zO q q q q q)) ((Pre.v (GSG.of q (yC q q q q)) (Pre.nil _)))))))))))))))))))))))))))))))))))) (by kernel_rfl)<|va q q q q q<|on0<|Sq.n<|⟨(v102.1, v102.2), h, zF ⟨q, q, q, q, trivial⟩ trivial trivial q⟩
  ·have h := zJ h hb2
   obtain ⟨v103, e103, h⟩ := bind_some h
   refine W.draw (m := 18) Checked.mixed (Pre.v (GSG.of q (yX q q q q xG yU q q)) ((Pre.v (GSG.of q (zA q q q q)) ((Pre.v (GSG.of q (zM (l := v1) (enc := eI) q xR q q q)) ((Pre.v (GSG.of q (yB q q q q kG q)) ((Pre.v (GSG.of q (zK q q q q q jJ)) ((Pre.v (GSG.of q (zM (l := v0.batches) (enc := zX) q fA q q q)) ((Pre.v (GSG.of q (kR q q q q q)) ((Pre.v (GSG.as (GSG.of q (zA q q q q)) (congrArg (fun b => TV.pv (PV.b b)) hb2)) ((Pre.v (GSG.off2 q q q q q q) ((Pre.v (GSG.off2 q q q q q q) ((Pre.v (GSG.off2 q q q q q q) ((Pre.v (GSG.off2 q q q q q q) ((Pre.v (GSG.of q (yT q q q q q)) ((Pre.v (GSG.of q (zD q q q eP q (lU _ _ _ e103))) ((Pre.v (GSG.of q (zA q q q q)) ((Pre.v (GSG.of q (zO q q q q q)) ((Pre.v (GSG.of q (zO q q q q q)) ((Pre.v (GSG.of q (yC q q q q)) (Pre.nil _)))))))))))))))))))))))))))))))))))) (by kernel_rfl)<|va q q q q q<|on0<|Sq.n<|⟨(v103.1, v103.2), h, zF ⟨q, q, q, q, trivial⟩ trivial trivial q⟩
 ·rintro ⟨v104, v105⟩ h
  change lC n v0 v1 v104 v105 = some r at h
  unfold lC at h
  change W _ _ (Ev [(1, .pv (.sl (List.map eI v1))), (2, .pv (.ref [.sl (List.map yJ v0.acids), .val (.int .i64 v0.known), .val (.int .i64 v0.hours), .sl (List.map eI v0.adds), .sl (List.map yL v0.strips), .sl (List.map zX v0.batches)])), (6, .pv (.sl (List.map zV v104))), (7, .pv (.i v105))]) _
  refine W.seq<|W.seq<|W.region<|vm q q q q q<|ov (kN q q q q q) q<|on0<|Sq.n<|W.cond (b := (!decide (v105 = 0))) q (fun hc => ?_) (fun hc => ?_)
  ·have h := zI h hc
   refine W.seq<|W.region<|vm q q q q q<|va q q q q q<|va q q q q q<|on0<|Sq.n<|W.ret<|Sq.r ?_
   obtain rfl := Option.some.inj h
   exact Fin.r q (.cons (.tmp _ _ q) (.cons (.tmp _ _ q) .nil)) q
  ·have h := zJ h hc
   refine W.skip<|Sq.n<|W.seq<|W.region<|ov (yX q q q q xG yU q q) q<|vm q q q q q ?_
   obtain ⟨v106, e106, h⟩ := bind_some h
   refine ov (zD q q q wC q (zEQ _ _ _ e106)) q<|vm q q q q q ?_
   obtain ⟨v107, e107, h⟩ := bind_some h
   refine ov (zD q q q zKI q (zPG _ _ _ e107)) q<|va q q q q q<|va q q q q q<|on0<|Sq.n<|W.ret ?_
   obtain rfl := Option.some.inj h
   exact Fin.r q (.cons (.tmp _ _ q) (.cons (.tmp _ _ q) .nil)) q
end
section
open Go Go.RowKit
set_option maxRecDepth 4000
attribute [local irreducible] W Ops GS GSG
def cK (n : Nat) (K1 : Int → Option ((List Int))) (v0 : (List zC)) (v112 : Int) (v124 : (List (List Int))) : Nat → Int → Option ((List Int))
| 0, _ => none
| k4 + 1, v128 => bif (decide (v128 < (v124.length : Int))) then ( (ix v124 v128).bind fun v132 => (vI n v0 v132).bind fun v133 => bif v133 then ( (ix v124 v128).bind fun v134 => some (v134) ) else ( (cK n K1 v0 v112 v124 k4) (wr (v128 + 1)) ) ) else ( K1 (wr (v112 - 1)) )
def bZ (n : Nat) (v0 : (List zC)) : Nat → Int → Option ((List Int))
| 0, _ => none
| k1 + 1, v112 => bif (decide (0 < v112)) then ( (eJ n 0 (v0.length : Int) v112).bind fun v124 => cK n (bZ n v0 k1) v0 v112 v124 n 0 ) else ( some ([]) )
def zCT (n : Nat) (v0 : (List zC)) : Option ((List Int)) := bZ n v0 n (v0.length : Int)
theorem yBJ (n : Nat) (v0 : (List zC)) {r : ((List Int))} (h : zCT n v0 = some r) :
  Fun Tryz.prog 60 [.sl (v0.map zH)] (.ret (.sl (r.map eI))) := by
 unfold zCT at h
 refine zU 32 Tryz.func60 q q q ?_
 intro w0 F0
 change W _ _ (Ev [(0, .pv (.sl (List.map zH v0)))]) _
 refine W.seq<|W.region<|va q q q q q<|on0<|Sq.n<|W.seq<|W.seq<|W.region<|vm q q q q q<|ov (zM (l := v0) (enc := zH) q aI q q q) q<|va q q q q q<|on0<|Sq.n<|W.block<|W.loop (σ := Nat × Int) (fun s => (Ev [(0, .pv (.sl (List.map zH v0))), (3, .pv (.i s.2))])) (fun s => bZ n v0 s.1 s.2 = some r) (fun s => s.1) (n, (v0.length : Int)) h (zF ⟨q, q, trivial⟩ trivial trivial q) ?_
 rintro ⟨k1, v112⟩ h
 change bZ n v0 k1 v112 = some r at h
 rcases k1 with _ | k1
 ·rw [bZ] at h
  cases h
 ·rw [bZ] at h
  change W _ _ (Ev [(0, .pv (.sl (List.map zH v0))), (3, .pv (.i v112))]) _
  refine W.seq<|W.seq<|W.region<|vm q q q q q<|ov (gR q q q q q) q<|on0<|Sq.n<|W.cond (b := (decide (0 < v112))) q (fun hc => ?_) (fun hc => ?_)
  ·have h := zI h hc
   refine W.skip<|Sq.n<|W.seq<|W.block<|W.seq<|W.region<|vm q q q q q<|ov (zM (l := v0) (enc := zH) q aI q q q) q<|vm q q q q q ?_
   obtain ⟨v124, e124, h⟩ := bind_some h
   refine ov (zD q q q zKB q (zZL _ _ _ _ e124)) q<|va q q q q q<|on0<|Sq.n<|W.seq<|W.region<|va q q q q q<|on0<|Sq.n<|W.block<|W.loop (σ := Nat × Int) (fun s => (Ev [(0, .pv (.sl (List.map zH v0))), (3, .pv (.i v112)), (4, .pv (.sl (List.map (eL eI) v124))), (5, .pv (.i s.2))])) (fun s => cK n (bZ n v0 k1) v0 v112 v124 s.1 s.2 = some r) (fun s => s.1) (n, 0) h (zF ⟨q, q, q, q, trivial⟩ trivial trivial q) ?_
   rintro ⟨k4, v128⟩ h
   change cK n (bZ n v0 k1) v0 v112 v124 k4 v128 = some r at h
   rcases k4 with _ | k4
   ·rw [cK] at h
    cases h
   ·rw [cK] at h
    change W _ _ (Ev [(0, .pv (.sl (List.map zH v0))), (3, .pv (.i v112)), (4, .pv (.sl (List.map (eL eI) v124))), (5, .pv (.i v128))]) _
    refine W.seq<|W.seq<|W.region<|vm q q q q q<|vm q q q q q<|ov (zM (l := v124) (enc := (eL eI)) q pS q q q) q<|ov (yF q q q q q) q<|on0<|Sq.n<|W.cond (b := (decide (v128 < (v124.length : Int)))) q (fun hc => ?_) (fun hc => ?_)
    ·have h := zI h hc
     refine W.skip<|Sq.n<|W.seq<|W.block<|W.seq<|W.region<|vm q q q q q<|vm q q q q q<|vm q q q q q ?_
     obtain ⟨v132, e132, h⟩ := bind_some h
     refine ov (zT (l := v124) (enc := (eL eI)) e132 q q q q q fN q) q<|ov (zK q q q q q kS) q ?_
     obtain ⟨v133, e133, h⟩ := bind_some h
     refine ov (zD q q q zUC q (zZK _ _ _ e133)) q<|on0<|Sq.n<|W.cond (b := v133) q (fun hc => ?_) (fun hc => ?_)
     ·have h := zI h hc
      refine W.seq<|W.region<|vm q q q q q<|vm q q q q q ?_
      obtain ⟨v134, e134, h⟩ := bind_some h
      refine ov (zT (l := v124) (enc := (eL eI)) e134 q q q q q fN q) q<|ov (zK q q q q q kS) q<|va q q q q q<|on0<|Sq.n<|W.ret<|Bl.r<|Sq.r<|Sq.r<|Bl.r<|Bl.r<|Sq.r<|Sq.r<|Bl.r<|Sq.r ?_
      obtain rfl := Option.some.inj h
      exact Fin.r q (.cons (.tmp _ _ q) .nil) q
     ·have h := zJ h hc
      exact W.skip<|Bl.n<|Sq.n<|W.region<|vm q q q q q<|ov (zW q q q q q) q<|va q q q q q<|on0<|Sq.n<|⟨(k4, wr (v128 + 1)), h, Nat.lt_succ_self _, zF ⟨q, q, q, q, trivial⟩ trivial trivial q⟩
    ·have h := zJ h hc
     exact W.exit<|Sq.e<|Sq.e<|Bl.e<|Bl.n<|Sq.n<|W.region<|vm q q q q q<|ov (xH q q q q q) q<|va q q q q q<|on0<|Sq.n<|⟨(k1, wr (v112 - 1)), h, Nat.lt_succ_self _, zF ⟨q, q, trivial⟩ trivial trivial q⟩
  ·have h := zJ h hc
   refine W.exit<|Sq.e<|Sq.e<|Bl.e<|Sq.n<|W.seq<|W.region<|va q q q q q<|on0<|Sq.n<|W.conv (Conv.nilsl 2 q)<|W.ret ?_
   obtain rfl := Option.some.inj h
   exact Fin.r q (.cons (.tmp _ _ q) .nil) q
end
section
open Go Go.RowKit
set_option maxRecDepth 4000
attribute [local irreducible] W Ops GS GSG
def pX (v101 : Int) (v104 : Bool) : Option (Int) := bif v104 then ( some (5) ) else ( some (v101) )
def zCV (n : Nat) (v0 : zN) : Option (Int) := (wZ n v0 true).bind fun v101 => bif (decide (v101 = 0)) then ( (uB n v0).bind fun v102 => (vJ n v102).bind fun v103 => pX v101 (!v103) ) else ( pX v101 false )
theorem yBL (n : Nat) (v0 : zN) {r : (Int)} (h : zCV n v0 = some r) :
  Fun Tryz.prog 56 [.agg (yA v0)] (.ret (.val (.int .i64 r))) := by
 unfold zCV at h
 refine zU 15 Tryz.func56 q q q ?_
 intro w0 F0
 change W _ _ (Ev [(0, .pv (.agg (yA v0)))]) _
 refine W.seq<|W.region<|ob (xB q q q q q) q q<|va q q q q q<|on0<|Sq.n<|W.seq<|W.region<|ov (zS q q q q q xG yU q q) q ?_
 obtain ⟨v101, e101, h⟩ := bind_some h
 refine ov (zD q q q zOR q (zUX _ _ _ e101)) q<|va q q q q q<|on0<|Sq.n<|W.seq<|W.seqJ (σ := Bool) (fun s => (Ev [(3, .pv (.i v101)), (13, .pv (.b s))])) (fun s => pX v101 s = some r) ?_ ?_
 ·refine W.region<|vm q q q q q<|ov (kR q q q q q) q<|vm q q q q q<|Ops.split 8 q (fun hb => ?_) (fun hb => ?_)
  ·have h := zI h hb
   refine on q q q<|ov (zS q q q q q xG yU q q) q<|on q q q ?_
   obtain ⟨v102, e102, h⟩ := bind_some h
   refine ov (zD q q q zHW q (zMZ _ _ e102)) q<|on q q q ?_
   obtain ⟨v103, e103, h⟩ := bind_some h
   refine ov (zD q q q zUD q (zZM _ _ e103)) q<|on q q q<|ov (yW q q q q) q<|vt q q q q q q<|on0<|Sq.n<|⟨(!v103), h, zF ⟨q, q, trivial⟩ trivial trivial q⟩
  ·have h := zJ h hb
   refine o2 q q q q q q<|o2 q q q q q q<|o2 q q q q q q<|o2 q q q q q q<|vf q q q q q q<|on0<|Sq.n<|⟨false, h, zF ⟨q, q, trivial⟩ trivial trivial q⟩
 ·rintro v104 h
  change pX v101 v104 = some r at h
  unfold pX at h
  change W _ _ (Ev [(3, .pv (.i v101)), (13, .pv (.b v104))]) _
  refine W.cond (b := v104) q (fun hc => ?_) (fun hc => ?_)
  ·have h := zI h hc
   refine W.seq<|W.region<|va q q q q q<|on0<|Sq.n<|W.ret<|Sq.r ?_
   obtain rfl := Option.some.inj h
   exact Fin.r q (.cons (.tmp _ _ q) .nil) q
  ·have h := zJ h hc
   refine W.skip<|Sq.n<|W.seq<|W.region<|vm q q q q q<|va q q q q q<|on0<|Sq.n<|W.ret ?_
   obtain rfl := Option.some.inj h
   exact Fin.r q (.cons (.tmp _ _ q) .nil) q
end
section
open Go Go.RowKit Go.ChangeShapes Go.WideShapes Go.Deep
set_option maxRecDepth 100000
theorem yAF : ∀ t ∈ [3, 9, 23, 27, 54, 92], zND t := by
 have h : ([3, 9, 23, 27, 54, 92].all fun t => Tryz.prog.readableRec t && decide (t < Tryz.prog.types.size)) = true := by kernel_rfl
 intro t ht
 have := List.all_eq_true.1 h t ht
 rw [Bool.and_eq_true, decide_eq_true_eq] at this
 exact this
end
section
def zC.ok (s : zC) (most : Int) : Prop := 0 ≤ s.low ∧ s.low ≤ s.high ∧ s.high ≤ most
def zC.mem (s : zC) (x : Int) : Prop := s.low ≤ x ∧ x ≤ s.high
def zC.ne (s : zC) : Prop := s.low ≤ s.high
instance (s : zC) (m : Int) : Decidable (s.ok m) := by unfold zC.ok; infer_instance
instance (s : zC) (x : Int) : Decidable (s.mem x) := by unfold zC.mem; infer_instance
instance (s : zC) : Decidable s.ne := by unfold zC.ne; infer_instance
def yI.ok (b : yI) : Prop := (0 ≤ b.rough ∧ b.rough ≤ 1000) ∧ (0 ≤ b.goal ∧ b.goal ≤ 1000) ∧ (0 ≤ b.thick ∧ b.thick ≤ 1000) ∧ (0 ≤ b.least ∧ b.least ≤ 1000) ∧ (0 ≤ b.polish ∧ b.polish ≤ 100) ∧ (0 ≤ b.eat ∧ b.eat ≤ 100)
def xM.ok (s : xM) (hours : Int) : Prop := (0 ≤ s.hour ∧ s.hour ≤ hours - 1) ∧ (0 ≤ s.seen ∧ s.seen ≤ 2000) ∧ (0 ≤ s.off ∧ s.off ≤ 50)
def xO.ok (a : xO) : Prop := a.strength.ok 100 ∧ a.fall.ok 20
instance (b : yI) : Decidable b.ok := by unfold yI.ok; infer_instance
instance (s : xM) (h : Int) : Decidable (s.ok h) := by unfold xM.ok; infer_instance
instance (a : xO) : Decidable a.ok := by unfold xO.ok; infer_instance
structure zN.ok (d : zN) : Prop where
 acl : 1 ≤ d.acids.length ∧ d.acids.length ≤ 4
 kn : 1 ≤ d.known ∧ d.known ≤ 2 ^ d.acids.length - 1
 hr : 1 ≤ d.hours ∧ d.hours ≤ 12
 adl : (d.adds.length : Int) = d.hours
 stl : d.strips.length ≤ 6
 btl : 1 ≤ d.batches.length ∧ d.batches.length ≤ 5
 ac : ∀ a ∈ d.acids, a.ok
 ad : ∀ x ∈ d.adds, 0 ≤ x ∧ x ≤ 100
 st : ∀ s ∈ d.strips, s.ok d.hours
 bt : ∀ b ∈ d.batches, b.ok
def cap (a b : zC) : zC := ⟨max a.low b.low, min a.high b.high⟩
def kL (s : zC) (l : List zC) : zC := l.foldl cap s
def xM.span (s : xM) : zC := ⟨s.seen - s.off, s.seen + s.off⟩
def xI (l : List xM) (h : Nat) : List zC := (l.filter fun s => s.hour == (h : Int)).map xM.span
def kU (l : List Int) (h : Nat) : Int := l.getD h 0
def aft (a : xO) (add : Int) (s : zC) : zC := ⟨max 0 (s.low - a.fall.high) + add, max 0 (s.high - a.fall.low) + add⟩
def bef (a : xO) (add : Int) (s : zC) : zC := ⟨if add < s.low then s.low - add + a.fall.low else 0, s.high - add + a.fall.high⟩
def start (a : xO) (add : Int) : zC := ⟨a.strength.low + add, a.strength.high + add⟩
def fw (ad : List Int) (st : List xM) (a : xO) : Nat → zC
 | 0 => kL (start a (kU ad 0)) (xI st 0)
 | h + 1 => kL (aft a (kU ad (h + 1)) (fw ad st a h)) (xI st (h + 1))
def bk (ad : List Int) (st : List xM) (a : xO) (H : Nat) : Nat → zC
 | 0 => fw ad st a (H - 1)
 | k + 1 => cap (fw ad st a (H - 1 - (k + 1))) (bef a (kU ad (H - 1 - k)) (bk ad st a H k))
def aE (ad : List Int) (st : List xM) (a : xO) (H : Nat) : Prop := ∀ h, h < H → (fw ad st a h).ne
theorem zQQ {a b : zC} {x : Int} : (cap a b).mem x ↔ a.mem x ∧ b.mem x := by simp only [cap, zC.mem]; omega
theorem oO {l : List zC} : ∀ {s : zC} {x : Int}, (kL s l).mem x ↔ s.mem x ∧ ∀ t ∈ l, t.mem x := by
 induction l with
 | nil => intro s x; simp [kL]
 | cons t l ih =>
  intro s x
  have := @ih (cap s t) x
  simp only [kL, List.foldl_cons, List.mem_cons, forall_eq_or_imp] at this ⊢
  rw [this, zQQ]
  constructor
  ·rintro ⟨⟨h1, h2⟩, h3⟩; exact ⟨h1, h2, h3⟩
  ·rintro ⟨h1, h2, h3⟩; exact ⟨⟨h1, h2⟩, h3⟩
theorem uK {l : List zC} : ∀ {s : zC}, s.low ≤ (kL s l).low ∧ (kL s l).high ≤ s.high := by
 induction l with
 | nil => intro s; simp [kL]
 | cons t l ih =>
  intro s
  have := @ih (cap s t)
  simp only [kL, List.foldl_cons] at this ⊢
  simp only [cap] at this ⊢
  omega
theorem zDQ {s : zC} (h : s.ne) : s.mem s.low ∧ s.mem s.high := by simp only [zC.ne, zC.mem] at *; omega
section
variable {ad : List Int} {st : List xM} {a : xO} {H : Nat}
theorem fM (had : ∀ x ∈ ad, 0 ≤ x ∧ x ≤ 100) (h : Nat) : 0 ≤ kU ad h ∧ kU ad h ≤ 100 := by
 unfold kU
 rw [List.getD_eq_getElem?_getD]
 cases hh : ad[h]? with
 | none => simp
 | some x => simpa using had x (List.mem_of_getElem? hh)
theorem sL (ha : a.ok) (had : ∀ x ∈ ad, 0 ≤ x ∧ x ≤ 100) : ∀ h, 0 ≤ (fw ad st a h).low ∧ (fw ad st a h).high ≤ 100 + 100 * (h + 1) := by
 intro h
 obtain ⟨h1, h2⟩ := ha
 simp only [zC.ok] at h1 h2
 induction h with
 | zero =>
  have := fM had 0
  have := @uK (xI st 0) (start a (kU ad 0))
  simp only [fw]
  simp only [start] at this ⊢
  omega
 | succ h ih =>
  have := fM had (h + 1)
  have := @uK (xI st (h + 1)) (aft a (kU ad (h + 1)) (fw ad st a h))
  simp only [fw]
  simp only [aft] at this ⊢
  push_cast
  omega
theorem zZV (ha : a.ok) (had : ∀ x ∈ ad, 0 ≤ x ∧ x ≤ 100) (hp : aE ad st a H) : ∀ k, k < H → (bk ad st a H k).ne ∧ (fw ad st a (H - 1 - k)).low ≤ (bk ad st a H k).low ∧ (bk ad st a H k).high ≤ (fw ad st a (H - 1 - k)).high := by
 intro k
 induction k with
 | zero => intro hk; exact ⟨hp _ (by omega), by simp [bk]⟩
 | succ k ih =>
  intro hk
  obtain ⟨i1, i2, i3⟩ := ih (by omega)
  have hn := hp (H - 1 - (k + 1)) (by omega)
  have e : H - 1 - k = H - 1 - (k + 1) + 1 := by omega
  have hl := sL (st := st) ha had (H - 1 - (k + 1))
  have hadd := fM had (H - 1 - k)
  have hc := @uK (xI st (H - 1 - k)) (aft a (kU ad (H - 1 - k)) (fw ad st a (H - 1 - (k + 1))))
  have he : fw ad st a (H - 1 - k) = kL (aft a (kU ad (H - 1 - k)) (fw ad st a (H - 1 - (k + 1)))) (xI st (H - 1 - k)) := by
   rw [e]; rfl
  rw [← he] at hc
  obtain ⟨h1, h2⟩ := ha
  simp only [zC.ok] at h1 h2
  simp only [bk, cap, bef, aft, zC.ne] at *
  split <;> omega
def bd (ad : List Int) (st : List xM) (a : xO) (H h : Nat) : zC := bk ad st a H (H - 1 - h)
theorem zGB (_hH : 0 < H) : bd ad st a H (H - 1) = fw ad st a (H - 1) := by simp [bd, bk]
theorem zAJ {h : Nat} (hh : h + 1 < H) : bd ad st a H h = cap (fw ad st a h) (bef a (kU ad (h + 1)) (bd ad st a H (h + 1))) := by
 unfold bd
 obtain ⟨k, hk⟩ : ∃ k, H - 1 - h = k + 1 := ⟨H - 1 - h - 1, by omega⟩
 have e1 : H - 1 - (h + 1) = k := by omega
 rw [hk, e1, bk]
 have e2 : H - 1 - (k + 1) = h := by omega
 have e3 : H - 1 - k = h + 1 := by omega
 rw [e2, e3]
theorem zIF (ha : a.ok) (had : ∀ x ∈ ad, 0 ≤ x ∧ x ≤ 100) (hp : aE ad st a H) {h : Nat} (hh : h < H) : (bd ad st a H h).ne ∧ (fw ad st a h).low ≤ (bd ad st a H h).low ∧ (bd ad st a H h).high ≤ (fw ad st a h).high := by
 have := zZV ha had hp (H - 1 - h) (by omega)
 have e : H - 1 - (H - 1 - h) = h := by omega
 rw [e] at this
 exact this
end
end
end Go.Proofs.YtohmhlkdgfcaeaaGreatDoor
