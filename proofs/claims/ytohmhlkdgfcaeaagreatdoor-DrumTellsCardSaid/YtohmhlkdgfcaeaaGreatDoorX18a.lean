/- DrumTells: whatever a strip shows in the hour that is told, at most one acid is possible then; and the acid of a truth that the strip agrees with is. For every input that can be read as data, the tables of Go's library being as their text lays them: the call returns true, and each argument reads behind it as before. -/
import Derived.Laws.BytesArg
import Derived.Laws.OwnMore
import Derived.Laws.Entries
import Derived.Test.YtohmhlkdgfcaeaaGreatDoorProg
import Derived.KernelRfl
import Derived.Test.YtohmhlkdgfcaeaaGreatDoorTie
import Derived.Test.YtohmhlkdgfcaeaaGreatDoorCards
import Derived.Test.YtohmhlkdgfcaeaaGreatDoorK8
set_option linter.unusedVariables false
set_option linter.unusedSimpArgs false
namespace Go.Proofs.YtohmhlkdgfcaeaaGreatDoor
open Go Go.RowKit
section
variable {X : Cx} {E : Env} {Q : Exit → Env → Prop} {ops : Array Oper} {rest : List Oper} {o : Oper} {S : Sl} {d : Nat} {x y : Operand}
theorem s_append_nil {ts : List (Nat × TV)} {bs : List (Nat × TypeId × List TV)} {rs : List (Nat × RowS)} {t e : TypeId} {sz : Nat} {v : TV} {es : List (List PV)} (ho : o.op = .call { callee := .builtin .append, args := #[x, y], argTypes := #[t, t] }) (hd : o.dst = some d) (hdn : Nat.ble (d + 1) X.nt = true)
  (hx : evT ⟨ts, bs, rs⟩ x = some (.pv (.val (.slice none 0 0)))) (hk : lk rs d = none) (hy : evT ⟨ts, bs, rs⟩ y = some v) (hs : Src ⟨ts, bs, rs⟩ v sz es) (hT : ElX X.P t e sz) (hb : es.length ≤ 1000000) :
  Step X o ⟨ts, bs, rs⟩ ⟨(d, .row d) :: ts, bs, (d, ⟨e, sz, es⟩) :: rs⟩ := by
 intro g F a w K Q hr hK
 have hxv := evT_val hr hx
 have hyv := evT_rel hr hy
 obtain ⟨A, cap, news, n1, n2, n3, n4, n5, n6⟩ := hs.news hr hyv
 obtain ⟨v', w', r1, r2, r3, r4⟩ := run_append_any (ty := o.type) hT (World.ownsRow_nil w X.w0.heap.size e sz) (cap := cap) n2 n3 n4 (by simpa using hb) hr.ext.size
 unfold Oper.wp
 simp only [execOp, ho, resolve, invoke, builtin, Sem.run_bind, Sem.run_pure, Result.andThen_ok, List.map_toArray, List.map_cons, List.map_nil, hxv, n1, r1, Oper.upon, hd]
 have h0 := hr.row_nil e sz hk
 have hk0 : lk ((d, (⟨e, sz, []⟩ : RowS)) :: rs) d = some ⟨e, sz, []⟩ := by rw [lk_cons, if_pos rfl]
 have h1 := h0.setrow (R' := ⟨e, sz, es⟩) (v := .slice none 0 0) (v' := v') (w' := w') (inner' := [] ++ news) hk0 (if_pos rfl) (turns_grown h0 (k := d) (if_pos rfl) r3) (by simpa using r2)
  (by have := flat_append (w := w) (F := F) (es := []) (inner := []) ⟨by simp, by simp, by simp⟩ n2 n6 n5; simpa using this) r4
 suffices hs2 : ∃ g2, Rel X.w0 X.F0 X.nt g2 F ⟨ts, bs, (d, ⟨e, sz, es⟩) :: rs⟩ a w' ∧ g2.rw d = some v' by
  obtain ⟨g2, h2, h3⟩ := hs2
  exact hK g2 F _ _ (h2.put (Nat.le_of_ble_eq_true hdn) h3)
 refine ⟨_, ⟨h1.dfr, h1.sz, ?_, ?_, ?_, h1.bi, ?_, ?_, h1.ri, h1.rb, h1.ok, h1.ext, h1.le⟩, if_pos rfl⟩
 ·intro t' z hz
  obtain ⟨u, z1, z2⟩ := hr.ts t' z hz
  refine ⟨u, z1, ?_⟩
  have z3 : RelT w F g z u := z2
  have hup : RelT w' F g z u := (turns_grown h0 (k := d) (if_pos rfl) r3).relT z3
  refine RelT.gh g { bx := g.bx, rw := fun k' => if k' = d then some v' else if k' = d then some (Value.slice none 0 0) else g.rw k' } (fun _ _ h => h) (fun k' v2 hv2 => ?_) hup
  have hne : k' ≠ d := fun e => by rw [e, hr.rd d hk] at hv2; cases hv2
  simp only [if_neg hne]; exact hv2
 ·intro k' T' cs' hk'
  obtain ⟨b', us, z1, z2, z3, z4, z5, z6⟩ := hr.bs k' T' cs' hk'
  have htn := turns_grown h0 (k := d) (if_pos rfl) r3
  refine ⟨b', us, z1, htn.heap (by simp [Value.ownBlock]) z2, z3, fun j c u hc hu => ?_, z5, z6⟩
  refine RelT.gh g { bx := g.bx, rw := fun k' => if k' = d then some v' else if k' = d then some (Value.slice none 0 0) else g.rw k' } (fun _ _ h => h) (fun k' v2 hv2 => ?_) (htn.relT (z4 j c u hc hu))
  have hne : k' ≠ d := fun e => by rw [e, hr.rd d hk] at hv2; cases hv2
  simp only [if_neg hne]; exact hv2
 ·intro k' hk'; exact hr.bd k' hk'
 ·intro k' R' hk'
  refine h1.rs k' R' ?_
  simp only [lk_cons] at hk' ⊢
  by_cases he : d = k'
  ·rw [if_pos he] at hk' ⊢; exact hk'
  ·rw [if_neg he] at hk' ⊢; rw [if_neg he]; exact hk'
 ·intro k' hk'
  refine h1.rd k' ?_
  simp only [lk_cons] at hk' ⊢
  by_cases he : d = k'
  ·rw [if_pos he] at hk'; cases hk'
  ·rw [if_neg he] at hk' ⊢; rw [if_neg he]; exact hk'
end
end Go.Proofs.YtohmhlkdgfcaeaaGreatDoor
namespace Go.Proofs.YtohmhlkdgfcaeaaGreatDoor
open Go Go.RowKit
section
variable {X : Cx} {E E' : Env} {Q : Exit → Env → Prop} {ops : Array Oper} {rest : List Oper} {o : Oper} {S : Sl} {d : Nat} {x y : Operand}
variable {α : Type} {enc : α → List PV}
theorem s_appendNS {ts : List (Nat × TV)} {bs : List (Nat × TypeId × List TV)} {rs : List (Nat × RowS)} {t T : TypeId} {sz : Nat} {l2 l3 : List α} (hq : app ([] : List α) l2 = some l3) (ho : o.op = .call { callee := .builtin .append, args := #[x, y], argTypes := #[t, t] }) (hd : o.dst = some d) (hdn : Nat.ble (d + 1) X.nt = true)
  (hx : evT ⟨ts, bs, rs⟩ x = some (.pv (.val (.slice none 0 0)))) (hk : lk rs d = none) (hy : evT ⟨ts, bs, rs⟩ y = some (.pv (.sl (l2.map enc)))) (hT : ElX X.P t T sz) (hone : ∀ q, (enc q).all PV.one = true) (hlen : ∀ q, (enc q).length = sz) :
  Step X o ⟨ts, bs, rs⟩ ⟨(d, .row d) :: ts, bs, (d, ⟨T, sz, l3.map enc⟩) :: rs⟩ := by
 obtain ⟨q1, q2⟩ := app_eq hq
 have q3 : l2 = l3 := q2.symm
 subst q3
 exact s_append_nil ho hd hdn hx hk hy (Src.sl (l2.map enc) sz (by simpa using fun q _ => hlen q) (by intro e he c hc; obtain ⟨q, _, rfl⟩ := List.mem_map.1 he; exact List.all_eq_true.1 (hone q) c hc)) hT (by simpa using q1)
variable {T T' : TypeId} {k : IntKind} {a b c : Int}
end
end Go.Proofs.YtohmhlkdgfcaeaaGreatDoor
namespace Go.Proofs.YtohmhlkdgfcaeaaGreatDoor
open Go Go.RowKit
theorem ag_54 : AggIs Tryz.prog 54 true := AggIs.mk (by kernel_rfl)
theorem ca_116 : Callable Tryz.prog 116 := by unfold Callable; kernel_rfl
theorem ca_117 : Callable Tryz.prog 117 := by unfold Callable; kernel_rfl
theorem ca_165 : Callable Tryz.prog 165 := by unfold Callable; kernel_rfl
theorem ca_23 : Callable Tryz.prog 23 := by unfold Callable; kernel_rfl
theorem ca_24 : Callable Tryz.prog 24 := by unfold Callable; kernel_rfl
theorem ca_39 : Callable Tryz.prog 39 := by unfold Callable; kernel_rfl
theorem ca_44 : Callable Tryz.prog 44 := by unfold Callable; kernel_rfl
theorem ca_68 : Callable Tryz.prog 68 := by unfold Callable; kernel_rfl
theorem fl_54_0 : FldIs Tryz.prog 54 0 0 := FldIs.mk (n := 1) (by kernel_rfl) rfl
theorem fl_54_1 : FldIs Tryz.prog 54 1 1 := FldIs.mk (n := 1) (by kernel_rfl) rfl
theorem sz_54 : SzIs Tryz.prog 54 2 := SzIs.mk (by kernel_rfl)
end Go.Proofs.YtohmhlkdgfcaeaaGreatDoor
namespace Go.Proofs.YtohmhlkdgfcaeaaGreatDoor
open Go Go.RowKit
set_option maxRecDepth 4000
attribute [local irreducible] W Ops GS GSG
def s_115 (n : Nat) (v0 : Acid) (v1 : Int) (v2 : Span) : Option (Span) := some ((Span.mk (wr ((max 0 (wr (v2.low - v0.fall.high))) + v1)) (wr ((max 0 (wr (v2.high - v0.fall.low))) + v1))))
end Go.Proofs.YtohmhlkdgfcaeaaGreatDoor
namespace Go.Proofs.YtohmhlkdgfcaeaaGreatDoor
open Go Go.RowKit
set_option maxRecDepth 4000
attribute [local irreducible] W Ops GS GSG
def s_44 (n : Nat) (v0 : Drum) (v1 : Truth) : Option (Bool) := (s_103 n v1.acid 0 (wr ((v0.acids.length : Int) - 1))).bind fun v101 => bif v101 then ( some ((decide ((v1.strength.length : Int) = v0.hours))) ) else ( some (false) )
theorem c_44 (n : Nat) (v0 : Drum) (v1 : Truth) {r : (Bool)} (h : s_44 n v0 v1 = some r) :
  Fun Tryz.prog 44 [.agg (cDrum v0), .agg (cTruth v1)] (.ret (.b r)) := by
 unfold s_44 at h
 refine enterW 20 Tryz.func44 q q q ?_
 intro w0 F0
 change W _ _ (Ev [(0, .pv (.agg (cDrum v0))), (1, .pv (.agg (cTruth v1)))]) _
 refine W.seq<|W.region<|ob (g_box q q q q q) q q<|ob (g_box q q q q q) q q<|va q q q q q<|on0<|Sq.n<|W.seq<|W.region<|ov (g_fld q q q q fl_54_0) q<|ov (g_load1 q q q q q q ag_3) q<|ov (g_fld q q q q fl_27_0) q<|ov (g_load1 q q q q q q ag_22) q<|ov (g_lenM (l := v0.acids) (enc := cAcid) q ul_22 q q q) q<|ov (g_sub q q q q q) q ?_
 obtain ⟨v101, e101, h⟩ := bind_some h
 refine ov (g_call q q q ca_103 q (c_103 _ _ _ _ e101)) q<|vm q q q q q<|Ops.split 12 q (fun hb => ?_) (fun hb => ?_)
 ·have h := bif_t h hb
  refine on q q q<|ov (g_fld q q q q fl_54_1) q<|on q q q<|ov (g_load1 q q q q q q ag_23) q<|on q q q<|ov (g_lenM (l := v1.strength) (enc := eI) q ul_23 q q q) q<|on q q q<|ov (g_fld q q q q fl_27_2) q<|on q q q<|ov (g_load1 q q q q q q ag_3) q<|on q q q<|ov (g_eql q q q q q) q<|vt q q q q q q<|va q q q q q<|on0<|Sq.n<|W.ret ?_
  obtain rfl := Option.some.inj h
  exact Fin.r q (.cons (.tmp _ _ q) .nil) q
 ·have h := bif_f h hb
  refine o2 q q q q q q<|o2 q q q q q q<|o2 q q q q q q<|o2 q q q q q q<|o2 q q q q q q<|o2 q q q q q q<|vf q q q q q q<|va q q q q q<|on0<|Sq.n<|W.ret ?_
  obtain rfl := Option.some.inj h
  exact Fin.r q (.cons (.tmp _ _ q) .nil) q
def s_116 (n : Nat) (v0 : Drum) (v1 : Truth) : Option (Bool) := (s_87 n v1.acid 0 (wr ((v0.acids.length : Int) - 1))).bind fun v101 => bif v101 then ( some ((decide ((v1.strength.length : Int) = v0.hours))) ) else ( some (false) )
theorem c_116 (n : Nat) (v0 : Drum) (v1 : Truth) {r : (Bool)} (h : s_116 n v0 v1 = some r) :
  Fun Tryz.prog 116 [.agg (cDrum v0), .agg (cTruth v1)] (.ret (.b r)) := by
 unfold s_116 at h
 refine enterW 20 Tryz.func116 q q q ?_
 intro w0 F0
 change W _ _ (Ev [(0, .pv (.agg (cDrum v0))), (1, .pv (.agg (cTruth v1)))]) _
 refine W.seq<|W.region<|ob (g_box q q q q q) q q<|ob (g_box q q q q q) q q<|va q q q q q<|on0<|Sq.n<|W.seq<|W.region<|ov (g_fld q q q q fl_54_0) q<|ov (g_load1 q q q q q q ag_3) q<|ov (g_fld q q q q fl_27_0) q<|ov (g_load1 q q q q q q ag_22) q<|ov (g_lenM (l := v0.acids) (enc := cAcid) q ul_22 q q q) q<|ov (g_sub q q q q q) q ?_
 obtain ⟨v101, e101, h⟩ := bind_some h
 refine ov (g_call q q q ca_87 q (c_87 _ _ _ _ e101)) q<|vm q q q q q<|Ops.split 12 q (fun hb => ?_) (fun hb => ?_)
 ·have h := bif_t h hb
  refine on q q q<|ov (g_fld q q q q fl_54_1) q<|on q q q<|ov (g_load1 q q q q q q ag_23) q<|on q q q<|ov (g_lenM (l := v1.strength) (enc := eI) q ul_23 q q q) q<|on q q q<|ov (g_fld q q q q fl_27_2) q<|on q q q<|ov (g_load1 q q q q q q ag_3) q<|on q q q<|ov (g_eql q q q q q) q<|vt q q q q q q<|va q q q q q<|on0<|Sq.n<|W.ret ?_
  obtain rfl := Option.some.inj h
  exact Fin.r q (.cons (.tmp _ _ q) .nil) q
 ·have h := bif_f h hb
  refine o2 q q q q q q<|o2 q q q q q q<|o2 q q q q q q<|o2 q q q q q q<|o2 q q q q q q<|o2 q q q q q q<|vf q q q q q q<|va q q q q q<|on0<|Sq.n<|W.ret ?_
  obtain rfl := Option.some.inj h
  exact Fin.r q (.cons (.tmp _ _ q) .nil) q
def s_165 (n : Nat) (v0 : Strip) (v1 : Truth) : Option (Bool) := (ix v1.strength v0.hour).bind fun v101 => (s_87 n v101 (wr (v0.seen - v0.off)) (wr (v0.seen + v0.off))).bind fun v102 => some ((!v102))
theorem c_165 (n : Nat) (v0 : Strip) (v1 : Truth) {r : (Bool)} (h : s_165 n v0 v1 = some r) :
  Fun Tryz.prog 165 [.agg (cStrip v0), .ref (cTruth v1)] (.ret (.b r)) := by
 unfold s_165 at h
 refine enterW 22 Tryz.func165 q q q ?_
 intro w0 F0
 change W _ _ (Ev [(0, .pv (.agg (cStrip v0))), (1, .pv (.ref [.val (.int .i64 v1.acid), .sl (List.map eI v1.strength)]))]) _
 refine W.seq<|W.region<|ob (g_box q q q q q) q q<|va q q q q q<|on0<|Sq.n<|W.seq ?_
 obtain ⟨v101, e101, h⟩ := bind_some h
 refine W.draw (m := 16) Checked.mixed (Pre.v (GSG.of q (g_fldR q q q q fl_54_1 q)) ((Pre.v (GSG.of q (g_loadR1 q q q q q ag_23)) ((Pre.v (GSG.of q (g_fld q q q q fl_92_0)) ((Pre.v (GSG.of q (g_load1 q q q q q q ag_3)) ((Pre.v (GSG.of q (g_idxI (l := v1.strength) (enc := eI) e101 q q q q q el_23 q)) ((Pre.v (GSG.of q (g_loadR1 q q q q q ag_3)) ((Pre.v (GSG.of q (g_fld q q q q fl_92_1)) ((Pre.v (GSG.of q (g_load1 q q q q q q ag_3)) ((Pre.v (GSG.of q (g_fld q q q q fl_92_2)) ((Pre.v (GSG.of q (g_load1 q q q q q q ag_3)) ((Pre.v (GSG.of q (g_sub q q q q q)) ((Pre.v (GSG.of q (g_fld q q q q fl_92_1)) ((Pre.v (GSG.of q (g_load1 q q q q q q ag_3)) ((Pre.v (GSG.of q (g_fld q q q q fl_92_2)) ((Pre.v (GSG.of q (g_load1 q q q q q q ag_3)) ((Pre.v (GSG.of q (g_add q q q q q)) (Pre.nil _)))))))))))))))))))))))))))))))) (by kernel_rfl) ?_
 obtain ⟨v102, e102, h⟩ := bind_some h
 refine ov (g_call q q q ca_87 q (c_87 _ _ _ _ e102)) q<|ov (g_not q q q q) q<|va q q q q q<|on0<|Sq.n<|W.ret ?_
 obtain rfl := Option.some.inj h
 exact Fin.r q (.cons (.tmp _ _ q) .nil) q
end Go.Proofs.YtohmhlkdgfcaeaaGreatDoor
namespace Go.Proofs.YtohmhlkdgfcaeaaGreatDoor
open Go Go.RowKit
set_option maxRecDepth 4000
attribute [local irreducible] W Ops GS GSG
def s_117_j4 (n : Nat) (K1 : Int → Option (Bool)) (v0 : Drum) (v110 : Int) (v118 : Int) (v120 : Int) (v121 : Int) : Option (Bool) := (ix v0.adds v110).bind fun v122 => (ix v0.adds v110).bind fun v123 => (s_87 n v118 (wr (v120 + v122)) (wr (v121 + v123))).bind fun v124 => bif (!v124) then ( some (false) ) else ( K1 (wr (v110 + 1)) )
def s_117_l1 (n : Nat) (v0 : Drum) (v1 : Truth) (v102 : Acid) : Nat → Int → Option (Bool)
| 0, _ => none
| k1 + 1, v110 => bif (decide (v110 < (v1.strength.length : Int))) then ( (ix v1.strength v110).bind fun v118 => bif (decide (0 < v110)) then ( (ix v1.strength (wr (v110 - 1))).bind fun v119 => s_117_j4 n (s_117_l1 n v0 v1 v102 k1) v0 v110 v118 (max 0 (wr (v119 - v102.fall.high))) (max 0 (wr (v119 - v102.fall.low))) ) else (
 s_117_j4 n (s_117_l1 n v0 v1 v102 k1) v0 v110 v118 v102.strength.low v102.strength.high ) ) else ( (s_95 n v0.strips (fun z0 => s_165 n z0 v1)).bind fun v125 => some ((!v125)) )
def s_117 (n : Nat) (v0 : Drum) (v1 : Truth) : Option (Bool) := (s_145 n v0.known v1.acid).bind fun v101 => bif (!v101) then ( some (false) ) else ( (ix v0.acids v1.acid).bind fun v102 => s_117_l1 n v0 v1 v102 n 0 )
theorem c_117 (n : Nat) (v0 : Drum) (v1 : Truth) {r : (Bool)} (h : s_117 n v0 v1 = some r) :
  Fun Tryz.prog 117 [.agg (cDrum v0), .agg (cTruth v1)] (.ret (.b r)) := by
 unfold s_117 at h
 refine enterW 80 Tryz.func117 q q q ?_
 intro w0 F0
 change W _ _ (Ev [(0, .pv (.agg (cDrum v0))), (1, .pv (.agg (cTruth v1)))]) _
 refine W.seq<|W.region<|ob (g_box q q q q q) q q<|ob (g_box q q q q q) q q<|va q q q q q<|on0<|Sq.n<|W.seq<|W.seq<|W.region<|ov (g_fld q q q q fl_27_1) q<|ov (g_load1 q q q q q q ag_3) q<|ov (g_fld q q q q fl_54_0) q<|ov (g_load1 q q q q q q ag_3) q ?_
 obtain ⟨v101, e101, h⟩ := bind_some h
 refine ov (g_call q q q ca_145 q (c_145 _ _ _ e101)) q<|ov (g_not q q q q) q<|on0<|Sq.n<|W.cond (b := (!v101)) q (fun hc => ?_) (fun hc => ?_)
 ·have h := bif_t h hc
  refine W.seq<|W.region<|va q q q q q<|on0<|Sq.n<|W.ret<|Sq.r ?_
  obtain rfl := Option.some.inj h
  exact Fin.r q (.cons (.tmp _ _ q) .nil) q
 ·have h := bif_f h hc
  refine W.skip<|Sq.n<|W.seq<|W.region<|ov (g_fld q q q q fl_27_0) q<|ov (g_load1 q q q q q q ag_22) q<|ov (g_fld q q q q fl_54_0) q<|ov (g_load1 q q q q q q ag_3) q ?_
  obtain ⟨v102, e102, h⟩ := bind_some h
  refine ov (g_idxI (l := v0.acids) (enc := cAcid) e102 q q q q q el_22 q) q<|ov (g_loadRA q q q q ag_137 sz_137 q q) q<|ob (g_alloc q q q zr_137) q q<|Ops.step q (s_storeB q q q q q q sz_137 q q)<|on0<|Sq.n<|W.seq<|W.seq<|W.region<|ov (g_fld q q q q fl_54_1) q<|ov (g_load1 q q q q q q ag_23) q<|ov (g_lenM (l := v1.strength) (enc := eI) q ul_23 q q q) q<|vm q q q q q<|on0<|Sq.n<|W.block<|W.loop (σ := Nat × Int) (fun s => (⟨[(2, .box 2 0), (3, .box 3 0), (5, .box 5 0), (24, .pv (.sl (List.map eI v1.strength))), (25, .pv (.val (.int .i64 (v1.strength.length : Int)))), (26, .pv (.i s.2))], [(2, 27, [.pv (.sl (List.map cAcid v0.acids)), .pv (.i v0.known), .pv (.i v0.hours), .pv (.sl (List.map eI v0.adds)), .pv (.sl (List.map cStrip v0.strips)), .pv (.sl (List.map cBatch v0.batches))]), (3, 54, [.pv (.i v1.acid), .pv (.sl (List.map eI v1.strength))]), (5, 137, [.pv (.i v102.strength.low), .pv (.i v102.strength.high), .pv (.i v102.fall.low), .pv (.i v102.fall.high)])], []⟩ : Env)) (fun s => s_117_l1 n v0 v1 v102 s.1 s.2 = some r) (fun s => s.1) (n, 0) h (has_mk ⟨q, q, q, q, q, q, trivial⟩ ⟨q, q, q, trivial⟩ trivial q) ?_
  rintro ⟨k1, v110⟩ h
  change s_117_l1 n v0 v1 v102 k1 v110 = some r at h
  rcases k1 with _ | k1
  ·rw [s_117_l1] at h
   cases h
  ·rw [s_117_l1] at h
   change W _ _ (⟨[(2, .box 2 0), (3, .box 3 0), (5, .box 5 0), (24, .pv (.sl (List.map eI v1.strength))), (25, .pv (.val (.int .i64 (v1.strength.length : Int)))), (26, .pv (.i v110))], [(2, 27, [.pv (.sl (List.map cAcid v0.acids)), .pv (.i v0.known), .pv (.i v0.hours), .pv (.sl (List.map eI v0.adds)), .pv (.sl (List.map cStrip v0.strips)), .pv (.sl (List.map cBatch v0.batches))]), (3, 54, [.pv (.i v1.acid), .pv (.sl (List.map eI v1.strength))]), (5, 137, [.pv (.i v102.strength.low), .pv (.i v102.strength.high), .pv (.i v102.fall.low), .pv (.i v102.fall.high)])], []⟩ : Env) _
   refine W.seq<|W.region<|ov (g_lss q q q q q) q<|on0<|Sq.n<|W.seq<|W.cond (b := (decide (v110 < (v1.strength.length : Int)))) q (fun hc => ?_) (fun hc => ?_)
   ·have h := bif_t h hc
    refine W.skip<|Sq.n<|W.seq<|W.block<|W.seq<|W.region<|vm q q q q q ?_
    obtain ⟨v118, e118, h⟩ := bind_some h
    refine ov (g_idxI (l := v1.strength) (enc := eI) e118 q q q q q el_23 q) q<|ov (g_loadR1 q q q q q ag_3) q<|va q q q q q<|va q q q q q<|on0<|Sq.n<|W.seq<|W.draw (m := 7) Checked.mixed (Pre.v (GSG.of q (g_fld q q q q fl_137_0)) ((Pre.v (GSG.of q (g_fld q q q q fl_57_0)) ((Pre.v (GSG.of q (g_load1 q q q q q q ag_3)) ((Pre.v (GSG.of q (g_fld q q q q fl_137_0)) ((Pre.v (GSG.of q (g_fld q q q q fl_57_1)) ((Pre.v (GSG.of q (g_load1 q q q q q q ag_3)) ((Pre.v (GSG.of q (g_assign q q q q)) (Pre.nil _)))))))))))))) (by kernel_rfl)<|va q q q q q<|on0<|Sq.n<|W.seqJ (σ := Int × Int) (fun s => (⟨[(2, .box 2 0), (3, .box 3 0), (5, .box 5 0), (6, .pv (.i v110)), (7, .pv (.i v118)), (8, .pv (.i s.1)), (9, .pv (.i s.2)), (24, .pv (.sl (List.map eI v1.strength))), (25, .pv (.val (.int .i64 (v1.strength.length : Int)))), (26, .pv (.i v110))], [(2, 27, [.pv (.sl (List.map cAcid v0.acids)), .pv (.i v0.known), .pv (.i v0.hours), .pv (.sl (List.map eI v0.adds)), .pv (.sl (List.map cStrip v0.strips)), .pv (.sl (List.map cBatch v0.batches))]), (3, 54, [.pv (.i v1.acid), .pv (.sl (List.map eI v1.strength))]), (5, 137, [.pv (.i v102.strength.low), .pv (.i v102.strength.high), .pv (.i v102.fall.low), .pv (.i v102.fall.high)])], []⟩ : Env)) (fun s => s_117_j4 n (s_117_l1 n v0 v1 v102 k1) v0 v110 v118 s.1 s.2 = some r) ?_ ?_
    ·refine W.seq<|W.region<|vm q q q q q<|ov (g_gtr q q q q q) q<|on0<|Sq.n<|W.cond (b := (decide (0 < v110))) q (fun hc => ?_) (fun hc => ?_)
     ·have h := bif_t h hc
      refine W.seq<|W.region<|ov (g_fld q q q q fl_54_1) q<|ov (g_load1 q q q q q q ag_23) q<|vm q q q q q<|ov (g_sub q q q q q) q ?_
      obtain ⟨v119, e119, h⟩ := bind_some h
      refine ov (g_idxI (l := v1.strength) (enc := eI) e119 q q q q q el_23 q) q<|ov (g_loadR1 q q q q q ag_3) q<|va q q q q q<|on0<|Sq.n<|W.draw (m := 13) Checked.mixed (Pre.v (GSG.of q (g_move q q q q)) ((Pre.v (GSG.of q (g_fld q q q q fl_137_1)) ((Pre.v (GSG.of q (g_fld q q q q fl_57_1)) ((Pre.v (GSG.of q (g_load1 q q q q q q ag_3)) ((Pre.v (GSG.of q (g_sub q q q q q)) ((Pre.v (GSG.of q (g_max q q q q q)) ((Pre.v (GSG.of q (g_move q q q q)) ((Pre.v (GSG.of q (g_fld q q q q fl_137_1)) ((Pre.v (GSG.of q (g_fld q q q q fl_57_0)) ((Pre.v (GSG.of q (g_load1 q q q q q q ag_3)) ((Pre.v (GSG.of q (g_sub q q q q q)) ((Pre.v (GSG.of q (g_max q q q q q)) ((Pre.v (GSG.of q (g_assign q q q q)) (Pre.nil _)))))))))))))))))))))))))) (by kernel_rfl)<|va q q q q q<|on0<|Sq.n<|⟨(max 0 (wr (v119 - v102.fall.high)), max 0 (wr (v119 - v102.fall.low))), h, has_mk ⟨q, q, q, q, q, q, q, q, q, q, trivial⟩ ⟨q, q, q, trivial⟩ trivial q⟩
     ·have h := bif_f h hc
      refine W.skip<|Sq.n<|⟨(v102.strength.low, v102.strength.high), h, has_mk ⟨q, q, q, q, q, q, q, q, q, q, trivial⟩ ⟨q, q, q, trivial⟩ trivial q⟩
    ·rintro ⟨v120, v121⟩ h
     change s_117_j4 n (s_117_l1 n v0 v1 v102 k1) v0 v110 v118 v120 v121 = some r at h
     unfold s_117_j4 at h
     change W _ _ (⟨[(2, .box 2 0), (3, .box 3 0), (5, .box 5 0), (6, .pv (.i v110)), (7, .pv (.i v118)), (8, .pv (.i v120)), (9, .pv (.i v121)), (24, .pv (.sl (List.map eI v1.strength))), (25, .pv (.val (.int .i64 (v1.strength.length : Int)))), (26, .pv (.i v110))], [(2, 27, [.pv (.sl (List.map cAcid v0.acids)), .pv (.i v0.known), .pv (.i v0.hours), .pv (.sl (List.map eI v0.adds)), .pv (.sl (List.map cStrip v0.strips)), .pv (.sl (List.map cBatch v0.batches))]), (3, 54, [.pv (.i v1.acid), .pv (.sl (List.map eI v1.strength))]), (5, 137, [.pv (.i v102.strength.low), .pv (.i v102.strength.high), .pv (.i v102.fall.low), .pv (.i v102.fall.high)])], []⟩ : Env) _
     refine W.seq ?_
     obtain ⟨v122, e122, h⟩ := bind_some h
     obtain ⟨v123, e123, h⟩ := bind_some h
     refine W.draw (m := 15) Checked.mixed (Pre.v (GSG.of q (g_move q q q q)) ((Pre.v (GSG.of q (g_move q q q q)) ((Pre.v (GSG.of q (g_fld q q q q fl_27_3)) ((Pre.v (GSG.of q (g_load1 q q q q q q ag_23)) ((Pre.v (GSG.of q (g_move q q q q)) ((Pre.v (GSG.of q (g_idxI (l := v0.adds) (enc := eI) e122 q q q q q el_23 q)) ((Pre.v (GSG.of q (g_loadR1 q q q q q ag_3)) ((Pre.v (GSG.of q (g_add q q q q q)) ((Pre.v (GSG.of q (g_move q q q q)) ((Pre.v (GSG.of q (g_fld q q q q fl_27_3)) ((Pre.v (GSG.of q (g_load1 q q q q q q ag_23)) ((Pre.v (GSG.of q (g_move q q q q)) ((Pre.v (GSG.of q (g_idxI (l := v0.adds) (enc := eI) e123 q q q q q el_23 q)) ((Pre.v (GSG.of q (g_loadR1 q q q q q ag_3)) ((Pre.v (GSG.of q (g_add q q q q q)) (Pre.nil _)))))))))))))))))))))))))))))) (by kernel_rfl) ?_
     obtain ⟨v124, e124, h⟩ := bind_some h
     refine ov (g_call q q q ca_87 q (c_87 _ _ _ _ e124)) q<|ov (g_not q q q q) q<|on0<|Sq.n<|W.cond (b := (!v124)) q (fun hc => ?_) (fun hc => ?_)
     ·have h := bif_t h hc
      refine W.seq<|W.region<|va q q q q q<|on0<|Sq.n<|W.ret<|Bl.r<|Sq.r<|Sq.r<|Bl.r<|Sq.r ?_
      obtain rfl := Option.some.inj h
      exact Fin.r q (.cons (.tmp _ _ q) .nil) q
     ·have h := bif_f h hc
      exact W.skip<|Bl.n<|Sq.n<|W.region<|ov (g_add q q q q q) q<|vm q q q q q<|on0<|Sq.n<|⟨(k1, wr (v110 + 1)), h, Nat.lt_succ_self _, has_mk ⟨q, q, q, q, q, q, trivial⟩ ⟨q, q, q, trivial⟩ trivial q⟩
   ·have h := bif_f h hc
    refine W.exit<|Sq.e<|Sq.e<|Bl.e<|Sq.n<|W.seq<|W.region<|ov (g_fld q q q q fl_27_4) q<|ov (g_load1 q q q q q q ag_24) q<|Ops.conv (Conv.freeze (k := 3) (cs := [.val (.int .i64 v1.acid), .sl (List.map eI v1.strength)]) q)<|ov (g_makeFunc q q q q q) q ?_
    obtain ⟨v125, e125, h⟩ := bind_some h
    refine ov (g_call q q q ca_95 q (c_95 _ _ _ ca_165 (fun _ y e => c_165 _ _ _ e) e125)) q<|ov (g_not q q q q) q<|va q q q q q<|on0<|Sq.n<|W.ret ?_
    obtain rfl := Option.some.inj h
    exact Fin.r q (.cons (.tmp _ _ q) .nil) q
end Go.Proofs.YtohmhlkdgfcaeaaGreatDoor
namespace Go.Proofs.YtohmhlkdgfcaeaaGreatDoor
open Go Go.RowKit
set_option maxRecDepth 4000
attribute [local irreducible] W Ops GS GSG
def s_68_j1 (n : Nat) (v0 : Drum) (v1 : Truth) (v103 : Bool) : Option (Bool × Int) := bif v103 then ( some ((false, 2)) ) else ( (s_117 n v0 v1).bind fun v104 => some ((v104, 0)) )
def s_68 (n : Nat) (v0 : Drum) (v1 : Truth) : Option (Bool × Int) := (s_104 n v0).bind fun v101 => bif (!v101) then ( s_68_j1 n v0 v1 true ) else ( (s_116 n v0 v1).bind fun v102 => s_68_j1 n v0 v1 (!v102) )
theorem c_68 (n : Nat) (v0 : Drum) (v1 : Truth) {r : (Bool × Int)} (h : s_68 n v0 v1 = some r) :
  Fun Tryz.prog 68 [.agg (cDrum v0), .agg (cTruth v1)] (.ret (.tup [.b r.1, .val (.int .i64 r.2)])) := by
 unfold s_68 at h
 refine enterW 18 Tryz.func68 q q q ?_
 intro w0 F0
 change W _ _ (Ev [(0, .pv (.agg (cDrum v0))), (1, .pv (.agg (cTruth v1)))]) _
 refine W.seq<|W.region<|ob (g_box q q q q q) q q<|ob (g_box q q q q q) q q<|va q q q q q<|va q q q q q<|on0<|Sq.n<|W.seq<|W.seqJ (σ := Bool) (fun s => (⟨[(2, .box 2 0), (3, .box 3 0), (14, .pv (.b s))], [(2, 27, [.pv (.sl (List.map cAcid v0.acids)), .pv (.i v0.known), .pv (.i v0.hours), .pv (.sl (List.map eI v0.adds)), .pv (.sl (List.map cStrip v0.strips)), .pv (.sl (List.map cBatch v0.batches))]), (3, 54, [.pv (.i v1.acid), .pv (.sl (List.map eI v1.strength))])], []⟩ : Env)) (fun s => s_68_j1 n v0 v1 s = some r) ?_ ?_
 ·refine W.region<|ov (g_loadA q q q q q ag_27 sz_27 q q) q ?_
  obtain ⟨v101, e101, h⟩ := bind_some h
  refine ov (g_call q q q ca_104 q (c_104 _ _ e101)) q<|ov (g_not q q q q) q<|vm q q q q q<|Ops.split 9 q (fun hb => ?_) (fun hb => ?_)
  ·have h := bif_t h hb
   refine o2 q q q q q q<|o2 q q q q q q<|o2 q q q q q q<|o2 q q q q q q<|vt q q q q q q<|on0<|Sq.n<|⟨true, h, has_mk ⟨q, q, q, trivial⟩ ⟨q, q, trivial⟩ trivial q⟩
  ·have h := bif_f h hb
   refine on q q q<|ov (g_loadA q q q q q ag_27 sz_27 q q) q<|on q q q<|ov (g_loadA q q q q q ag_54 sz_54 q q) q<|on q q q ?_
   obtain ⟨v102, e102, h⟩ := bind_some h
   refine ov (g_call q q q ca_116 q (c_116 _ _ _ e102)) q<|on q q q<|ov (g_not q q q q) q<|vf q q q q q q<|on0<|Sq.n<|⟨(!v102), h, has_mk ⟨q, q, q, trivial⟩ ⟨q, q, trivial⟩ trivial q⟩
 ·rintro v103 h
  change s_68_j1 n v0 v1 v103 = some r at h
  unfold s_68_j1 at h
  change W _ _ (⟨[(2, .box 2 0), (3, .box 3 0), (14, .pv (.b v103))], [(2, 27, [.pv (.sl (List.map cAcid v0.acids)), .pv (.i v0.known), .pv (.i v0.hours), .pv (.sl (List.map eI v0.adds)), .pv (.sl (List.map cStrip v0.strips)), .pv (.sl (List.map cBatch v0.batches))]), (3, 54, [.pv (.i v1.acid), .pv (.sl (List.map eI v1.strength))])], []⟩ : Env) _
  refine W.cond (b := v103) q (fun hc => ?_) (fun hc => ?_)
  ·have h := bif_t h hc
   refine W.seq<|W.region<|va q q q q q<|va q q q q q<|on0<|Sq.n<|W.ret<|Sq.r ?_
   obtain rfl := Option.some.inj h
   exact Fin.r q (.cons (.tmp _ _ q) (.cons (.tmp _ _ q) .nil)) q
  ·have h := bif_f h hc
   refine W.skip<|Sq.n<|W.seq<|W.region<|ov (g_loadA q q q q q ag_27 sz_27 q q) q<|ov (g_loadA q q q q q ag_54 sz_54 q q) q ?_
   obtain ⟨v104, e104, h⟩ := bind_some h
   refine ov (g_call q q q ca_117 q (c_117 _ _ _ e104)) q<|va q q q q q<|va q q q q q<|on0<|Sq.n<|W.ret ?_
   obtain rfl := Option.some.inj h
   exact Fin.r q (.cons (.tmp _ _ q) (.cons (.tmp _ _ q) .nil)) q
end Go.Proofs.YtohmhlkdgfcaeaaGreatDoor
namespace Go.Proofs.YtohmhlkdgfcaeaaGreatDoor
open Go Go.RowKit Go.ChangeShapes Go.WideShapes Go.Deep
set_option maxRecDepth 100000
theorem parT : ∀ t ∈ [3, 9, 23, 27, 54, 92], ParT t := by
 have h : ([3, 9, 23, 27, 54, 92].all fun t => Tryz.prog.readableRec t && decide (t < Tryz.prog.types.size)) = true := by kernel_rfl
 intro t ht
 have := List.all_eq_true.1 h t ht
 rw [Bool.and_eq_true, decide_eq_true_eq] at this
 exact this
end Go.Proofs.YtohmhlkdgfcaeaaGreatDoor
namespace Go.Proofs.YtohmhlkdgfcaeaaGreatDoor
def Span.ok (s : Span) (most : Int) : Prop := 0 ≤ s.low ∧ s.low ≤ s.high ∧ s.high ≤ most
def Span.mem (s : Span) (x : Int) : Prop := s.low ≤ x ∧ x ≤ s.high
def Span.ne (s : Span) : Prop := s.low ≤ s.high
instance (s : Span) (m : Int) : Decidable (s.ok m) := by unfold Span.ok; infer_instance
instance (s : Span) (x : Int) : Decidable (s.mem x) := by unfold Span.mem; infer_instance
instance (s : Span) : Decidable s.ne := by unfold Span.ne; infer_instance
def Batch.ok (b : Batch) : Prop := (0 ≤ b.rough ∧ b.rough ≤ 1000) ∧ (0 ≤ b.goal ∧ b.goal ≤ 1000) ∧ (0 ≤ b.thick ∧ b.thick ≤ 1000) ∧ (0 ≤ b.least ∧ b.least ≤ 1000) ∧ (0 ≤ b.polish ∧ b.polish ≤ 100) ∧ (0 ≤ b.eat ∧ b.eat ≤ 100)
def Strip.ok (s : Strip) (hours : Int) : Prop := (0 ≤ s.hour ∧ s.hour ≤ hours - 1) ∧ (0 ≤ s.seen ∧ s.seen ≤ 2000) ∧ (0 ≤ s.off ∧ s.off ≤ 50)
def Acid.ok (a : Acid) : Prop := a.strength.ok 100 ∧ a.fall.ok 20
instance (b : Batch) : Decidable b.ok := by unfold Batch.ok; infer_instance
instance (s : Strip) (h : Int) : Decidable (s.ok h) := by unfold Strip.ok; infer_instance
instance (a : Acid) : Decidable a.ok := by unfold Acid.ok; infer_instance
structure Drum.ok (d : Drum) : Prop where
 acl : 1 ≤ d.acids.length ∧ d.acids.length ≤ 4
 kn : 1 ≤ d.known ∧ d.known ≤ 2 ^ d.acids.length - 1
 hr : 1 ≤ d.hours ∧ d.hours ≤ 12
 adl : (d.adds.length : Int) = d.hours
 stl : d.strips.length ≤ 6
 btl : 1 ≤ d.batches.length ∧ d.batches.length ≤ 5
 ac : ∀ a ∈ d.acids, a.ok
 ad : ∀ x ∈ d.adds, 0 ≤ x ∧ x ≤ 100
 st : ∀ s ∈ d.strips, s.ok d.hours
 bt : ∀ b ∈ d.batches, b.ok
def cap (a b : Span) : Span := ⟨max a.low b.low, min a.high b.high⟩
def capL (s : Span) (l : List Span) : Span := l.foldl cap s
def Strip.span (s : Strip) : Span := ⟨s.seen - s.off, s.seen + s.off⟩
def stripsAt (l : List Strip) (h : Nat) : List Span := (l.filter fun s => s.hour == (h : Int)).map Strip.span
def addAt (l : List Int) (h : Nat) : Int := l.getD h 0
def aft (a : Acid) (add : Int) (s : Span) : Span := ⟨max 0 (s.low - a.fall.high) + add, max 0 (s.high - a.fall.low) + add⟩
def bef (a : Acid) (add : Int) (s : Span) : Span := ⟨if add < s.low then s.low - add + a.fall.low else 0, s.high - add + a.fall.high⟩
def start (a : Acid) (add : Int) : Span := ⟨a.strength.low + add, a.strength.high + add⟩
def fw (ad : List Int) (st : List Strip) (a : Acid) : Nat → Span
 | 0 => capL (start a (addAt ad 0)) (stripsAt st 0)
 | h + 1 => capL (aft a (addAt ad (h + 1)) (fw ad st a h)) (stripsAt st (h + 1))
def bk (ad : List Int) (st : List Strip) (a : Acid) (H : Nat) : Nat → Span
 | 0 => fw ad st a (H - 1)
 | k + 1 => cap (fw ad st a (H - 1 - (k + 1))) (bef a (addAt ad (H - 1 - k)) (bk ad st a H k))
def Poss (ad : List Int) (st : List Strip) (a : Acid) (H : Nat) : Prop := ∀ h, h < H → (fw ad st a h).ne
def Tru (ad : List Int) (st : List Strip) (a : Acid) (H : Nat) (f : Nat → Int) : Prop :=
 ∀ h, h < H → (match h with | 0 => start a (addAt ad 0) | h + 1 => aft a (addAt ad (h + 1)) ⟨f h, f h⟩).mem (f h) ∧ ∀ s ∈ stripsAt st h, s.mem (f h)
theorem mem_cap {a b : Span} {x : Int} : (cap a b).mem x ↔ a.mem x ∧ b.mem x := by simp only [cap, Span.mem]; omega
theorem mem_capL {l : List Span} : ∀ {s : Span} {x : Int}, (capL s l).mem x ↔ s.mem x ∧ ∀ t ∈ l, t.mem x := by
 induction l with
 | nil => intro s x; simp [capL]
 | cons t l ih =>
  intro s x
  have := @ih (cap s t) x
  simp only [capL, List.foldl_cons, List.mem_cons, forall_eq_or_imp] at this ⊢
  rw [this, mem_cap]
  constructor
  ·rintro ⟨⟨h1, h2⟩, h3⟩; exact ⟨h1, h2, h3⟩
  ·rintro ⟨h1, h2, h3⟩; exact ⟨⟨h1, h2⟩, h3⟩
theorem capL_low {l : List Span} : ∀ {s : Span}, s.low ≤ (capL s l).low ∧ (capL s l).high ≤ s.high := by
 induction l with
 | nil => intro s; simp [capL]
 | cons t l ih =>
  intro s
  have := @ih (cap s t)
  simp only [capL, List.foldl_cons] at this ⊢
  simp only [cap] at this ⊢
  omega
theorem ne_mem {s : Span} (h : s.ne) : s.mem s.low ∧ s.mem s.high := by simp only [Span.ne, Span.mem] at *; omega
section
variable {ad : List Int} {st : List Strip} {a : Acid} {H : Nat}
theorem addAt_le (had : ∀ x ∈ ad, 0 ≤ x ∧ x ≤ 100) (h : Nat) : 0 ≤ addAt ad h ∧ addAt ad h ≤ 100 := by
 unfold addAt
 rw [List.getD_eq_getElem?_getD]
 cases hh : ad[h]? with
 | none => simp
 | some x => simpa using had x (List.mem_of_getElem? hh)
theorem fw_low (ha : a.ok) (had : ∀ x ∈ ad, 0 ≤ x ∧ x ≤ 100) : ∀ h, 0 ≤ (fw ad st a h).low ∧ (fw ad st a h).high ≤ 100 + 100 * (h + 1) := by
 intro h
 obtain ⟨h1, h2⟩ := ha
 simp only [Span.ok] at h1 h2
 induction h with
 | zero =>
  have := addAt_le had 0
  have := @capL_low (stripsAt st 0) (start a (addAt ad 0))
  simp only [fw]
  simp only [start] at this ⊢
  omega
 | succ h ih =>
  have := addAt_le had (h + 1)
  have := @capL_low (stripsAt st (h + 1)) (aft a (addAt ad (h + 1)) (fw ad st a h))
  simp only [fw]
  simp only [aft] at this ⊢
  push_cast
  omega
theorem fw_sound (ha : a.ok) {f : Nat → Int} (hf : Tru ad st a H f) : ∀ h, h < H → (fw ad st a h).mem (f h) := by
 intro h
 obtain ⟨h1, h2⟩ := ha
 simp only [Span.ok] at h1 h2
 induction h with
 | zero => intro hh; exact mem_capL.2 (hf 0 hh)
 | succ h ih =>
  intro hh
  have hi := ih (by omega)
  obtain ⟨q1, q2⟩ := hf (h + 1) hh
  refine mem_capL.2 ⟨?_, q2⟩
  simp only [aft, Span.mem] at q1 hi ⊢
  omega
theorem poss_of_tru (ha : a.ok) {f : Nat → Int} (hf : Tru ad st a H f) : Poss ad st a H := fun h hh => by
 have := fw_sound ha hf h hh
 simp only [Span.mem, Span.ne] at *
 omega
theorem bk_ok (ha : a.ok) (had : ∀ x ∈ ad, 0 ≤ x ∧ x ≤ 100) (hp : Poss ad st a H) : ∀ k, k < H → (bk ad st a H k).ne ∧ (fw ad st a (H - 1 - k)).low ≤ (bk ad st a H k).low ∧ (bk ad st a H k).high ≤ (fw ad st a (H - 1 - k)).high := by
 intro k
 induction k with
 | zero => intro hk; exact ⟨hp _ (by omega), by simp [bk]⟩
 | succ k ih =>
  intro hk
  obtain ⟨i1, i2, i3⟩ := ih (by omega)
  have hn := hp (H - 1 - (k + 1)) (by omega)
  have e : H - 1 - k = H - 1 - (k + 1) + 1 := by omega
  have hl := fw_low (st := st) ha had (H - 1 - (k + 1))
  have hadd := addAt_le had (H - 1 - k)
  have hc := @capL_low (stripsAt st (H - 1 - k)) (aft a (addAt ad (H - 1 - k)) (fw ad st a (H - 1 - (k + 1))))
  have he : fw ad st a (H - 1 - k) = capL (aft a (addAt ad (H - 1 - k)) (fw ad st a (H - 1 - (k + 1)))) (stripsAt st (H - 1 - k)) := by
   rw [e]; rfl
  rw [← he] at hc
  obtain ⟨h1, h2⟩ := ha
  simp only [Span.ok] at h1 h2
  simp only [bk, cap, bef, aft, Span.ne] at *
  split <;> omega
def bd (ad : List Int) (st : List Strip) (a : Acid) (H h : Nat) : Span := bk ad st a H (H - 1 - h)
theorem bd_last (_hH : 0 < H) : bd ad st a H (H - 1) = fw ad st a (H - 1) := by simp [bd, bk]
theorem bd_step {h : Nat} (hh : h + 1 < H) : bd ad st a H h = cap (fw ad st a h) (bef a (addAt ad (h + 1)) (bd ad st a H (h + 1))) := by
 unfold bd
 obtain ⟨k, hk⟩ : ∃ k, H - 1 - h = k + 1 := ⟨H - 1 - h - 1, by omega⟩
 have e1 : H - 1 - (h + 1) = k := by omega
 rw [hk, e1, bk]
 have e2 : H - 1 - (k + 1) = h := by omega
 have e3 : H - 1 - k = h + 1 := by omega
 rw [e2, e3]
theorem bd_ok (ha : a.ok) (had : ∀ x ∈ ad, 0 ≤ x ∧ x ≤ 100) (hp : Poss ad st a H) {h : Nat} (hh : h < H) : (bd ad st a H h).ne ∧ (fw ad st a h).low ≤ (bd ad st a H h).low ∧ (bd ad st a H h).high ≤ (fw ad st a h).high := by
 have := bk_ok ha had hp (H - 1 - h) (by omega)
 have e : H - 1 - (H - 1 - h) = h := by omega
 rw [e] at this
 exact this
theorem bd_sound (ha : a.ok) (had : ∀ x ∈ ad, 0 ≤ x ∧ x ≤ 100) {f : Nat → Int} (hf : Tru ad st a H f) : ∀ k h, h + k + 1 = H → (bd ad st a H h).mem (f h) := by
 intro k
 induction k with
 | zero =>
  intro h hh
  have : h = H - 1 := by omega
  subst this
  rw [bd_last (by omega)]
  exact fw_sound ha hf _ (by omega)
 | succ k ih =>
  intro h hh
  rw [bd_step (by omega)]
  have i1 := ih (h + 1) (by omega)
  have i2 := fw_sound ha hf h (by omega)
  have i3 := (hf (h + 1) (by omega)).1
  have hl := fw_low (st := st) ha had h
  have hadd := addAt_le had (h + 1)
  obtain ⟨h1, h2⟩ := ha
  simp only [Span.ok] at h1 h2
  refine mem_cap.2 ⟨i2, ?_⟩
  simp only [aft, bef, Span.mem] at *
  split <;> omega
theorem bd_tru (ha : a.ok) (had : ∀ x ∈ ad, 0 ≤ x ∧ x ≤ 100) (hp : Poss ad st a H) : Tru ad st a H (fun h => (bd ad st a H h).low) ∧ Tru ad st a H (fun h => (bd ad st a H h).high) := by
 have strips : ∀ h, h < H → ∀ s ∈ stripsAt st h, s.mem (bd ad st a H h).low ∧ s.mem (bd ad st a H h).high := by
  intro h hh s hs
  obtain ⟨q1, q2, q3⟩ := bd_ok ha had hp hh
  have key : ∀ x, (fw ad st a h).mem x → s.mem x := fun x hx => by
   cases h with
   | zero => exact (mem_capL.1 hx).2 s hs
   | succ h => exact (mem_capL.1 hx).2 s hs
  simp only [Span.ne] at q1
  exact ⟨key _ ⟨by omega, by omega⟩, key _ ⟨by omega, by omega⟩⟩
 have chain : ∀ h, h < H → (match h with | 0 => start a (addAt ad 0) | h + 1 => aft a (addAt ad (h + 1)) ⟨(bd ad st a H h).low, (bd ad st a H h).low⟩).mem (bd ad st a H h).low ∧
   (match h with | 0 => start a (addAt ad 0) | h + 1 => aft a (addAt ad (h + 1)) ⟨(bd ad st a H h).high, (bd ad st a H h).high⟩).mem (bd ad st a H h).high := by
  intro h hh
  obtain ⟨q1, q2, q3⟩ := bd_ok ha had hp hh
  cases h with
  | zero =>
   have hc := @capL_low (stripsAt st 0) (start a (addAt ad 0))
   simp only [Span.ne, fw, Span.mem] at *
   omega
  | succ h =>
   have hs := bd_step (ad := ad) (st := st) (a := a) hh
   have hc := @capL_low (stripsAt st (h + 1)) (aft a (addAt ad (h + 1)) (fw ad st a h))
   have hl := fw_low (st := st) ha had h
   have hadd := addAt_le had (h + 1)
   have hn := hp h (by omega)
   obtain ⟨h1, h2⟩ := ha
   simp only [Span.ok] at h1 h2
   rw [show fw ad st a (h + 1) = capL (aft a (addAt ad (h + 1)) (fw ad st a h)) (stripsAt st (h + 1)) from rfl] at q2 q3
   generalize capL (aft a (addAt ad (h + 1)) (fw ad st a h)) (stripsAt st (h + 1)) = c at *
   generalize bd ad st a H (h + 1) = n at *
   simp only [hs]
   generalize fw ad st a h = s at *
   simp only [cap, bef, aft, Span.ne, Span.mem] at *
   split <;> omega
 exact ⟨fun h hh => ⟨(chain h hh).1, fun s hs => (strips h hh s hs).1⟩, fun h hh => ⟨(chain h hh).2, fun s hs => (strips h hh s hs).2⟩⟩
end
end Go.Proofs.YtohmhlkdgfcaeaaGreatDoor
namespace Go.Proofs.YtohmhlkdgfcaeaaGreatDoor
open Go Go.RowKit
theorem wr_of {x : Int} (h : -9223372036854775808 ≤ x ∧ x ≤ 9223372036854775807) : wr x = x := by
 show IntKind.i64.wrap x = x
 rw [IntKind.wrap_i64]; omega
theorem ix_at {α : Type} {l : List α} {i : Nat} {x : α} (h : l[i]? = some x) : ix l (i : Int) = some x := by
 simp [ix, h]
def fc {α σ β : Type} (body : Nat → α → σ → (σ → Option β) → Option β) (fin : σ → Option β) : Nat → List α → σ → Option β
 | _, [], s => fin s
 | i, x :: r, s => body i x s (fc body fin (i + 1) r)
theorem loop_list {α σ β : Type} (l : List α) (L : Nat → Int → σ → Option β) (body : Nat → α → σ → (σ → Option β) → Option β) (fin : σ → Option β)
  (h : ∀ (k i : Nat) (s : σ), L (k + 1) (i : Int) s = bif decide ((i : Int) < ((l.length : Nat) : Int)) then (ix l (i : Int)).bind (fun x => body i x s (fun s' => L k (wr ((i : Int) + 1)) s')) else fin s)
  (hl : l.length ≤ 1000000) : ∀ (k i : Nat) (s : σ), l.length < k + i → i ≤ l.length → L k (i : Int) s = fc body fin i (l.drop i) s := by
 intro k
 induction k with
 | zero => intro i s h1 h2; omega
 | succ k ih =>
  intro i s h1 h2
  rw [h]
  by_cases hi : i < l.length
  ·have e1 : decide ((i : Int) < ((l.length : Nat) : Int)) = true := decide_eq_true (by omega)
   rw [e1, cond_true, ix_at (List.getElem?_eq_getElem hi), List.drop_eq_getElem_cons hi]
   simp only [Option.bind_some, fc]
   congr 1
   funext s'
   rw [wr_of (by omega)]
   exact_mod_cast ih (i + 1) s' (by omega) (by omega)
  ·have e1 : decide ((i : Int) < ((l.length : Nat) : Int)) = false := decide_eq_false (by omega)
   rw [e1, cond_false, List.drop_eq_nil_of_le (by omega)]
   rfl
def fn {σ β : Type} (m : Int) (body : Int → σ → (σ → Option β) → Option β) (fin : σ → Option β) : Nat → Int → σ → Option β
 | 0, _, s => fin s
 | r + 1, i, s => body i s (fn m body fin r (i + 1))
theorem loop_nat {σ β : Type} (m : Int) (L : Nat → Int → σ → Option β) (body : Int → σ → (σ → Option β) → Option β) (fin : σ → Option β)
  (h : ∀ (k : Nat) (i : Int) (s : σ), L (k + 1) i s = bif decide (i < m) then body i s (fun s' => L k (wr (i + 1)) s') else fin s)
  (hm : m ≤ 1000000) : ∀ (r k : Nat) (i : Int) (s : σ), 0 ≤ i → i + r = m → r < k → L k i s = fn m body fin r i s := by
 intro r
 induction r with
 | zero =>
  intro k i s h0 h1 h2
  obtain ⟨k, rfl⟩ : ∃ k', k = k' + 1 := ⟨k - 1, by omega⟩
  have e1 : decide (i < m) = false := decide_eq_false (by omega)
  rw [h, e1, cond_false]; rfl
 | succ r ih =>
  intro k i s h0 h1 h2
  obtain ⟨k, rfl⟩ : ∃ k', k = k' + 1 := ⟨k - 1, by omega⟩
  have e1 : decide (i < m) = true := decide_eq_true (by omega)
  rw [h, e1, cond_true]
  simp only [fn]
  congr 1
  funext s'
  rw [wr_of (by omega)]
  exact ih k (i + 1) s' (by omega) (by omega) (by omega)
theorem fc_all {α : Type} (p : α → Bool) (fin : Option Bool) : ∀ (l : List α) (i : Nat), fc (σ := Unit) (fun _ x s K => bif p x then K s else some false) (fun _ => fin) i l () = bif l.all p then fin else some false := by
 intro l
 induction l with
 | nil => intro i; rfl
 | cons x r ih =>
  intro i
  simp only [fc, List.all_cons]
  cases p x
  ·rfl
  ·rw [cond_true, ih]; rfl
theorem loop_all {α : Type} (l : List α) (L : Nat → Int → Option Bool) (p : α → Bool) (fin : Option Bool)
  (h : ∀ (k i : Nat), L (k + 1) (i : Int) = bif decide ((i : Int) < ((l.length : Nat) : Int)) then (ix l (i : Int)).bind (fun x => bif p x then L k (wr ((i : Int) + 1)) else some false) else fin)
  (hl : l.length ≤ 1000000) {k : Nat} (hk : l.length < k) : L k 0 = bif l.all p then fin else some false := by
 have := loop_list l (fun k i (_ : Unit) => L k i) (fun _ x s K => bif p x then K s else some false) (fun _ => fin) (fun k i _ => h k i) hl k 0 () (by omega) (by omega)
 rw [fc_all] at this
 exact this
def firstI {α : Type} (p : α → Bool) : Nat → List α → Int
 | _, [] => -1
 | i, x :: r => bif p x then (i : Int) else firstI p (i + 1) r
theorem firstI_any {α : Type} (p : α → Bool) : ∀ (l : List α) (i : Nat), decide (0 ≤ firstI p i l) = l.any p := by
 intro l
 induction l with
 | nil => intro i; rfl
 | cons x r ih =>
  intro i
  rw [firstI, List.any_cons]
  rcases Bool.eq_false_or_eq_true (p x) with h | h
  ·rw [h, cond_true]; exact decide_eq_true (by omega)
  ·rw [h, cond_false, ih]; rfl
theorem loop_first {α : Type} (l : List α) (f : α → Option Bool) (p : α → Bool) (hf : ∀ x ∈ l, f x = some (p x)) (L : Nat → Int → Option Int)
  (h : ∀ (k i : Nat), L (k + 1) (i : Int) = bif decide ((i : Int) < ((l.length : Nat) : Int)) then (ix l (i : Int)).bind (fun x => (f x).bind fun b => bif b then some (i : Int) else L k (wr ((i : Int) + 1))) else some (-1))
  (hl : l.length ≤ 1000000) {k : Nat} (hk : l.length < k) : L k 0 = some (firstI p 0 l) := by
 have h1 := loop_list l (fun k i (_ : Unit) => L k i) (fun i x s K => (f x).bind fun b => bif b then some (i : Int) else K s) (fun _ => some (-1)) (fun k i _ => h k i) hl k 0 () (by omega) (by omega)
 rw [List.drop_zero] at h1
 have key : ∀ (l' : List α) (i : Nat), (∀ x ∈ l', f x = some (p x)) → fc (σ := Unit) (fun i x s K => (f x).bind fun b => bif b then some (i : Int) else K s) (fun _ => some (-1)) i l' () = some (firstI p i l') := by
  intro l'
  induction l' with
  | nil => intro i _; rfl
  | cons x r ih =>
   intro i hx
   simp only [fc, firstI, hx x List.mem_cons_self, Option.bind_some]
   cases p x
   ·rw [cond_false, cond_false]; exact ih (i + 1) (fun y hy => hx y (List.mem_cons_of_mem _ hy))
   ·rfl
 exact h1.trans (key l 0 hf)
def inb (v a b : Int) : Bool := decide (a ≤ v) && decide (v ≤ b)
theorem p_87 (n : Nat) (v a b : Int) : s_87 n v a b = some (inb v a b) := by unfold s_87 inb; cases decide (a ≤ v) <;> rfl
theorem p_103 (n : Nat) (v a b : Int) : s_103 n v a b = some (inb v a b) := by unfold s_103 inb; cases decide (a ≤ v) <;> rfl
def spb (s : Span) (m : Int) : Bool := decide (0 ≤ s.low) && (decide (s.low ≤ s.high) && decide (s.high ≤ m))
theorem p_107 (n : Nat) (s : Span) (m : Int) : s_107 n s m = some (spb s m) := by unfold s_107 spb; cases decide (0 ≤ s.low) <;> cases decide (s.low ≤ s.high) <;> rfl
theorem p_148 (n : Nat) (s : Span) (m : Int) : s_148 n s m = some (spb s m) := by unfold s_148 spb; cases decide (0 ≤ s.low) <;> cases decide (s.low ≤ s.high) <;> rfl
def okA (a : Acid) : Bool := spb a.strength 100 && spb a.fall 20
def okS (h : Int) (s : Strip) : Bool := inb s.hour 0 (wr (h - 1)) && (inb s.seen 0 2000 && inb s.off 0 50)
def okBt (b : Batch) : Bool := inb b.rough 0 1000 && (inb b.goal 0 1000 && (inb b.thick 0 1000 && (inb b.least 0 1000 && (inb b.polish 0 100 && inb b.eat 0 100))))
def okL (d : Drum) : Bool := d.acids.all okA && (d.adds.all (fun x => inb x 0 100) && (d.strips.all (okS d.hours) && d.batches.all okBt))
def okN (d : Drum) : Bool := inb d.acids.length 1 4 && (inb d.known 1 (2 ^ d.acids.length - 1) && (inb d.hours 1 12 && (decide ((d.adds.length : Int) = d.hours) && (decide ((d.strips.length : Int) ≤ 6) && inb d.batches.length 1 5))))
def okD (d : Drum) : Bool := okN d && okL d
theorem inb_iff {v a b : Int} : inb v a b = true ↔ a ≤ v ∧ v ≤ b := by simp [inb]
theorem spb_iff {s : Span} {m : Int} : spb s m = true ↔ s.ok m := by simp [spb, Span.ok]
theorem okA_iff {a : Acid} : okA a = true ↔ a.ok := by simp [okA, Acid.ok, spb_iff]
theorem okS_iff {h : Int} {s : Strip} (hh : 1 ≤ h ∧ h ≤ 12) : okS h s = true ↔ s.ok h := by
 unfold okS
 rw [wr_of (by omega)]
 simp [Strip.ok, inb_iff]
theorem okBt_iff {b : Batch} : okBt b = true ↔ b.ok := by simp [okBt, Batch.ok, inb_iff]
theorem okD_iff {d : Drum} : okD d = true ↔ d.ok := by
 constructor
 ·intro h
  simp only [okD, okN, okL, Bool.and_eq_true, inb_iff, decide_eq_true_eq, List.all_eq_true] at h
  obtain ⟨⟨h1, h2, h3, h4, h5, h6⟩, h7, h8, h9, h10⟩ := h
  exact ⟨by omega, h2, h3, h4, by omega, by omega, fun a ha => okA_iff.1 (h7 a ha), h8, fun s hs => (okS_iff h3).1 (h9 s hs), fun b hb => okBt_iff.1 (h10 b hb)⟩
 ·intro h
  simp only [okD, okN, okL, Bool.and_eq_true, inb_iff, decide_eq_true_eq, List.all_eq_true]
  have h1 := h.acl
  have h5 := h.stl
  have h6 := h.btl
  exact ⟨⟨by omega, h.kn, h.hr, h.adl, by omega, by omega⟩, fun a ha => okA_iff.2 (h.ac a ha), h.ad, fun s hs => (okS_iff h.hr).2 (h.st s hs), fun b hb => okBt_iff.2 (h.bt b hb)⟩
structure Short (d : Drum) : Prop where
 a : d.acids.length ≤ 6
 b : d.adds.length ≤ 15
 c : d.strips.length ≤ 9
 e : d.batches.length ≤ 7
def shortB (d : Drum) : Bool := decide (((d.acids.length : Nat) : Int) ≤ 6) && (decide (((d.adds.length : Nat) : Int) ≤ 15) && (decide (((d.strips.length : Nat) : Int) ≤ 9) && decide (((d.batches.length : Nat) : Int) ≤ 7)))
theorem shortB_iff {d : Drum} : shortB d = true ↔ Short d := by
 simp only [shortB, Bool.and_eq_true, decide_eq_true_eq]
 exact ⟨fun h => ⟨by omega, by omega, by omega, by omega⟩, fun h => ⟨by have := h.a; omega, by have := h.b; omega, by have := h.c; omega, by have := h.e; omega⟩⟩
theorem p_23 (n : Nat) (d : Drum) : s_23 n d = some (shortB d) := by
 unfold s_23 shortB
 cases decide (((d.acids.length : Nat) : Int) ≤ 6) <;> cases decide (((d.adds.length : Nat) : Int) ≤ 15) <;> cases decide (((d.strips.length : Nat) : Int) ≤ 9) <;> rfl
section
variable {n : Nat} {d : Drum}
theorem p_39_l14 (hn : 100 ≤ n) (hs : Short d) : s_39_l14 n d n 0 = some (d.batches.all okBt) := by
 have := hs.e
 rw [loop_all d.batches (s_39_l14 n d) okBt (some true) (fun k i => ?_) (by omega) (by omega)]
 ·cases d.batches.all okBt <;> rfl
 ·rw [s_39_l14]
  congr 1
  congr 1
  funext x
  simp only [p_103, Option.bind_some, okBt, s_39_j17]
  cases inb x.rough 0 1000 <;> cases inb x.goal 0 1000 <;> cases inb x.thick 0 1000 <;> cases inb x.least 0 1000 <;> cases inb x.polish 0 100 <;> cases inb x.eat 0 100 <;> rfl
theorem p_39_l10 (hn : 100 ≤ n) (hs : Short d) : s_39_l10 n d n 0 = some (d.strips.all (okS d.hours) && d.batches.all okBt) := by
 have := hs.c
 rw [loop_all d.strips (s_39_l10 n d) (okS d.hours) (some (d.batches.all okBt)) (fun k i => ?_) (by omega) (by omega)]
 ·cases d.strips.all (okS d.hours) <;> rfl
 ·rw [s_39_l10, p_39_l14 hn hs]
  congr 1
  congr 1
  funext x
  simp only [p_103, Option.bind_some, okS, s_39_j13]
  cases inb x.hour 0 (wr (d.hours - 1)) <;> cases inb x.seen 0 2000 <;> cases inb x.off 0 50 <;> rfl
theorem p_39_l9 (hn : 100 ≤ n) (hs : Short d) : s_39_l9 n d n 0 = some (d.adds.all (fun x => inb x 0 100) && (d.strips.all (okS d.hours) && d.batches.all okBt)) := by
 have := hs.b
 rw [loop_all d.adds (s_39_l9 n d) (fun x => inb x 0 100) (some (d.strips.all (okS d.hours) && d.batches.all okBt)) (fun k i => ?_) (by omega) (by omega)]
 ·cases d.adds.all (fun x => inb x 0 100) <;> rfl
 ·rw [s_39_l9, p_39_l10 hn hs]
  congr 1
  congr 1
  funext x
  simp only [p_103, Option.bind_some]
  cases inb x 0 100 <;> rfl
theorem p_39_l5 (hn : 100 ≤ n) (hs : Short d) : s_39_l5 n d n 0 = some (okL d) := by
 have := hs.a
 rw [loop_all d.acids (s_39_l5 n d) okA (some (d.adds.all (fun x => inb x 0 100) && (d.strips.all (okS d.hours) && d.batches.all okBt))) (fun k i => ?_) (by omega) (by omega)]
 ·unfold okL; cases d.acids.all okA <;> rfl
 ·rw [s_39_l5, p_39_l9 hn hs]
  by_cases hi : i < d.acids.length
  ·have e := ix_at (List.getElem?_eq_getElem hi)
   simp only [e, Option.bind_some, p_107, okA, s_39_j8]
   cases spb d.acids[i].strength 100 <;> cases spb d.acids[i].fall 20 <;> rfl
  ·have e1 : decide ((i : Int) < ((d.acids.length : Nat) : Int)) = false := decide_eq_false (by omega)
   rw [e1, cond_false, cond_false]
theorem p_106 (hn : 100 ≤ n) {m : Nat} (hm : m ≤ 40) : s_106 n (m : Int) = some (2 ^ m) := by
 have h1 : ∀ (r k : Nat) (i : Nat), i + r = m → r < k → s_106_l1 (m : Int) k (2 ^ i) (i : Int) = some (2 ^ m) := by
  intro r
  induction r with
  | zero =>
   intro k i hi hk
   obtain ⟨k, rfl⟩ : ∃ k', k = k' + 1 := ⟨k - 1, by omega⟩
   have e1 : decide ((i : Int) < (m : Int)) = false := decide_eq_false (by omega)
   have : i = m := by omega
   subst this
   rw [s_106_l1, e1, cond_false]
  | succ r ih =>
   intro k i hi hk
   obtain ⟨k, rfl⟩ : ∃ k', k = k' + 1 := ⟨k - 1, by omega⟩
   have e1 : decide ((i : Int) < (m : Int)) = true := decide_eq_true (by omega)
   have h6 : -9223372036854775808 ≤ (2 : Int) * 2 ^ i ∧ (2 : Int) * 2 ^ i ≤ 9223372036854775807 := by
    obtain ⟨p, hp, hp2⟩ : ∃ p : Nat, (2 : Int) ^ i = (p : Int) ∧ p ≤ 2 ^ 40 := ⟨2 ^ i, by push_cast; rfl, Nat.pow_le_pow_right (by omega) (by omega)⟩
    rw [hp]
    omega
   rw [s_106_l1, e1, cond_true, wr_of (x := 2 * 2 ^ i) h6, wr_of (x := (i : Int) + 1) (by omega)]
   have := ih k (i + 1) (by omega) (by omega)
   rw [show (2 : Int) * 2 ^ i = 2 ^ (i + 1) by rw [Int.pow_succ]; omega]
   exact_mod_cast this
 have := h1 m n 0 (by omega) (by omega)
 simpa [s_106] using this
theorem p_39 (hn : 100 ≤ n) (hs : Short d) : s_39 n d = some (okD d) := by
 have h1 := hs.a
 unfold s_39
 rw [p_106 hn (by omega)]
 simp only [p_103, Option.bind_some, s_39_j4, p_39_l5 hn hs]
 have h3 : (2 : Int) ^ d.acids.length ≤ 64 := by
  have : (2 : Nat) ^ d.acids.length ≤ 2 ^ 6 := Nat.pow_le_pow_right (by omega) h1
  exact_mod_cast this
 have h4 : (0 : Int) < 2 ^ d.acids.length := by
  have : (0 : Nat) < 2 ^ d.acids.length := Nat.pow_pos (by omega)
  exact_mod_cast this
 rw [wr_of (by omega)]
 have h5 : decide (6 < ((d.strips.length : Nat) : Int)) = !decide (((d.strips.length : Nat) : Int) ≤ 6) := by
  by_cases h : ((d.strips.length : Nat) : Int) ≤ 6
  ·simp [h]
  ·simp [h]; omega
 rw [h5]
 unfold okD okN
 cases inb d.acids.length 1 4 <;> cases inb d.known 1 (2 ^ d.acids.length - 1) <;> cases inb d.hours 1 12 <;> cases decide (((d.adds.length : Nat) : Int) = d.hours) <;> cases decide (((d.strips.length : Nat) : Int) ≤ 6) <;> cases inb d.batches.length 1 5 <;> rfl
end
end Go.Proofs.YtohmhlkdgfcaeaaGreatDoor
namespace Go.Proofs.YtohmhlkdgfcaeaaGreatDoor
open Go Go.RowKit
section
variable {n : Nat} {d : Drum}
theorem p_121 (hn : 100 ≤ n) (l : List Int) (hl : l.length ≤ 50) (f : Int → Option Bool) (p : Int → Bool) (hf : ∀ x ∈ l, f x = some (p x)) : s_121 n l f = some (l.any p) := by
 unfold s_121 s_167
 rw [loop_first l f p hf (s_167_l1 f l) (fun k i => by rw [s_167_l1]) (by omega) (by omega), Option.bind_some, firstI_any]
theorem p_146 (hn : 100 ≤ n) (l : List Acid) (hl : l.length ≤ 50) (f : Acid → Option Bool) (p : Acid → Bool) (hf : ∀ x ∈ l, f x = some (p x)) : s_146 n l f = some (l.any p) := by
 unfold s_146 s_174
 rw [loop_first l f p hf (s_174_l1 f l) (fun k i => by rw [s_174_l1]) (by omega) (by omega), Option.bind_some, firstI_any]
theorem p_95 (hn : 100 ≤ n) (l : List Strip) (hl : l.length ≤ 50) (f : Strip → Option Bool) (p : Strip → Bool) (hf : ∀ x ∈ l, f x = some (p x)) : s_95 n l f = some (l.any p) := by
 unfold s_95 s_143
 rw [loop_first l f p hf (s_143_l1 f l) (fun k i => by rw [s_143_l1]) (by omega) (by omega), Option.bind_some, firstI_any]
theorem p_151 (hn : 100 ≤ n) (l : List Batch) (hl : l.length ≤ 50) (f : Batch → Option Bool) (p : Batch → Bool) (hf : ∀ x ∈ l, f x = some (p x)) : s_151 n l f = some (l.any p) := by
 unfold s_151 s_175
 rw [loop_first l f p hf (s_175_l1 f l) (fun k i => by rw [s_175_l1]) (by omega) (by omega), Option.bind_some, firstI_any]
theorem any_not {α : Type} (l : List α) (p : α → Bool) : l.any (fun x => !p x) = !l.all p := by
 induction l with
 | nil => rfl
 | cons x r ih => simp only [List.any_cons, List.all_cons, ih, Bool.not_and]
theorem p_147 (a : Acid) : s_147 n a = some (!okA a) := by
 unfold s_147 okA
 simp only [p_148, Option.bind_some]
 cases spb a.strength 100 <;> cases spb a.fall 20 <;> rfl
theorem p_149 (x : Int) : s_149 n x = some (!inb x 0 100) := by
 unfold s_149
 simp only [p_87, Option.bind_some]
theorem p_150 (s : Strip) : s_150 n s d = some (!okS d.hours s) := by
 unfold s_150 okS
 simp only [p_87, Option.bind_some]
 cases inb s.hour 0 (wr (d.hours - 1)) <;> cases inb s.seen 0 2000 <;> cases inb s.off 0 50 <;> rfl
theorem p_152 (b : Batch) : s_152 n b = some (!okBt b) := by
 unfold s_152 s_153 okBt
 simp only [p_87, Option.bind_some]
 cases inb b.rough 0 1000 <;> cases inb b.goal 0 1000 <;> cases inb b.thick 0 1000 <;> cases inb b.least 0 1000 <;> cases inb b.polish 0 100 <;> cases inb b.eat 0 100 <;> rfl
theorem p_104 (hn : 100 ≤ n) (hs : Short d) : s_104 n d = some (okD d) := by
 have h1 := hs.a
 have h2 := hs.b
 have h7 := hs.c
 have h8 := hs.e
 have h3 : (2 : Int) ^ d.acids.length ≤ 64 := by
  have : (2 : Nat) ^ d.acids.length ≤ 2 ^ 6 := Nat.pow_le_pow_right (by omega) h1
  exact_mod_cast this
 have h4 : (0 : Int) < 2 ^ d.acids.length := by
  have : (0 : Nat) < 2 ^ d.acids.length := Nat.pow_pos (by omega)
  exact_mod_cast this
 have hsh : shl .i64 1 ((List.length d.acids : Nat) : Int) = some (2 ^ d.acids.length) := by
  unfold shl
  rw [show decide ((0 : Int) ≤ ((List.length d.acids : Nat) : Int)) = true from decide_eq_true (by omega), cond_true]
  have hm : min ((List.length d.acids : Nat) : Int).toNat IntKind.i64.bits = d.acids.length := by
   show min d.acids.length 64 = d.acids.length
   omega
  rw [hm, Int.one_mul]
  exact congrArg some (wr_of (by omega))
 unfold s_104
 rw [hsh]
 simp only [p_87, Option.bind_some, p_146 hn d.acids (by omega) _ _ (fun x _ => p_147 x), p_121 hn d.adds (by omega) _ _ (fun x _ => p_149 x), p_95 hn d.strips (by omega) _ _ (fun x _ => p_150 x), p_151 hn d.batches (by omega) _ _ (fun x _ => p_152 x), any_not]
 rw [wr_of (by omega)]
 unfold okD okN okL
 cases inb d.acids.length 1 4 <;> cases inb d.known 1 (2 ^ d.acids.length - 1) <;> cases inb d.hours 1 12 <;> cases decide (((d.adds.length : Nat) : Int) = d.hours) <;> cases decide (((d.strips.length : Nat) : Int) ≤ 6) <;> cases inb d.batches.length 1 5 <;>
  cases d.acids.all okA <;> cases d.adds.all (fun x => inb x 0 100) <;> cases d.strips.all (okS d.hours) <;> cases d.batches.all okBt <;> rfl
def hasB (set : Int) (i : Nat) : Bool := decide (set / 2 ^ i % 2 = 1)
theorem pow_bound {i : Nat} (h : i ≤ 6) : (1 : Int) ≤ 2 ^ i ∧ (2 : Int) ^ i ≤ 64 := by
 obtain ⟨p, hp, hp1, hp2⟩ : ∃ p : Nat, (2 : Int) ^ i = (p : Int) ∧ 1 ≤ p ∧ p ≤ 2 ^ 6 := ⟨2 ^ i, by push_cast; rfl, Nat.pow_pos (by omega), Nat.pow_le_pow_right (by omega) h⟩
 omega
theorem and_one : ∀ x : Nat, x < 16 → bits .and .i64 (x : Int) 1 = (x : Int) % 2 := by decide
theorem p_145 {set : Int} {i : Nat} (hi : i ≤ 6) (h0 : 0 ≤ set) (h1 : set ≤ 15) : s_145 n set i = some (hasB set i) := by
 unfold s_145
 have hp := pow_bound hi
 have e1 : shr .i64 set (i : Int) = some (set / 2 ^ i) := by
  unfold shr
  rw [show decide ((0 : Int) ≤ (i : Int)) = true from decide_eq_true (by omega), cond_true]
  have hm : min ((i : Nat) : Int).toNat IntKind.i64.bits = i := by
   show min i 64 = i
   omega
  rw [hm, Int.fdiv_eq_ediv_of_nonneg _ (by omega)]
 rw [e1, Option.bind_some, hasB]
 have h3 : 0 ≤ set / 2 ^ i := Int.ediv_nonneg h0 (by omega)
 have h4 : set / 2 ^ i ≤ set := Int.ediv_le_self _ h0
 obtain ⟨x, hx⟩ := Int.eq_ofNat_of_zero_le h3
 rw [hx, and_one x (by omega)]
end
end Go.Proofs.YtohmhlkdgfcaeaaGreatDoor
namespace Go.Proofs.YtohmhlkdgfcaeaaGreatDoor
open Go Go.RowKit
instance (ad : List Int) (st : List Strip) (a : Acid) (H : Nat) : Decidable (Poss ad st a H) := by unfold Poss; infer_instance
def Span.small (s : Span) : Prop := (-5000 ≤ s.low ∧ s.low ≤ 5000) ∧ (-5000 ≤ s.high ∧ s.high ≤ 5000)
section
variable {n : Nat} {a : Acid} {add : Int} {s : Span}
theorem p_115 (ha : a.ok) (h : 0 ≤ add ∧ add ≤ 100) (hs : s.small) : s_115 n a add s = some (aft a add s) := by
 obtain ⟨h1, h2⟩ := ha
 simp only [Span.ok, Span.small] at h1 h2 hs
 unfold s_115 aft
 rw [wr_of (x := s.low - a.fall.high) (by omega), wr_of (x := s.high - a.fall.low) (by omega), wr_of (by omega), wr_of (by omega)]
end
section
variable {n : Nat} {d : Drum} {a : Acid}
theorem capL_small {l : List Span} {s : Span} (h : s.small) (hl : ∀ t ∈ l, t.small) : (capL s l).small := by
 induction l generalizing s with
 | nil => exact h
 | cons t l ih =>
  refine ih (s := cap s t) ?_ (fun u hu => hl u (List.mem_cons_of_mem _ hu))
  have := hl t List.mem_cons_self
  simp only [Span.small, cap] at *
  omega
theorem strip_small {s : Strip} {H : Int} (h : s.ok H) : s.span.small := by
 obtain ⟨h1, h2, h3⟩ := h
 simp only [Strip.span, Span.small]
 omega
theorem stripsAt_small (hd : d.ok) (h : Nat) : ∀ t ∈ stripsAt d.strips h, t.small := by
 intro t ht
 simp only [stripsAt, List.mem_map, List.mem_filter] at ht
 obtain ⟨s, ⟨hs, _⟩, rfl⟩ := ht
 exact strip_small (hd.st s hs)
theorem stripsAt_cons (x : Strip) (r : List Strip) (h : Nat) : stripsAt (x :: r) h = if x.hour = (h : Int) then x.span :: stripsAt r h else stripsAt r h := by
 unfold stripsAt
 rw [List.filter_cons]
 by_cases hx : x.hour = (h : Int)
 ·simp [hx]
 ·simp [hx]
theorem fw_small (hd : d.ok) (ha : a.ok) {h : Nat} (hh : h < 12) (hn : h = 0 ∨ (fw d.adds d.strips a (h - 1)).ne) : (fw d.adds d.strips a h).small := by
 have h1 := fw_low (st := d.strips) ha hd.ad
 have had := addAt_le hd.ad h
 cases h with
 | zero =>
  refine capL_small ?_ (stripsAt_small hd 0)
  obtain ⟨h1, h2⟩ := ha
  simp only [start, Span.small, Span.ok] at *
  omega
 | succ h =>
  refine capL_small ?_ (stripsAt_small hd (h + 1))
  have h2 := h1 h
  obtain ⟨h3, h4⟩ := ha
  simp only [aft, Span.small, Span.ok, Span.ne, Nat.add_sub_cancel] at *
  omega
def mix (d : Drum) (a : Acid) (H m : Nat) : List Span := (List.range H).map fun h => if h < m then fw d.adds d.strips a h else bd d.adds d.strips a H h
def bdL (d : Drum) (a : Acid) (H : Nat) : List Span := (List.range H).map (bd d.adds d.strips a H)
theorem mix_get {H m h : Nat} (hh : h < H) : (mix d a H m)[h]? = some (if h < m then fw d.adds d.strips a h else bd d.adds d.strips a H h) := by
 unfold mix
 rw [List.getElem?_map, List.getElem?_range hh]; rfl
theorem mix_step {H m : Nat} (hm : m < H) : (mix d a H (m + 1)).set m (bd d.adds d.strips a H m) = mix d a H m := by
 apply List.ext_getElem?
 intro i
 rw [List.getElem?_set]
 by_cases hi : i < H
 ·rw [mix_get (m := m) hi, mix_get (m := m + 1) hi]
  by_cases hmi : m = i
  ·subst hmi
   rw [if_pos rfl, if_pos (by unfold mix; simpa using hm), if_neg (by omega)]
  ·rw [if_neg hmi]
   by_cases h1 : i < m
   ·rw [if_pos h1, if_pos (by omega)]
   ·rw [if_neg h1, if_neg (by omega)]
 ·have e : ∀ q, (mix d a H q)[i]? = none := fun q => by unfold mix; simp; omega
  rw [if_neg (by omega), e, e]
theorem mix_zero {H : Nat} : mix d a H 0 = bdL d a H := by
 unfold mix bdL
 apply List.map_congr_left
 intro h _
 rw [if_neg (by omega)]
theorem bd_small (hd : d.ok) (ha : a.ok) {H h : Nat} (hH : H ≤ 12) (hp : Poss d.adds d.strips a H) (hh : h < H) : (bd d.adds d.strips a H h).small := by
 have h1 := fw_low (st := d.strips) ha hd.ad h
 have h2 := bd_ok ha hd.ad hp hh
 simp only [Span.small, Span.ne] at *
 omega
theorem add_at (hd : d.ok) {h : Nat} (hh : (h : Int) < d.hours) : ix d.adds (h : Int) = some (addAt d.adds h) := by
 have := hd.adl
 have hl : h < d.adds.length := by omega
 rw [ix_at (List.getElem?_eq_getElem hl), addAt, List.getD_eq_getElem?_getD, List.getElem?_eq_getElem hl]
 rfl
end
end Go.Proofs.YtohmhlkdgfcaeaaGreatDoor
namespace Go.Proofs.YtohmhlkdgfcaeaaGreatDoor
def Meet (w : List Span) : Prop := ∃ x : Int, 0 ≤ x ∧ x ≤ 12 ∧ ∀ s ∈ w, s.mem x
def comm (w : List Span) : Span := capL ⟨0, 12⟩ w
theorem meet_iff {w : List Span} : Meet w ↔ (comm w).ne := by
 constructor
 ·rintro ⟨x, h1, h2, h3⟩
  have := (mem_capL (s := ⟨0, 12⟩) (l := w) (x := x)).2 ⟨⟨h1, h2⟩, h3⟩
  simp only [Span.mem, Span.ne, comm] at *
  omega
 ·intro h
  have h1 := (mem_capL (s := ⟨0, 12⟩) (l := w) (x := (comm w).low)).1 (ne_mem h).1
  exact ⟨_, h1.1.1, h1.1.2, h1.2⟩
instance (w : List Span) : Decidable (Meet w) := decidable_of_iff _ meet_iff.symm
theorem Meet.sub {w w' : List Span} (h : Meet w) (hs : ∀ s ∈ w', s ∈ w) : Meet w' := by
 obtain ⟨x, h1, h2, h3⟩ := h
 exact ⟨x, h1, h2, fun s hw => h3 s (hs s hw)⟩
theorem cap_comm (s a b : Span) : cap (cap s a) b = cap (cap s b) a := by
 simp only [cap, Span.mk.injEq]
 omega
end Go.Proofs.YtohmhlkdgfcaeaaGreatDoor
namespace Go.Proofs.YtohmhlkdgfcaeaaGreatDoor
open Go Go.RowKit
def Err {α : Type} (o : Option (Except Value α)) : Prop := ∃ v, isRule v = true ∧ o = some (.error v)
theorem p_188 (n : Nat) (h : Int) {x y : Span} (hc : (cap x y).ne) : s_188 n h x y = some (.ok (cap x y)) := by
 unfold s_188
 have e : decide ((min x.high y.high) < (max x.low y.low)) = false := decide_eq_false (by simp only [Span.ne, cap] at hc; omega)
 rw [e]; rfl
theorem p_188e (n : Nat) (h : Int) {x y : Span} (hc : ¬ (cap x y).ne) : s_188 n h x y = some (.error (.iface 175 (.agg #[.int .i64 h]))) := by
 unfold s_188
 have e : decide ((min x.high y.high) < (max x.low y.low)) = true := decide_eq_true (by simp only [Span.ne, cap] at hc; omega)
 rw [e]; rfl
theorem capL_cap (l : List Span) : ∀ (s t : Span), capL (cap s t) l = cap (capL s l) t := by
 induction l with
 | nil => intro s t; rfl
 | cons u r ih =>
  intro s t
  show capL (cap (cap s t) u) r = cap (capL (cap s u) r) t
  rw [cap_comm, ih]
def full : Span := ⟨0, 1300⟩
theorem cap_full {s : Span} (h : 0 ≤ s.low ∧ s.high ≤ 1300) : cap full s = s := by
 obtain ⟨h1, h2⟩ := h
 ext
 ·simp only [cap, full]; omega
 ·simp only [cap, full]; omega
theorem capL_full {l : List Span} {s : Span} (h : 0 ≤ s.low ∧ s.high ≤ 1300) : cap (capL full l) s = capL s l := by
 rw [← capL_cap, cap_full h]
theorem ne_left {x y : Span} (h : (cap x y).ne) : x.ne := by simp only [Span.ne, cap] at *; omega
theorem capL_ne {l : List Span} : ∀ {s : Span}, (capL s l).ne → s.ne := by
 induction l with
 | nil => intro s h; exact h
 | cons t r ih => intro s h; exact ne_left (ih (s := cap s t) h)
section
variable {n : Nat} {d : Drum} {a : Acid} {H : Nat}
def lst (H : Nat) (c : Nat → Span) : List Span := (List.range H).map c
theorem lst_get {c : Nat → Span} {h : Nat} (hh : h < H) : (lst H c)[h]? = some (c h) := by
 unfold lst; rw [List.getElem?_map, List.getElem?_range hh]; rfl
theorem lst_set {c : Nat → Span} {m : Nat} {s : Span} : (lst H c).set m s = lst H (fun h => if h = m then s else c h) := by
 apply List.ext_getElem?
 intro i
 rw [List.getElem?_set]
 by_cases hi : i < H
 ·rw [lst_get hi, lst_get hi]
  by_cases hm : m = i
  ·subst hm
   rw [if_pos rfl, if_pos (by unfold lst; simpa using hi), if_pos rfl]
  ·rw [if_neg hm, if_neg (fun e => hm e.symm)]
 ·have e : ∀ c : Nat → Span, (lst H c)[i]? = none := fun c => by unfold lst; simp; omega
  rw [e, e]
  split
  ·rw [if_neg (by unfold lst; simp; omega)]
  ·rfl
theorem lst_congr {c c' : Nat → Span} (h : ∀ i, i < H → c i = c' i) : lst H c = lst H c' := by
 unfold lst
 exact List.map_congr_left (fun i hi => h i (by simpa using hi))
theorem p_173_strips (hd : d.ok) (hn : 100 ≤ n) (hH : d.hours = (H : Int)) (i : Int) (fin : List Span → Option (Except Value Filled)) (hfin : ∀ s, (ix s 0).bind (fun v120 => (ix d.adds 0).bind fun v121 => (ix d.adds 0).bind fun v122 =>
   (s_188 n 0 v120 (Span.mk (wr (a.strength.low + v121)) (wr (a.strength.high + v122)))).bind fun v123 => Except.casesOn (motive := fun _ => Option (Except Value (Filled))) v123 (fun p => some (.error p)) (fun v124 => (ix s 0).bind fun v125 => s_173_l2 n d i a n 1 (sts s 0 v124))) = fin s) :
  ((∀ h, h < H → (capL full (stripsAt d.strips h)).ne) → s_173_l1 n d i a n 0 (lst H (fun _ => full)) = fin (lst H (fun h => capL full (stripsAt d.strips h)))) ∧
  (¬ (∀ h, h < H → (capL full (stripsAt d.strips h)).ne) → Err (s_173_l1 n d i a n 0 (lst H (fun _ => full)))) := by
 have hst := hd.stl
 have h1 := loop_list d.strips (s_173_l1 n d i a) (fun _ x s K => (ix s x.hour).bind fun v => (s_188 n x.hour v x.span).bind fun r => Except.casesOn (motive := fun _ => Option (Except Value (Filled))) r (fun p => some (.error p)) (fun v' => (ix s x.hour).bind fun _ => K (sts s x.hour v')))
  fin (fun k j s => by
   rw [s_173_l1, hfin]
   by_cases hj : j < d.strips.length
   ·have hok := hd.st _ (List.getElem_mem hj)
    simp only [ix_at (List.getElem?_eq_getElem hj), Option.bind_some]
    obtain ⟨q1, q2, q3⟩ := hok
    rw [wr_of (x := d.strips[j].seen - d.strips[j].off) (by omega), wr_of (x := d.strips[j].seen + d.strips[j].off) (by omega)]
    rfl
   ·have e1 : decide ((j : Int) < ((d.strips.length : Nat) : Int)) = false := decide_eq_false (by omega)
    rw [e1, cond_false, cond_false]) (by omega) n 0 (lst H (fun _ => full)) (by omega) (by omega)
 rw [List.drop_zero, show ((0 : Nat) : Int) = 0 from rfl] at h1
 rw [h1]
 clear h1
 have key : ∀ (l : List Strip) (j : Nat) (c : Nat → Span), (∀ s ∈ l, s.ok d.hours) → (∀ h, h < H → (c h).ne) →
   ((∀ h, h < H → (capL (c h) (stripsAt l h)).ne) → fc (fun _ x s K => (ix s x.hour).bind fun v => (s_188 n x.hour v x.span).bind fun r => Except.casesOn (motive := fun _ => Option (Except Value (Filled))) r (fun p => some (.error p)) (fun v' => (ix s x.hour).bind fun _ => K (sts s x.hour v'))) fin j l (lst H c) = fin (lst H (fun h => capL (c h) (stripsAt l h)))) ∧
   (¬ (∀ h, h < H → (capL (c h) (stripsAt l h)).ne) → Err (fc (fun _ x s K => (ix s x.hour).bind fun v => (s_188 n x.hour v x.span).bind fun r => Except.casesOn (motive := fun _ => Option (Except Value (Filled))) r (fun p => some (.error p)) (fun v' => (ix s x.hour).bind fun _ => K (sts s x.hour v'))) fin j l (lst H c))) := by
  intro l
  induction l with
  | nil =>
   intro j c _ hc
   exact ⟨fun _ => rfl, fun h => absurd hc h⟩
  | cons x r ih =>
   intro j c hok hc
   obtain ⟨⟨q1, q2⟩, _⟩ := hok x List.mem_cons_self
   obtain ⟨m, hm⟩ := Int.eq_ofNat_of_zero_le q1
   have hmH : m < H := by omega
   simp only [fc]
   rw [hm, ix_at (lst_get hmH)]
   simp only [Option.bind_some]
   have hcap : ∀ h, capL (c h) (stripsAt (x :: r) h) = capL (if h = m then cap (c m) x.span else c h) (stripsAt r h) := by
    intro h
    rw [stripsAt_cons, hm]
    by_cases hh : h = m
    ·subst hh
     rw [if_pos rfl, if_pos rfl]; rfl
    ·rw [if_neg (by omega), if_neg hh]
   by_cases hx : (cap (c m) x.span).ne
   ·rw [p_188 n m hx]
    simp only [Option.bind_some]
    have hset : sts (lst H c) (m : Int) (cap (c m) x.span) = lst H (fun h => if h = m then cap (c m) x.span else c h) := lst_set
    rw [hset]
    have := ih (j + 1) (fun h => if h = m then cap (c m) x.span else c h) (fun s hs => hok s (List.mem_cons_of_mem _ hs)) (fun h hh => by
     by_cases e : h = m
     ·simp only [e, if_true]; exact hx
     ·simp only [e, if_false]; exact hc h hh)
    simp only [hcap]
    exact this
   ·rw [p_188e n m hx]
    constructor
    ·intro hall
     refine absurd ?_ hx
     have := hall m hmH
     rw [hcap, if_pos rfl] at this
     exact capL_ne this
    ·intro _
     exact ⟨_, rfl, rfl⟩
 exact key d.strips 0 (fun _ => full) hd.st (fun h _ => by simp [Span.ne, full])
def mixS (d : Drum) (a : Acid) (m : Nat) : Nat → Span := fun h => if h < m then fw d.adds d.strips a h else capL full (stripsAt d.strips h)
theorem aft_full (hd : d.ok) (ha : a.ok) {h : Nat} (hh : h + 1 < 12) : 0 ≤ (aft a (addAt d.adds (h + 1)) (fw d.adds d.strips a h)).low ∧ (aft a (addAt d.adds (h + 1)) (fw d.adds d.strips a h)).high ≤ 1300 := by
 have h1 := fw_low (st := d.strips) ha hd.ad h
 have h2 := addAt_le hd.ad (h + 1)
 obtain ⟨h3, h4⟩ := ha
 simp only [aft, Span.ok] at *
 omega
theorem p_173_l3 (hd : d.ok) (ha : a.ok) (hH : d.hours = (H : Int)) (hp : Poss d.adds d.strips a H) (i : Int) : ∀ (m k : Nat), m < k → m ≤ H - 1 → s_173_l3 n d i a k (m : Int) (mix d a H m) = some (.ok ⟨d, i, bdL d a H⟩) := by
 have hhr := hd.hr
 intro m
 induction m with
 | zero =>
  intro k hk hm
  obtain ⟨k, rfl⟩ : ∃ k', k = k' + 1 := ⟨k - 1, by omega⟩
  rw [s_173_l3, decide_eq_false (by omega), cond_false, mix_zero]
 | succ m ih =>
  intro k hk hm
  obtain ⟨k, rfl⟩ : ∃ k', k = k' + 1 := ⟨k - 1, by omega⟩
  have g1 := ix_at (mix_get (d := d) (a := a) (H := H) (m := m + 1) (h := m) (by omega))
  have g2 := ix_at (mix_get (d := d) (a := a) (H := H) (m := m + 1) (h := m + 1) (by omega))
  rw [if_pos (by omega)] at g1
  rw [if_neg (by omega)] at g2
  have e1 : wr (((m + 1 : Nat) : Int) - 1) = (m : Int) := by rw [wr_of (by omega)]; omega
  have hb := bd_small hd ha (by omega) hp (show m + 1 < H by omega)
  have hadd := addAt_le hd.ad (m + 1)
  have hok := (bd_ok ha hd.ad hp (show m < H by omega)).1
  rw [bd_step (ad := d.adds) (st := d.strips) (a := a) (show m + 1 < H by omega)] at hok
  have hset : sts (mix d a H (m + 1)) (m : Int) (bd d.adds d.strips a H m) = mix d a H m := mix_step (by omega)
  have key : ∀ low, low = (bef a (addAt d.adds (m + 1)) (bd d.adds d.strips a H (m + 1))).low → s_173_j6 n (s_173_l3 n d i a k) a ((m + 1 : Nat) : Int) (mix d a H (m + 1)) (bd d.adds d.strips a H (m + 1)) (addAt d.adds (m + 1)) low = some (.ok ⟨d, i, bdL d a H⟩) := by
   intro low hl
   have hhi : wr (wr ((bd d.adds d.strips a H (m + 1)).high - addAt d.adds (m + 1)) + a.fall.high) = (bef a (addAt d.adds (m + 1)) (bd d.adds d.strips a H (m + 1))).high := by
    obtain ⟨h3, h4⟩ := ha
    simp only [Span.small, Span.ok] at hb h3 h4
    rw [wr_of (x := _ - _) (by omega), wr_of (by omega)]
    rfl
   unfold s_173_j6
   rw [hhi, hl, e1, g1]
   simp only [Option.bind_some]
   rw [p_188 n m hok]
   simp only [Option.bind_some]
   rw [← bd_step (ad := d.adds) (st := d.strips) (a := a) (show m + 1 < H by omega), hset]
   exact ih k (by omega) (by omega)
  rw [s_173_l3, decide_eq_true (by omega), cond_true, g2, Option.bind_some, add_at hd (h := m + 1) (by omega), Option.bind_some]
  obtain ⟨h3, h4⟩ := ha
  simp only [Span.small, Span.ok] at hb h3 h4
  by_cases hc : addAt d.adds (m + 1) < (bd d.adds d.strips a H (m + 1)).low
  ·rw [decide_eq_true hc, cond_true]
   refine key _ ?_
   rw [wr_of (x := _ - _) (by omega), wr_of (by omega)]
   simp only [bef]
   rw [if_pos hc]
  ·rw [decide_eq_false hc, cond_false]
   refine key _ ?_
   simp only [bef]
   rw [if_neg hc]
theorem p_173_l2 (hd : d.ok) (hn : 100 ≤ n) (ha : a.ok) (hH : d.hours = (H : Int)) (i : Int) : ∀ (r m k : Nat), m + 1 + r = H → r < k → (∀ h, h < m + 1 → (fw d.adds d.strips a h).ne) →
  (Poss d.adds d.strips a H → s_173_l2 n d i a k ((m + 1 : Nat) : Int) (lst H (mixS d a (m + 1))) = some (.ok ⟨d, i, bdL d a H⟩)) ∧ (¬ Poss d.adds d.strips a H → Err (s_173_l2 n d i a k ((m + 1 : Nat) : Int) (lst H (mixS d a (m + 1))))) := by
 have hhr := hd.hr
 intro r
 induction r with
 | zero =>
  intro m k hm hk hne
  obtain ⟨k, rfl⟩ : ∃ k', k = k' + 1 := ⟨k - 1, by omega⟩
  have hm' : H = m + 1 := by omega
  subst hm'
  refine ⟨fun hp => ?_, fun hp => absurd hne hp⟩
  rw [s_173_l2, decide_eq_false (by omega), cond_false, hH]
  have := p_173_l3 (n := n) hd ha hH hp i m n (by omega) (by omega)
  have e1 : wr (((m + 1 : Nat) : Int) - 1) = (m : Int) := by rw [wr_of (by omega)]; omega
  rw [e1]
  have e2 : lst (m + 1) (mixS d a (m + 1)) = mix d a (m + 1) m := by
   unfold mix lst
   apply List.map_congr_left
   intro h hh
   rw [List.mem_range] at hh
   unfold mixS
   rw [if_pos hh]
   by_cases h1 : h < m
   ·rw [if_pos h1]
   ·have : h = m := by omega
    subst this
    rw [if_neg h1]
    exact (bd_last (ad := d.adds) (st := d.strips) (a := a) (H := h + 1) (by omega)).symm
  rw [e2]
  exact this
 | succ r ih =>
  intro m k hm hk hne
  obtain ⟨k, rfl⟩ : ∃ k', k = k' + 1 := ⟨k - 1, by omega⟩
  have g0 : ix (lst H (mixS d a (m + 1))) (m : Int) = some (fw d.adds d.strips a m) := by
   rw [ix_at (lst_get (by omega))]; unfold mixS; rw [if_pos (by omega)]
  have g1 : ix (lst H (mixS d a (m + 1))) ((m + 1 : Nat) : Int) = some (capL full (stripsAt d.strips (m + 1))) := by
   rw [ix_at (lst_get (by omega))]; unfold mixS; rw [if_neg (by omega)]
  have e1 : wr (((m + 1 : Nat) : Int) - 1) = (m : Int) := by rw [wr_of (by omega)]; omega
  have hsm := fw_small hd ha (show m < 12 by omega) (by
    rcases Nat.eq_zero_or_pos m with h | h
    ·exact .inl h
    ·exact .inr (hne (m - 1) (by omega)))
  have hadd := addAt_le hd.ad (m + 1)
  have haft : Span.mk (wr ((max 0 (wr ((fw d.adds d.strips a m).low - a.fall.high))) + addAt d.adds (m + 1))) (wr ((max 0 (wr ((fw d.adds d.strips a m).high - a.fall.low))) + addAt d.adds (m + 1))) = aft a (addAt d.adds (m + 1)) (fw d.adds d.strips a m) :=
   Option.some.inj (p_115 (n := n) ha hadd hsm)
  have hfw : cap (capL full (stripsAt d.strips (m + 1))) (aft a (addAt d.adds (m + 1)) (fw d.adds d.strips a m)) = fw d.adds d.strips a (m + 1) := capL_full (aft_full hd ha (by omega))
  rw [s_173_l2, decide_eq_true (by omega), cond_true, e1, g0, Option.bind_some, add_at hd (h := m + 1) (by omega), Option.bind_some, g1, Option.bind_some, haft]
  by_cases hf : (fw d.adds d.strips a (m + 1)).ne
  ·rw [p_188 n _ (by rw [hfw]; exact hf), hfw]
   simp only [Option.bind_some]
   have hset : sts (lst H (mixS d a (m + 1))) ((m + 1 : Nat) : Int) (fw d.adds d.strips a (m + 1)) = lst H (mixS d a (m + 1 + 1)) := by
    refine (lst_set (m := m + 1)).trans (lst_congr (fun h _ => ?_))
    unfold mixS
    by_cases e : h = m + 1
    ·subst e; rw [if_pos rfl, if_pos (by omega)]
    ·rw [if_neg e]
     by_cases h1 : h < m + 1
     ·rw [if_pos h1, if_pos (by omega)]
     ·rw [if_neg h1, if_neg (by omega)]
   rw [hset, wr_of (by omega)]
   have := ih (m + 1) k (by omega) (by omega) (fun h hh => by
    by_cases e : h = m + 1
    ·subst e; exact hf
    ·exact hne h (by omega))
   exact_mod_cast this
  ·rw [p_188e n _ (by rw [hfw]; exact hf)]
   exact ⟨fun hp => absurd (hp (m + 1) (by omega)) hf, fun _ => ⟨_, rfl, rfl⟩⟩
theorem p_173 (hd : d.ok) (hn : 100 ≤ n) {i : Nat} (hi : d.acids[i]? = some a) :
  (Poss d.adds d.strips a d.hours.toNat → s_173 n d i = some (.ok ⟨d, i, bdL d a d.hours.toNat⟩)) ∧ (¬ Poss d.adds d.strips a d.hours.toNat → Err (s_173 n d i)) := by
 have hhr := hd.hr
 have ha := hd.ac a (List.mem_of_getElem? hi)
 obtain ⟨H, hH⟩ := Int.eq_ofNat_of_zero_le (show 0 ≤ d.hours by omega)
 have hH' : d.hours.toNat = H := by omega
 rw [hH']
 unfold s_173
 rw [ix_at hi, Option.bind_some]
 have e187 : s_187 n [Span.mk 0 1300] d.hours = some (lst H (fun _ => full)) := by
  unfold s_187
  rw [decide_eq_true hhr.1, decide_eq_true hhr.2]
  simp only [Bool.and_self, cond_true, hH']
  refine congrArg some ?_
  unfold lst full
  apply List.ext_getElem?
  intro j
  simp [List.getElem?_replicate, List.getElem?_range]
  by_cases hj : j < H <;> simp [hj]
 rw [e187, Option.bind_some]
 obtain ⟨k1, k2⟩ := p_173_strips (n := n) (a := a) hd hn hH i _ (fun s => rfl)
 have hst0 : 0 ≤ (start a (addAt d.adds 0)).low ∧ (start a (addAt d.adds 0)).high ≤ 1300 := by
  have := addAt_le hd.ad 0
  obtain ⟨h3, h4⟩ := ha
  simp only [start, Span.ok] at *
  omega
 have hsub : ∀ h, h < H → (fw d.adds d.strips a h).ne → (capL full (stripsAt d.strips h)).ne := by
  intro h hh hf
  cases h with
  | zero => exact ne_left (y := start a (addAt d.adds 0)) (by rw [capL_full hst0]; exact hf)
  | succ h => exact ne_left (y := aft a (addAt d.adds (h + 1)) (fw d.adds d.strips a h)) (by rw [capL_full (aft_full hd ha (by omega))]; exact hf)
 by_cases hall : ∀ h, h < H → (capL full (stripsAt d.strips h)).ne
 ·rw [k1 hall]
  have g0 : ix (lst H (fun h => capL full (stripsAt d.strips h))) 0 = some (capL full (stripsAt d.strips 0)) := ix_at (lst_get (c := fun h => capL full (stripsAt d.strips h)) (h := 0) (by omega))
  have ga : ix d.adds 0 = some (addAt d.adds 0) := add_at hd (h := 0) (by omega)
  have hs0 : Span.mk (wr (a.strength.low + addAt d.adds 0)) (wr (a.strength.high + addAt d.adds 0)) = start a (addAt d.adds 0) := by
   have := addAt_le hd.ad 0
   obtain ⟨h3, h4⟩ := ha
   simp only [Span.ok] at h3 h4
   rw [wr_of (by omega), wr_of (by omega)]; rfl
  have hfw : cap (capL full (stripsAt d.strips 0)) (start a (addAt d.adds 0)) = fw d.adds d.strips a 0 := capL_full hst0
  simp only [g0, ga, Option.bind_some, hs0]
  by_cases hf : (fw d.adds d.strips a 0).ne
  ·rw [p_188 n _ (by rw [hfw]; exact hf), hfw]
   simp only [Option.bind_some]
   have hset : sts (lst H (fun h => capL full (stripsAt d.strips h))) 0 (fw d.adds d.strips a 0) = lst H (mixS d a (0 + 1)) := by
    refine (lst_set (m := 0)).trans (lst_congr (fun h _ => ?_))
    unfold mixS
    by_cases e : h = 0
    ·subst e; rw [if_pos rfl, if_pos (by omega)]
    ·rw [if_neg e, if_neg (by omega)]
   rw [hset]
   exact p_173_l2 (n := n) hd hn ha hH i (H - 1) 0 n (by omega) (by omega) (fun h hh => by
    have : h = 0 := by omega
    subst this; exact hf)
  ·rw [p_188e n _ (by rw [hfw]; exact hf)]
   exact ⟨fun hp => absurd (hp 0 (by omega)) hf, fun _ => ⟨_, rfl, rfl⟩⟩
 ·exact ⟨fun hp => absurd (fun h hh => hsub h hh (hp h hh)) hall, fun _ => k2 hall⟩
end
end Go.Proofs.YtohmhlkdgfcaeaaGreatDoor
namespace Go.Proofs.YtohmhlkdgfcaeaaGreatDoor
open Go Go.RowKit
def acidAt (d : Drum) (i : Nat) : Acid := d.acids.getD i default
def hrs (d : Drum) : Nat := d.hours.toNat
def PossI (d : Drum) (i : Nat) : Bool := hasB d.known i && decide (Poss d.adds d.strips (acidAt d i) (hrs d))
def bdI (d : Drum) (i : Nat) : List Span := bdL d (acidAt d i) (hrs d)
def idx (d : Drum) : List Nat := (List.range d.acids.length).filter (PossI d)
section
variable {n : Nat} {d : Drum}
theorem acidAt_get {i : Nat} (hi : i < d.acids.length) : d.acids[i]? = some (acidAt d i) := by
 unfold acidAt
 rw [List.getD_eq_getElem?_getD, List.getElem?_eq_getElem hi]; rfl
theorem acidAt_ok (hd : d.ok) {i : Nat} (hi : i < d.acids.length) : (acidAt d i).ok := hd.ac _ (List.mem_of_getElem? (acidAt_get hi))
theorem hrs_eq (hd : d.ok) : d.hours = (hrs d : Int) := by have := hd.hr; unfold hrs; omega
theorem hrs_le (hd : d.ok) : 1 ≤ hrs d ∧ hrs d ≤ 12 := by have := hd.hr; unfold hrs; omega
theorem q_173 (hd : d.ok) (hn : 100 ≤ n) {i : Nat} (hi : i < d.acids.length) : (Poss d.adds d.strips (acidAt d i) (hrs d) → s_173 n d i = some (.ok ⟨d, i, bdI d i⟩)) ∧ (¬ Poss d.adds d.strips (acidAt d i) (hrs d) → Err (s_173 n d i)) :=
 p_173 hd hn (acidAt_get hi)
theorem app_of {α : Type} {l l2 : List α} (h : l.length + l2.length ≤ 1000000) : app l l2 = some (l ++ l2) := by
 unfold app; rw [decide_eq_true h]; rfl
def intL (l : List Nat) : List Int := l.map fun (j : Nat) => (j : Int)
def err (d : Drum) (fine : Bool) : Int := bif !okD d || !fine then 2 else bif (idx d).isEmpty then 7 else 0
def filL (d : Drum) : List Filled := (idx d).map fun (i : Nat) => ⟨d, (i : Int), bdI d i⟩
theorem p_171 (hd : d.ok) (hn : 100 ≤ n) : s_171 n d n 0 [] = some (filL d) := by
 have hl := hd.acl
 have hkn := hd.kn
 have hpw := (pow_bound (i := d.acids.length) (by omega)).2
 have hpw4 : (2 : Int) ^ d.acids.length ≤ 16 := by
  have : (2 : Nat) ^ d.acids.length ≤ 2 ^ 4 := Nat.pow_le_pow_right (by omega) hl.2
  exact_mod_cast this
 have h1 := loop_nat ((d.acids.length : Nat) : Int) (s_171 n d) (fun i s K => (s_145 n d.known i).bind fun b => bif !b then K s else (s_173 n d i).bind fun r => match r with
     | .error v => bif isRule v then K s else none
     | .ok f => (app s [f]).bind fun l' => K l') (fun s => some s) (fun k i s => by rw [s_171]; rfl) (by omega) d.acids.length n 0 [] (by omega) (by omega) (by omega)
 rw [h1]
 have key : ∀ (r i : Nat) (s : List Filled), i + r = d.acids.length → s.length ≤ i → fn ((d.acids.length : Nat) : Int) (fun i s K => (s_145 n d.known i).bind fun b => bif !b then K s else (s_173 n d i).bind fun r => match r with
     | .error v => bif isRule v then K s else none
     | .ok f => (app s [f]).bind fun l' => K l') (fun s => some s) r (i : Int) s = some (s ++ ((List.range' i r).filter (PossI d)).map fun (i : Nat) => (⟨d, (i : Int), bdI d i⟩ : Filled)) := by
  intro r
  induction r with
  | zero => intro i s _ _; simp [fn]
  | succ r ih =>
   intro i s hi hs
   have hc : ((i : Int) + 1) = ((i + 1 : Nat) : Int) := by push_cast; rfl
   simp only [fn]
   rw [p_145 (by omega) (by omega) (by omega), Option.bind_some, List.range'_succ, List.filter_cons, hc]
   cases hp : hasB d.known i with
   | false =>
    have : PossI d i = false := by unfold PossI; rw [hp]; rfl
    rw [this]
    simp only [Bool.not_false, cond_true]
    rw [ih (i + 1) s (by omega) (by omega)]; rfl
   | true =>
    simp only [Bool.not_true, cond_false]
    obtain ⟨k1, k2⟩ := q_173 (n := n) hd hn (show i < d.acids.length by omega)
    by_cases hpo : Poss d.adds d.strips (acidAt d i) (hrs d)
    ·have : PossI d i = true := by unfold PossI; rw [hp, decide_eq_true hpo]; rfl
     rw [this, k1 hpo]
     simp only [Option.bind_some, if_true]
     rw [app_of (by simp; omega), Option.bind_some, ih (i + 1) _ (by omega) (by simp; omega)]
     simp
    ·have : PossI d i = false := by unfold PossI; rw [hp, decide_eq_false hpo]; rfl
     obtain ⟨v, hv, he⟩ := k2 hpo
     rw [this, he]
     simp only [Option.bind_some, hv, cond_true]
     rw [ih (i + 1) s (by omega) (by omega)]; rfl
 have := key d.acids.length 0 [] (by omega) (by simp)
 rw [← List.range_eq_range'] at this
 exact this
theorem p_84 (hn : 100 ≤ n) (hs : Short d) (fine : Bool) : s_84 n d fine = some (bif decide (err d fine = 0) then filL d else [], err d fine) := by
 unfold s_84 err
 rw [p_104 hn hs, Option.bind_some]
 cases hok : okD d with
 | false => rfl
 | true =>
  cases fine
  ·rfl
  ·simp only [Bool.not_true, Bool.or_self, cond_false]
   rw [p_171 (okD_iff.1 hok) hn, Option.bind_some]
   have : (filL d).isEmpty = (idx d).isEmpty := by unfold filL; cases idx d <;> rfl
   rw [this]
   cases (idx d).isEmpty <;> rfl
end
end Go.Proofs.YtohmhlkdgfcaeaaGreatDoor
namespace Go.Proofs.YtohmhlkdgfcaeaaGreatDoor
open Go Go.RowKit
def bdAt (d : Drum) (i h : Nat) : Span := bd d.adds d.strips (acidAt d i) (hrs d) h
section
variable {n : Nat} {d : Drum}
theorem bdI_lst (i : Nat) : bdI d i = lst (hrs d) (bdAt d i) := rfl
theorem bdI_get {i h : Nat} (hh : h < hrs d) : ix (bdI d i) (h : Int) = some (bdAt d i h) := ix_at (by rw [bdI_lst]; exact lst_get hh)
theorem p_85 {i h : Nat} (hh : h < hrs d) : s_85 n ⟨d, (i : Int), bdI d i⟩ (h : Int) = some (bdAt d i h).low := by unfold s_85; rw [bdI_get hh]; rfl
theorem p_86 {i h : Nat} (hh : h < hrs d) : s_86 n ⟨d, (i : Int), bdI d i⟩ (h : Int) = some (bdAt d i h).high := by unfold s_86; rw [bdI_get hh]; rfl
theorem idx_len (hd : d.ok) : (idx d).length ≤ 4 := by
 have := hd.acl
 have h1 := List.length_filter_le (PossI d) (List.range d.acids.length)
 unfold idx
 rw [List.length_range] at h1
 omega
theorem idx_mem {i : Nat} (h : i ∈ idx d) : i < d.acids.length ∧ PossI d i = true := by
 unfold idx at h
 rw [List.mem_filter, List.mem_range] at h
 exact h
end
end Go.Proofs.YtohmhlkdgfcaeaaGreatDoor
namespace Go.Proofs.YtohmhlkdgfcaeaaGreatDoor
open Go Go.RowKit
def ap (off : Int) (x y : Span) : Bool := decide (2 * off < x.low - y.high) || decide (2 * off < y.low - x.high)
def prs (f : Nat → Span) (off : Int) : List Nat → List Nat → Bool
 | _, [] => true
 | pre, x :: r => pre.all (fun y => ap off (f x) (f y)) && prs f off (pre ++ [x]) r
def firstH (p : Nat → Bool) : Nat → Nat → Int
 | 0, _ => -1
 | r + 1, m => bif p m then (m : Int) else firstH p r (m + 1)
section
variable {n : Nat} {d : Drum} {off : Int}
theorem bdAt_small (hd : d.ok) {i h : Nat} (hi : i ∈ idx d) (hh : h < hrs d) : (bdAt d i h).small := by
 obtain ⟨m1, m2⟩ := idx_mem hi
 have hhr := hrs_le hd
 unfold PossI at m2
 simp only [Bool.and_eq_true, decide_eq_true_eq] at m2
 exact bd_small hd (acidAt_ok hd m1) hhr.2 m2.2 hh
theorem p_88_l16 (hd : d.ok) (hn : 100 ≤ n) (ho : 0 ≤ off ∧ off ≤ 50) (K1 : Int → Option Bool) {h : Nat} (hh : h < hrs d) (p : Int) {x : Nat} (hx : x ∈ idx d) (pre : List Nat) (hpre : ∀ y ∈ pre, y ∈ idx d) (hl : pre.length ≤ 50) :
  s_88_l16 n K1 (h : Int) off p ⟨d, (x : Int), bdI d x⟩ (pre.map fun (i : Nat) => ⟨d, (i : Int), bdI d i⟩) n 0 = bif pre.all (fun y => ap off (bdAt d x h) (bdAt d y h)) then K1 (wr (p + 1)) else some false := by
 have h1 := loop_all (pre.map fun (i : Nat) => (⟨d, (i : Int), bdI d i⟩ : Filled)) (s_88_l16 n K1 (h : Int) off p ⟨d, (x : Int), bdI d x⟩ (pre.map fun (i : Nat) => ⟨d, (i : Int), bdI d i⟩)) (fun y => ap off (bdAt d x h) ((y.strong[h]?).getD default)) (K1 (wr (p + 1))) (fun k i => by
  rw [s_88_l16]
  by_cases hi : i < pre.length
  ·have hi' : i < (pre.map fun (i : Nat) => (⟨d, (i : Int), bdI d i⟩ : Filled)).length := by simpa using hi
   rw [ix_at (List.getElem?_eq_getElem hi'), List.getElem_map]
   have hy := hpre _ (List.getElem_mem hi)
   have b1 := bdAt_small hd hx hh
   have b2 := bdAt_small hd hy hh
   simp only [Span.small] at b1 b2
   simp only [Option.bind_some, p_85 hh, p_86 hh, show (bdI d pre[i])[h]? = some (bdAt d pre[i] h) from lst_get hh, Option.getD_some]
   rw [wr_of (x := (bdAt d x h).low - (bdAt d pre[i] h).high) (by omega), wr_of (x := (bdAt d pre[i] h).low - (bdAt d x h).high) (by omega), wr_of (x := 2 * off) (by omega)]
   congr 1
   unfold s_88_j22 ap
   by_cases c1 : (bdAt d x h).low - (bdAt d pre[i] h).high ≤ 2 * off
   ·rw [decide_eq_true c1, cond_true, decide_eq_false (show ¬ (2 * off < (bdAt d x h).low - (bdAt d pre[i] h).high) by omega), Bool.false_or]
    by_cases c2 : (bdAt d pre[i] h).low - (bdAt d x h).high ≤ 2 * off
    ·rw [decide_eq_true c2, cond_true, decide_eq_false (by omega), cond_false]
    ·rw [decide_eq_false c2, cond_false, decide_eq_true (by omega), cond_true]
   ·rw [decide_eq_false c1, cond_false, decide_eq_true (show (2 * off < (bdAt d x h).low - (bdAt d pre[i] h).high) by omega), Bool.true_or, cond_true, cond_false]
  ·have e1 : decide ((i : Int) < (((pre.map fun (i : Nat) => (⟨d, (i : Int), bdI d i⟩ : Filled)).length : Nat) : Int)) = false := decide_eq_false (by simp; omega)
   rw [e1, cond_false, cond_false]) (by simp; omega) (k := n) (by simp; omega)
 rw [h1, List.all_map]
 congr 1
 apply List.all_congr rfl
 intro y
 simp only [Function.comp_apply, show (bdI d y)[h]? = some (bdAt d y h) from lst_get hh, Option.getD_some]
theorem p_88 (hd : d.ok) (hn : 100 ≤ n) (ho : 0 ≤ off ∧ off ≤ 50) {h : Nat} (hh : h < hrs d) : s_88 n (filL d) (h : Int) off = some (prs (fun i => bdAt d i h) off [] (idx d)) := by
 have hil := idx_len hd
 have key : ∀ (r pre : List Nat) (k : Nat), idx d = pre ++ r → r.length < k → s_88_l1 n (filL d) (h : Int) off k (pre.length : Int) = some (prs (fun i => bdAt d i h) off pre r) := by
  intro r
  induction r with
  | nil =>
   intro pre k hr hk
   obtain ⟨k, rfl⟩ : ∃ k', k = k' + 1 := ⟨k - 1, by simp at hk; omega⟩
   rw [s_88_l1, decide_eq_false (by simp [filL, hr]), cond_false]
   rfl
  | cons x r ih =>
   intro pre k hr hk
   have hlen : (idx d).length = pre.length + (r.length + 1) := by rw [hr]; simp
   obtain ⟨k, rfl⟩ : ∃ k', k = k' + 1 := ⟨k - 1, by simp at hk; omega⟩
   have hf : filL d = (pre.map fun (i : Nat) => (⟨d, (i : Int), bdI d i⟩ : Filled)) ++ ⟨d, (x : Int), bdI d x⟩ :: r.map fun (i : Nat) => (⟨d, (i : Int), bdI d i⟩ : Filled) := by unfold filL; rw [hr]; simp
   have g1 : ix (filL d) (pre.length : Int) = some ⟨d, (x : Int), bdI d x⟩ := ix_at (by rw [hf, List.getElem?_append_right (by simp)]; simp)
   have g2 : subl (filL d) 0 (pre.length : Int) = some (pre.map fun (i : Nat) => (⟨d, (i : Int), bdI d i⟩ : Filled)) := by
    unfold subl
    have hle : (pre.length : Int) ≤ ((filL d).length : Int) := by rw [hf]; simp; omega
    rw [decide_eq_true (show (0 : Int) ≤ 0 by omega), decide_eq_true (show (0 : Int) ≤ (pre.length : Int) by omega), decide_eq_true hle]
    simp only [Bool.and_self, cond_true, Int.toNat_natCast, Int.toNat_zero, List.drop_zero]
    rw [hf, List.take_left' (by simp)]
   rw [s_88_l1, decide_eq_true (by rw [hf]; simp; omega), cond_true, g1, Option.bind_some, g2, Option.bind_some]
   rw [p_88_l16 hd hn ho _ hh _ (by rw [hr]; simp) pre (fun y hy => by rw [hr]; simp [hy]) (by omega)]
   rw [wr_of (by omega)]
   have := ih (pre ++ [x]) k (by rw [hr]; simp) (by simp at hk; omega)
   rw [List.length_append] at this
   push_cast at this
   rw [prs]
   cases pre.all (fun y => ap off (bdAt d x h) (bdAt d y h))
   ·rfl
   ·rw [cond_true, Bool.true_and]; exact this
 exact key (idx d) [] n rfl (by omega)
def tellsAt (d : Drum) (off : Int) (h : Nat) : Bool := prs (fun i => bdAt d i h) off [] (idx d)
theorem p_26 (hn : 100 ≤ n) (hs : Short d) : s_26 n d off = some (bif decide (err d (inb off 0 50) = 0) then (bif decide (firstH (tellsAt d off) (hrs d) 0 < 0) then (0, 5) else (firstH (tellsAt d off) (hrs d) 0, 0)) else (0, err d (inb off 0 50))) := by
 unfold s_26
 rw [p_87, Option.bind_some, p_84 hn hs, Option.bind_some]
 by_cases he : err d (inb off 0 50) = 0
 ·simp only [he, decide_true, Bool.not_true, cond_false, cond_true]
  have hok : okD d = true ∧ inb off 0 50 = true := by
   unfold err at he
   cases h : okD d <;> cases h2 : inb off 0 50 <;> rw [h, h2] at he <;> simp at he ⊢
  have hd := okD_iff.1 hok.1
  have ho := inb_iff.1 hok.2
  have hhr := hrs_le hd
  have hH := hrs_eq hd
  have key : ∀ (r m k : Nat), m + r = hrs d → r < k → s_26_l1 n d off (filL d, 0) k (m : Int) = some (bif decide (firstH (tellsAt d off) r m < 0) then (0, 5) else (firstH (tellsAt d off) r m, 0)) := by
   intro r
   induction r with
   | zero =>
    intro m k hm hk
    obtain ⟨k, rfl⟩ : ∃ k', k = k' + 1 := ⟨k - 1, by omega⟩
    rw [s_26_l1, decide_eq_false (by omega), cond_false]
    rfl
   | succ r ih =>
    intro m k hm hk
    obtain ⟨k, rfl⟩ : ∃ k', k = k' + 1 := ⟨k - 1, by omega⟩
    rw [s_26_l1, decide_eq_true (by omega), cond_true]
    simp only [p_88 hd hn ho (show m < hrs d by omega), Option.bind_some, firstH]
    rw [wr_of (by omega)]
    have := ih (m + 1) k (by omega) (by omega)
    push_cast at this
    rw [this]
    show (bif tellsAt d off m then _ else _) = _
    rcases Bool.eq_false_or_eq_true (tellsAt d off m) with ht | ht
    ·simp only [ht, cond_true]
     rw [decide_eq_false (by omega), cond_false]
    ·simp only [ht, cond_false]
  exact key (hrs d) 0 n (by omega) (by omega)
 ·simp only [decide_eq_false he, Bool.not_false, cond_true, cond_false]
end
end Go.Proofs.YtohmhlkdgfcaeaaGreatDoor
namespace Go.Proofs.YtohmhlkdgfcaeaaGreatDoor
open Go Go.RowKit
section
variable {n : Nat} {d : Drum} {b : Batch}
theorem err_zero {fine : Bool} (he : err d fine = 0) : okD d = true ∧ fine = true ∧ idx d ≠ [] := by
 unfold err at he
 cases h : okD d <;> cases h2 : fine <;> rw [h, h2] at he <;> simp at he
 refine ⟨rfl, rfl, fun h3 => ?_⟩
 rw [h3] at he
 simp at he
end
end Go.Proofs.YtohmhlkdgfcaeaaGreatDoor
namespace Go.Proofs.YtohmhlkdgfcaeaaGreatDoor
open Go Go.RowKit
set_option maxRecDepth 4000
attribute [local irreducible] W Ops GS GSG
def s_18_j3 (n : Nat) (v3 : Truth) (v112 : (Bool × Int)) (v113 : ((List Int) × Int)) (v114 : Bool) : Option (Bool) := bif v114 then ( some (false) ) else ( bif (!decide (v113.2 = 0)) then ( (s_24 n ).bind fun v115 => some (v115) ) else ( bif (decide ((v113.1.length : Int) = 1)) then ( bif (!v112.1) then ( (s_24 n ).bind fun v116 => some (v116) ) else ( (ix v113.1 0).bind fun v117 =>
 bif (decide (v117 = v3.acid)) then ( (s_24 n ).bind fun v118 => some (v118) ) else ( some (false) ) ) ) else ( some (false) ) ) )
def s_18_j2 (n : Nat) (v0 : Drum) (v1 : Int) (v2 : Int) (v3 : Truth) (v106 : (Int × Int)) (v109 : Bool) : Option (Bool) := bif v109 then ( some (false) ) else ( (app ([] : List Strip) v0.strips).bind fun v110 => (app v110 ([(Strip.mk v106.1 v2 v1)])).bind fun v111 => (s_68 n (Drum.mk v0.acids v0.known v0.hours v0.adds v111 v0.batches) v3).bind fun v112 =>
 (s_69 n (Drum.mk v0.acids v0.known v0.hours v0.adds v111 v0.batches)).bind fun v113 => bif (!decide (v112.2 = 0)) then ( s_18_j3 n v3 v112 v113 true ) else ( bif (!decide (v113.2 = 0)) then ( bif (!decide (v113.2 = 7)) then ( s_18_j3 n v3 v112 v113 true ) else ( s_18_j3 n v3 v112 v113 v112.1 ) ) else ( s_18_j3 n v3 v112 v113 false ) ) )
def s_18_j1 (n : Nat) (v0 : Drum) (v1 : Int) (v2 : Int) (v3 : Truth) (v104 : Bool) : Option (Bool) := bif v104 then ( (s_24 n ).bind fun v105 => some (v105) ) else ( (s_26 n v0 v1).bind fun v106 => bif (!decide (v106.2 = 0)) then ( bif (decide (v106.2 = 7)) then ( (s_24 n ).bind fun v107 => some (v107) ) else ( bif (decide (v106.2 = 5)) then ( (s_24 n ).bind fun v108 => some (v108) ) else (
 some (false) ) ) ) else ( bif (decide (v106.1 < 0)) then ( s_18_j2 n v0 v1 v2 v3 v106 true ) else ( s_18_j2 n v0 v1 v2 v3 v106 (decide (v0.hours ≤ v106.1)) ) ) )
def s_18 (n : Nat) (v0 : Drum) (v1 : Int) (v2 : Int) (v3 : Truth) : Option (Bool) := (s_23 n v0).bind fun v101 => bif (!v101) then ( s_18_j1 n v0 v1 v2 v3 true ) else ( bif (decide (15 < (v3.strength.length : Int))) then ( s_18_j1 n v0 v1 v2 v3 true ) else ( (s_39 n v0).bind fun v102 => bif (!v102) then ( s_18_j1 n v0 v1 v2 v3 true ) else ( (s_44 n v0 v3).bind fun v103 =>
 bif (!v103) then ( s_18_j1 n v0 v1 v2 v3 true ) else ( bif (decide (v1 < 0)) then ( s_18_j1 n v0 v1 v2 v3 true ) else ( bif (decide (50 < v1)) then ( s_18_j1 n v0 v1 v2 v3 true ) else ( bif (decide (v2 < 0)) then ( s_18_j1 n v0 v1 v2 v3 true ) else ( bif (decide (2000 < v2)) then ( s_18_j1 n v0 v1 v2 v3 true ) else ( s_18_j1 n v0 v1 v2 v3 (decide (6 ≤ (v0.strips.length : Int))) ) ) )
 ) ) ) ) )
theorem c_18 (n : Nat) (v0 : Drum) (v1 : Int) (v2 : Int) (v3 : Truth) {r : (Bool)} (h : s_18 n v0 v1 v2 v3 = some r) :
  Fun Tryz.prog 18 [.agg (cDrum v0), .val (.int .i64 v1), .val (.int .i64 v2), .agg (cTruth v3)] (.ret (.b r)) := by
 unfold s_18 at h
 refine enterW 141 Tryz.func18 q q q ?_
 intro w0 F0
 change W _ _ (Ev [(0, .pv (.agg (cDrum v0))), (1, .pv (.i v1)), (2, .pv (.i v2)), (3, .pv (.agg (cTruth v3)))]) _
 refine W.seq<|W.region<|ob (g_box q q q q q) q q<|ob (g_box q q q q q) q q<|va q q q q q<|on0<|Sq.n<|W.seq<|W.seqJ (σ := Bool) (fun s => (⟨[(1, .pv (.i v1)), (2, .pv (.i v2)), (4, .box 4 0), (7, .box 7 0), (57, .pv (.b s))], [(4, 27, [.pv (.sl (List.map cAcid v0.acids)), .pv (.i v0.known), .pv (.i v0.hours), .pv (.sl (List.map eI v0.adds)), .pv (.sl (List.map cStrip v0.strips)), .pv (.sl (List.map cBatch v0.batches))]), (7, 54, [.pv (.i v3.acid), .pv (.sl (List.map eI v3.strength))])], []⟩ : Env)) (fun s => s_18_j1 n v0 v1 v2 v3 s = some r) ?_ ?_
 ·refine W.region<|ov (g_loadA q q q q q ag_27 sz_27 q q) q ?_
  obtain ⟨v101, e101, h⟩ := bind_some h
  refine ov (g_call q q q ca_23 q (c_23 _ _ e101)) q<|ov (g_not q q q q) q<|vm q q q q q<|Ops.split 19 q (fun hb => ?_) (fun hb => ?_)
  ·have h := bif_t h hb
   refine o2 q q q q q q<|o2 q q q q q q<|o2 q q q q q q<|o2 q q q q q q<|vt q q q q q q<|vm q q q q q<|o2 q q q q q q<|o2 q q q q q q<|o2 q q q q q q<|vt q q q q q q<|vm q q q q q<|o2 q q q q q q<|o2 q q q q q q<|o2 q q q q q q<|o2 q q q q q q<|vt q q q q q q<|vm q q q q q<|o2 q q q q q q<|o2 q q q q q q<|vt q q q q q q<|vm q q q q q<|o2 q q q q q q<|o2 q q q q q q<|vt q q q q q q<|vm q q q q q<|o2 q q q q q q<|o2 q q q q q q<|vt q q q q q q<|vm q q q q q<|o2 q q q q q q<|o2 q q q q q q<|vt q q q q q q<|vm q q q q q<|o2 q q q q q q<|o2 q q q q q q<|o2 q q q q q q<|o2 q q q q q q<|vt q q q q q q<|on0<|Sq.n<|⟨true, h, has_mk ⟨q, q, q, q, q, trivial⟩ ⟨q, q, trivial⟩ trivial q⟩
  ·have h := bif_f h hb
   refine on q q q<|ov (g_fld q q q q fl_54_1) q<|on q q q<|ov (g_load1 q q q q q q ag_23) q<|on q q q<|ov (g_lenM (l := v3.strength) (enc := eI) q ul_23 q q q) q<|on q q q<|ov (g_gtr q q q q q) q<|vf q q q q q q<|vm q q q q q<|Ops.split 25 q (fun hb => ?_) (fun hb => ?_)
   ·have h := bif_t h hb
    refine o2 q q q q q q<|o2 q q q q q q<|o2 q q q q q q<|vt q q q q q q<|vm q q q q q<|o2 q q q q q q<|o2 q q q q q q<|o2 q q q q q q<|o2 q q q q q q<|vt q q q q q q<|vm q q q q q<|o2 q q q q q q<|o2 q q q q q q<|vt q q q q q q<|vm q q q q q<|o2 q q q q q q<|o2 q q q q q q<|vt q q q q q q<|vm q q q q q<|o2 q q q q q q<|o2 q q q q q q<|vt q q q q q q<|vm q q q q q<|o2 q q q q q q<|o2 q q q q q q<|vt q q q q q q<|vm q q q q q<|o2 q q q q q q<|o2 q q q q q q<|o2 q q q q q q<|o2 q q q q q q<|vt q q q q q q<|on0<|Sq.n<|⟨true, h, has_mk ⟨q, q, q, q, q, trivial⟩ ⟨q, q, trivial⟩ trivial q⟩
   ·have h := bif_f h hb
    refine on q q q<|ov (g_loadA q q q q q ag_27 sz_27 q q) q<|on q q q ?_
    obtain ⟨v102, e102, h⟩ := bind_some h
    refine ov (g_call q q q ca_39 q (c_39 _ _ e102)) q<|on q q q<|ov (g_not q q q q) q<|vf q q q q q q<|vm q q q q q<|Ops.split 30 q (fun hb => ?_) (fun hb => ?_)
    ·have h := bif_t h hb
     refine o2 q q q q q q<|o2 q q q q q q<|o2 q q q q q q<|o2 q q q q q q<|vt q q q q q q<|vm q q q q q<|o2 q q q q q q<|o2 q q q q q q<|vt q q q q q q<|vm q q q q q<|o2 q q q q q q<|o2 q q q q q q<|vt q q q q q q<|vm q q q q q<|o2 q q q q q q<|o2 q q q q q q<|vt q q q q q q<|vm q q q q q<|o2 q q q q q q<|o2 q q q q q q<|vt q q q q q q<|vm q q q q q<|o2 q q q q q q<|o2 q q q q q q<|o2 q q q q q q<|o2 q q q q q q<|vt q q q q q q<|on0<|Sq.n<|⟨true, h, has_mk ⟨q, q, q, q, q, trivial⟩ ⟨q, q, trivial⟩ trivial q⟩
    ·have h := bif_f h hb
     refine on q q q<|ov (g_loadA q q q q q ag_27 sz_27 q q) q<|on q q q<|ov (g_loadA q q q q q ag_54 sz_54 q q) q<|on q q q ?_
     obtain ⟨v103, e103, h⟩ := bind_some h
     refine ov (g_call q q q ca_44 q (c_44 _ _ _ e103)) q<|on q q q<|ov (g_not q q q q) q<|vf q q q q q q<|vm q q q q q<|Ops.split 36 q (fun hb => ?_) (fun hb => ?_)
     ·have h := bif_t h hb
      refine o2 q q q q q q<|o2 q q q q q q<|vt q q q q q q<|vm q q q q q<|o2 q q q q q q<|o2 q q q q q q<|vt q q q q q q<|vm q q q q q<|o2 q q q q q q<|o2 q q q q q q<|vt q q q q q q<|vm q q q q q<|o2 q q q q q q<|o2 q q q q q q<|vt q q q q q q<|vm q q q q q<|o2 q q q q q q<|o2 q q q q q q<|o2 q q q q q q<|o2 q q q q q q<|vt q q q q q q<|on0<|Sq.n<|⟨true, h, has_mk ⟨q, q, q, q, q, trivial⟩ ⟨q, q, trivial⟩ trivial q⟩
     ·have h := bif_f h hb
      refine on q q q<|vm q q q q q<|on q q q<|ov (g_lss q q q q q) q<|vf q q q q q q<|vm q q q q q<|Ops.split 40 q (fun hb => ?_) (fun hb => ?_)
      ·have h := bif_t h hb
       refine o2 q q q q q q<|o2 q q q q q q<|vt q q q q q q<|vm q q q q q<|o2 q q q q q q<|o2 q q q q q q<|vt q q q q q q<|vm q q q q q<|o2 q q q q q q<|o2 q q q q q q<|vt q q q q q q<|vm q q q q q<|o2 q q q q q q<|o2 q q q q q q<|o2 q q q q q q<|o2 q q q q q q<|vt q q q q q q<|on0<|Sq.n<|⟨true, h, has_mk ⟨q, q, q, q, q, trivial⟩ ⟨q, q, trivial⟩ trivial q⟩
      ·have h := bif_f h hb
       refine on q q q<|vm q q q q q<|on q q q<|ov (g_gtr q q q q q) q<|vf q q q q q q<|vm q q q q q<|Ops.split 44 q (fun hb => ?_) (fun hb => ?_)
       ·have h := bif_t h hb
        refine o2 q q q q q q<|o2 q q q q q q<|vt q q q q q q<|vm q q q q q<|o2 q q q q q q<|o2 q q q q q q<|vt q q q q q q<|vm q q q q q<|o2 q q q q q q<|o2 q q q q q q<|o2 q q q q q q<|o2 q q q q q q<|vt q q q q q q<|on0<|Sq.n<|⟨true, h, has_mk ⟨q, q, q, q, q, trivial⟩ ⟨q, q, trivial⟩ trivial q⟩
       ·have h := bif_f h hb
        refine on q q q<|vm q q q q q<|on q q q<|ov (g_lss q q q q q) q<|vf q q q q q q<|vm q q q q q<|Ops.split 48 q (fun hb => ?_) (fun hb => ?_)
        ·have h := bif_t h hb
         refine o2 q q q q q q<|o2 q q q q q q<|vt q q q q q q<|vm q q q q q<|o2 q q q q q q<|o2 q q q q q q<|o2 q q q q q q<|o2 q q q q q q<|vt q q q q q q<|on0<|Sq.n<|⟨true, h, has_mk ⟨q, q, q, q, q, trivial⟩ ⟨q, q, trivial⟩ trivial q⟩
        ·have h := bif_f h hb
         refine on q q q<|vm q q q q q<|on q q q<|ov (g_gtr q q q q q) q<|vf q q q q q q<|vm q q q q q<|Ops.split 52 q (fun hb => ?_) (fun hb => ?_)
         ·have h := bif_t h hb
          refine o2 q q q q q q<|o2 q q q q q q<|o2 q q q q q q<|o2 q q q q q q<|vt q q q q q q<|on0<|Sq.n<|⟨true, h, has_mk ⟨q, q, q, q, q, trivial⟩ ⟨q, q, trivial⟩ trivial q⟩
         ·have h := bif_f h hb
          refine on q q q<|ov (g_fld q q q q fl_27_4) q<|on q q q<|ov (g_load1 q q q q q q ag_24) q<|on q q q<|ov (g_lenM (l := v0.strips) (enc := cStrip) q ul_24 q q q) q<|on q q q<|ov (g_geq q q q q q) q<|vf q q q q q q<|on0<|Sq.n<|⟨(decide (6 ≤ (v0.strips.length : Int))), h, has_mk ⟨q, q, q, q, q, trivial⟩ ⟨q, q, trivial⟩ trivial q⟩
 ·rintro v104 h
  change s_18_j1 n v0 v1 v2 v3 v104 = some r at h
  unfold s_18_j1 at h
  change W _ _ (⟨[(1, .pv (.i v1)), (2, .pv (.i v2)), (4, .box 4 0), (7, .box 7 0), (57, .pv (.b v104))], [(4, 27, [.pv (.sl (List.map cAcid v0.acids)), .pv (.i v0.known), .pv (.i v0.hours), .pv (.sl (List.map eI v0.adds)), .pv (.sl (List.map cStrip v0.strips)), .pv (.sl (List.map cBatch v0.batches))]), (7, 54, [.pv (.i v3.acid), .pv (.sl (List.map eI v3.strength))])], []⟩ : Env) _
  refine W.cond (b := v104) q (fun hc => ?_) (fun hc => ?_)
  ·have h := bif_t h hc
   refine W.seq<|W.region ?_
   obtain ⟨v105, e105, h⟩ := bind_some h
   refine ov (g_call q q q ca_24 q (c_24 _  e105)) q<|va q q q q q<|on0<|Sq.n<|W.ret<|Sq.r ?_
   obtain rfl := Option.some.inj h
   exact Fin.r q (.cons (.tmp _ _ q) .nil) q
  ·have h := bif_f h hc
   refine W.skip<|Sq.n<|W.seq<|W.region<|ov (g_loadA q q q q q ag_27 sz_27 q q) q<|vm q q q q q ?_
   obtain ⟨v106, e106, h⟩ := bind_some h
   refine ov (g_call q q q ca_26 q (c_26 _ _ _ e106)) q<|vm q q q q q<|ov (g_extract q q q q q) q<|ov (g_extract q q q q q) q<|va q q q q q<|va q q q q q<|on0<|Sq.n<|W.seq<|W.seq<|W.region<|vm q q q q q<|ov (g_neq q q q q q) q<|on0<|Sq.n<|W.cond (b := (!decide (v106.2 = 0))) q (fun hc => ?_) (fun hc => ?_)
   ·have h := bif_t h hc
    refine W.seq<|W.region<|vm q q q q q<|ov (g_eql q q q q q) q<|vm q q q q q<|Ops.split 69 q (fun hb => ?_) (fun hb => ?_)
    ·have h := bif_t h hb
     refine o2 q q q q q q<|o2 q q q q q q<|vt q q q q q q<|vm q q q q q<|on q q q ?_
     obtain ⟨v107, e107, h⟩ := bind_some h
     refine ov (g_call q q q ca_24 q (c_24 _  e107)) q<|vt q q q q q q<|va q q q q q<|on0<|Sq.n<|W.ret<|Sq.r ?_
     obtain rfl := Option.some.inj h
     exact Fin.r q (.cons (.tmp _ _ q) .nil) q
    ·have h := bif_f h hb
     refine on q q q<|vm q q q q q<|on q q q<|ov (g_eql q q q q q) q<|vf q q q q q q<|vm q q q q q<|Ops.split 73 q (fun hb => ?_) (fun hb => ?_)
     ·have h := bif_t h hb
      refine on q q q ?_
      obtain ⟨v108, e108, h⟩ := bind_some h
      refine ov (g_call q q q ca_24 q (c_24 _  e108)) q<|vt q q q q q q<|va q q q q q<|on0<|Sq.n<|W.ret<|Sq.r ?_
      obtain rfl := Option.some.inj h
      exact Fin.r q (.cons (.tmp _ _ q) .nil) q
     ·have h := bif_f h hb
      refine o2 q q q q q q<|vf q q q q q q<|va q q q q q<|on0<|Sq.n<|W.ret<|Sq.r ?_
      obtain rfl := Option.some.inj h
      exact Fin.r q (.cons (.tmp _ _ q) .nil) q
   ·have h := bif_f h hc
    refine W.skip<|Sq.n<|W.seq<|W.seqJ (σ := Bool) (fun s => (⟨[(1, .pv (.i v1)), (2, .pv (.i v2)), (4, .box 4 0), (7, .box 7 0), (9, .pv (.i v106.1)), (83, .pv (.b s))], [(4, 27, [.pv (.sl (List.map cAcid v0.acids)), .pv (.i v0.known), .pv (.i v0.hours), .pv (.sl (List.map eI v0.adds)), .pv (.sl (List.map cStrip v0.strips)), .pv (.sl (List.map cBatch v0.batches))]), (7, 54, [.pv (.i v3.acid), .pv (.sl (List.map eI v3.strength))])], []⟩ : Env)) (fun s => s_18_j2 n v0 v1 v2 v3 v106 s = some r) ?_ ?_
    ·refine W.region<|vm q q q q q<|ov (g_lss q q q q q) q<|vm q q q q q<|Ops.split 78 q (fun hb => ?_) (fun hb => ?_)
     ·have h := bif_t h hb
      refine o2 q q q q q q<|o2 q q q q q q<|o2 q q q q q q<|o2 q q q q q q<|vt q q q q q q<|on0<|Sq.n<|⟨true, h, has_mk ⟨q, q, q, q, q, q, trivial⟩ ⟨q, q, trivial⟩ trivial q⟩
     ·have h := bif_f h hb
      refine on q q q<|vm q q q q q<|on q q q<|ov (g_fld q q q q fl_27_2) q<|on q q q<|ov (g_load1 q q q q q q ag_3) q<|on q q q<|ov (g_geq q q q q q) q<|vf q q q q q q<|on0<|Sq.n<|⟨(decide (v0.hours ≤ v106.1)), h, has_mk ⟨q, q, q, q, q, q, trivial⟩ ⟨q, q, trivial⟩ trivial q⟩
    ·rintro v109 h
     change s_18_j2 n v0 v1 v2 v3 v106 v109 = some r at h
     unfold s_18_j2 at h
     change W _ _ (⟨[(1, .pv (.i v1)), (2, .pv (.i v2)), (4, .box 4 0), (7, .box 7 0), (9, .pv (.i v106.1)), (83, .pv (.b v109))], [(4, 27, [.pv (.sl (List.map cAcid v0.acids)), .pv (.i v0.known), .pv (.i v0.hours), .pv (.sl (List.map eI v0.adds)), .pv (.sl (List.map cStrip v0.strips)), .pv (.sl (List.map cBatch v0.batches))]), (7, 54, [.pv (.i v3.acid), .pv (.sl (List.map eI v3.strength))])], []⟩ : Env) _
     refine W.cond (b := v109) q (fun hc => ?_) (fun hc => ?_)
     ·have h := bif_t h hc
      refine W.seq<|W.region<|va q q q q q<|on0<|Sq.n<|W.ret<|Sq.r ?_
      obtain rfl := Option.some.inj h
      exact Fin.r q (.cons (.tmp _ _ q) .nil) q
     ·have h := bif_f h hc
      refine W.skip<|Sq.n<|W.seq<|W.region<|ov (g_loadA q q q q q ag_27 sz_27 q q) q<|ob (g_alloc q q q zr_27) q q<|Ops.step q (s_storeB q q q q q q sz_27 q q)<|on0<|Sq.n<|W.seq<|W.region<|ov (g_fld q q q q fl_27_4) q<|ov (g_load1 q q q q q q ag_24) q ?_
      obtain ⟨v110, e110, h⟩ := bind_some h
      refine Ops.step q (s_appendNS (enc := cStrip) e110 q q q q q q ex_24 (fun _ => q) (fun _ => q))<|vm q q q q q<|vm q q q q q<|vm q q q q q<|ov (g_build (cs := (cStrip (Strip.mk v106.1 v2 v1))) q q q zr_92 st_92 q q) q<|Ops.r (g_buildSlice (cs := [.val (.int .i64 v106.1), .val (.int .i64 v2), .val (.int .i64 v1)]) (es := List.map cStrip [(Strip.mk v106.1 v2 v1)]) q q q el_24 ⟨_, zr_92⟩ q q q q q q) q q ?_
      obtain ⟨v111, e111, h⟩ := bind_some h
      refine Ops.step q (s_appendR (enc := cStrip) e111 q q q q q q q q ex_24 (fun _ => q))<|ov (g_fld q q q q fl_27_4) q<|Ops.step q (s_storeB q q q q q q sz_24 q q)<|on0<|Sq.n<|W.seq<|W.region<|Ops.share (k := 87) q<|ov (g_loadA q q q q q ag_27 sz_27 q q) q<|ov (g_loadA q q q q q ag_54 sz_54 q q) q ?_
      obtain ⟨v112, e112, h⟩ := bind_some h
      refine ov (g_call q q q ca_68 q (c_68 _ _ _ e112)) q<|vm q q q q q<|ov (g_extract q q q q q) q<|ov (g_extract q q q q q) q<|va q q q q q<|va q q q q q<|on0<|Sq.n<|W.seq<|W.region<|ov (g_loadA q q q q q ag_27 sz_27 q q) q ?_
      obtain ⟨v113, e113, h⟩ := bind_some h
      refine ov (g_call q q q ca_69 q (c_69 _ _ e113)) q<|vm q q q q q<|ov (g_extract q q q q q) q<|ov (g_extract q q q q q) q<|va q q q q q<|va q q q q q<|on0<|Sq.n<|W.seq<|W.seqJ (σ := Bool) (fun s => (⟨[(7, .box 7 0), (12, .pv (.b v112.1)), (14, .pv (.sl (List.map eI v113.1))), (15, .pv (.i v113.2)), (118, .pv (.b s))], [(7, 54, [.pv (.i v3.acid), .pv (.sl (List.map eI v3.strength))])], []⟩ : Env)) (fun s => s_18_j3 n v3 v112 v113 s = some r) ?_ ?_
      ·refine W.region<|vm q q q q q<|ov (g_neq q q q q q) q<|vm q q q q q<|Ops.split 108 q (fun hb => ?_) (fun hb => ?_)
       ·have h := bif_t h hb
        refine o2 q q q q q q<|o2 q q q q q q<|o2 q q q q q q<|o2 q q q q q q<|o2 q q q q q q<|o2 q q q q q q<|o2 q q q q q q<|o2 q q q q q q<|o2 q q q q q q<|vt q q q q q q<|on0<|Sq.n<|⟨true, h, has_mk ⟨q, q, q, q, q, trivial⟩ ⟨q, trivial⟩ trivial q⟩
       ·have h := bif_f h hb
        refine on q q q<|vm q q q q q<|on q q q<|ov (g_neq q q q q q) q<|on q q q<|vm q q q q q<|Ops.split 111 q (fun hb => ?_) (fun hb => ?_)
        ·have h := bif_t h hb
         refine on q q q<|vm q q q q q<|on q q q<|ov (g_neq q q q q q) q<|on q q q<|vm q q q q q<|Ops.split 114 q (fun hb => ?_) (fun hb => ?_)
         ·have h := bif_t h hb
          refine o2 q q q q q q<|on q q q<|vt q q q q q q<|on q q q<|vt q q q q q q<|vf q q q q q q<|on0<|Sq.n<|⟨true, h, has_mk ⟨q, q, q, q, q, trivial⟩ ⟨q, trivial⟩ trivial q⟩
         ·have h := bif_f h hb
          refine on q q q<|vm q q q q q<|on q q q<|vf q q q q q q<|on q q q<|vt q q q q q q<|vf q q q q q q<|on0<|Sq.n<|⟨v112.1, h, has_mk ⟨q, q, q, q, q, trivial⟩ ⟨q, trivial⟩ trivial q⟩
        ·have h := bif_f h hb
         refine o2 q q q q q q<|o2 q q q q q q<|o2 q q q q q q<|o2 q q q q q q<|o2 q q q q q q<|on q q q<|vf q q q q q q<|vf q q q q q q<|on0<|Sq.n<|⟨false, h, has_mk ⟨q, q, q, q, q, trivial⟩ ⟨q, trivial⟩ trivial q⟩
      ·rintro v114 h
       change s_18_j3 n v3 v112 v113 v114 = some r at h
       unfold s_18_j3 at h
       change W _ _ (⟨[(7, .box 7 0), (12, .pv (.b v112.1)), (14, .pv (.sl (List.map eI v113.1))), (15, .pv (.i v113.2)), (118, .pv (.b v114))], [(7, 54, [.pv (.i v3.acid), .pv (.sl (List.map eI v3.strength))])], []⟩ : Env) _
       refine W.cond (b := v114) q (fun hc => ?_) (fun hc => ?_)
       ·have h := bif_t h hc
        refine W.seq<|W.region<|va q q q q q<|on0<|Sq.n<|W.ret<|Sq.r ?_
        obtain rfl := Option.some.inj h
        exact Fin.r q (.cons (.tmp _ _ q) .nil) q
       ·have h := bif_f h hc
        refine W.skip<|Sq.n<|W.seq ?_
        rcases Bool.eq_false_or_eq_true ((!decide (v113.2 = 0))) with hb4 | hb4
        ·have h := bif_t h hb4
         refine W.draw (m := 15) Checked.mixed (Pre.v (GSG.of q (g_move q q q q)) ((Pre.v (GSG.of q (g_neq q q q q q)) ((Pre.v (GSG.as (GSG.of q (g_move q q q q)) (congrArg (fun b => TV.pv (PV.b b)) hb4)) ((Pre.v (GSG.off2 q q q q q q) ((Pre.v (GSG.off2 q q q q q q) ((Pre.v (GSG.off2 q q q q q q) ((Pre.v (GSG.off2 q q q q q q) ((Pre.v (GSG.off2 q q q q q q) ((Pre.v (GSG.off2 q q q q q q) ((Pre.v (GSG.off2 q q q q q q) ((Pre.v (GSG.off2 q q q q q q) ((Pre.v (GSG.off2 q q q q q q) ((Pre.v (GSG.off2 q q q q q q) ((Pre.v (GSG.off2 q q q q q q) ((Pre.v (GSG.off2 q q q q q q) (Pre.nil _)))))))))))))))))))))))))))))) (by kernel_rfl)<|o2 q q q q q q<|o2 q q q q q q<|o2 q q q q q q<|vt q q q q q q<|vm q q q q q<|on q q q ?_
         obtain ⟨v115, e115, h⟩ := bind_some h
         refine ov (g_call q q q ca_24 q (c_24 _  e115)) q<|vt q q q q q q<|va q q q q q<|on0<|Sq.n<|W.ret ?_
         obtain rfl := Option.some.inj h
         exact Fin.r q (.cons (.tmp _ _ q) .nil) q
        ·have h := bif_f h hb4
         rcases Bool.eq_false_or_eq_true ((decide ((v113.1.length : Int) = 1))) with hb5 | hb5
         ·have h := bif_t h hb5
          rcases Bool.eq_false_or_eq_true ((!v112.1)) with hb6 | hb6
          ·have h := bif_t h hb6
           refine W.draw (m := 15) Checked.mixed (Pre.v (GSG.of q (g_move q q q q)) ((Pre.v (GSG.of q (g_neq q q q q q)) ((Pre.v (GSG.as (GSG.of q (g_move q q q q)) (congrArg (fun b => TV.pv (PV.b b)) hb4)) ((Pre.v (GSG.on q q q (g_move q q q q)) ((Pre.v (GSG.on q q q (g_lenM (l := v113.1) (enc := eI) q ul_23 q q q)) ((Pre.v (GSG.on q q q (g_eql q q q q q)) ((Pre.v (GSG.as (GSG.on q q q (g_move q q q q)) (congrArg (fun b => TV.pv (PV.b b)) hb5)) ((Pre.v (GSG.on q q q (g_move q q q q)) ((Pre.v (GSG.on q q q (g_not q q q q)) ((Pre.v (GSG.as (GSG.on q q q (g_move q q q q)) (congrArg (fun b => TV.pv (PV.b b)) hb6)) ((Pre.v (GSG.off2 q q q q q q) ((Pre.v (GSG.off2 q q q q q q) ((Pre.v (GSG.off2 q q q q q q) ((Pre.v (GSG.off2 q q q q q q) ((Pre.v (GSG.off2 q q q q q q) (Pre.nil _)))))))))))))))))))))))))))))) (by kernel_rfl)<|o2 q q q q q q<|on q q q<|vt q q q q q q<|on q q q<|vt q q q q q q<|vf q q q q q q<|vm q q q q q<|on q q q ?_
           obtain ⟨v116, e116, h⟩ := bind_some h
           refine ov (g_call q q q ca_24 q (c_24 _  e116)) q<|vt q q q q q q<|va q q q q q<|on0<|Sq.n<|W.ret ?_
           obtain rfl := Option.some.inj h
           exact Fin.r q (.cons (.tmp _ _ q) .nil) q
          ·have h := bif_f h hb6
           obtain ⟨v117, e117, h⟩ := bind_some h
           refine W.draw (m := 15) Checked.mixed (Pre.v (GSG.of q (g_move q q q q)) ((Pre.v (GSG.of q (g_neq q q q q q)) ((Pre.v (GSG.as (GSG.of q (g_move q q q q)) (congrArg (fun b => TV.pv (PV.b b)) hb4)) ((Pre.v (GSG.on q q q (g_move q q q q)) ((Pre.v (GSG.on q q q (g_lenM (l := v113.1) (enc := eI) q ul_23 q q q)) ((Pre.v (GSG.on q q q (g_eql q q q q q)) ((Pre.v (GSG.as (GSG.on q q q (g_move q q q q)) (congrArg (fun b => TV.pv (PV.b b)) hb5)) ((Pre.v (GSG.on q q q (g_move q q q q)) ((Pre.v (GSG.on q q q (g_not q q q q)) ((Pre.v (GSG.as (GSG.on q q q (g_move q q q q)) (congrArg (fun b => TV.pv (PV.b b)) hb6)) ((Pre.v (GSG.on q q q (g_move q q q q)) ((Pre.v (GSG.on q q q (g_idxI (l := v113.1) (enc := eI) e117 q q q q q el_23 q)) ((Pre.v (GSG.on q q q (g_loadR1 q q q q q ag_3)) ((Pre.v (GSG.on q q q (g_fld q q q q fl_54_0)) ((Pre.v (GSG.on q q q (g_load1 q q q q q q ag_3)) (Pre.nil _)))))))))))))))))))))))))))))) (by kernel_rfl)<|on q q q<|ov (g_eql q q q q q) q<|on q q q<|vf q q q q q q<|on q q q<|vt q q q q q q<|vf q q q q q q<|vm q q q q q<|Ops.split 138 q (fun hb => ?_) (fun hb => ?_)
           ·have h := bif_t h hb
            refine on q q q ?_
            obtain ⟨v118, e118, h⟩ := bind_some h
            refine ov (g_call q q q ca_24 q (c_24 _  e118)) q<|vt q q q q q q<|va q q q q q<|on0<|Sq.n<|W.ret ?_
            obtain rfl := Option.some.inj h
            exact Fin.r q (.cons (.tmp _ _ q) .nil) q
           ·have h := bif_f h hb
            refine o2 q q q q q q<|vf q q q q q q<|va q q q q q<|on0<|Sq.n<|W.ret ?_
            obtain rfl := Option.some.inj h
            exact Fin.r q (.cons (.tmp _ _ q) .nil) q
         ·have h := bif_f h hb5
          refine W.draw (m := 15) Checked.mixed (Pre.v (GSG.of q (g_move q q q q)) ((Pre.v (GSG.of q (g_neq q q q q q)) ((Pre.v (GSG.as (GSG.of q (g_move q q q q)) (congrArg (fun b => TV.pv (PV.b b)) hb4)) ((Pre.v (GSG.on q q q (g_move q q q q)) ((Pre.v (GSG.on q q q (g_lenM (l := v113.1) (enc := eI) q ul_23 q q q)) ((Pre.v (GSG.on q q q (g_eql q q q q q)) ((Pre.v (GSG.as (GSG.on q q q (g_move q q q q)) (congrArg (fun b => TV.pv (PV.b b)) hb5)) ((Pre.v (GSG.off2 q q q q q q) ((Pre.v (GSG.off2 q q q q q q) ((Pre.v (GSG.off2 q q q q q q) ((Pre.v (GSG.off2 q q q q q q) ((Pre.v (GSG.off2 q q q q q q) ((Pre.v (GSG.off2 q q q q q q) ((Pre.v (GSG.off2 q q q q q q) ((Pre.v (GSG.off2 q q q q q q) (Pre.nil _)))))))))))))))))))))))))))))) (by kernel_rfl)<|o2 q q q q q q<|o2 q q q q q q<|on q q q<|vf q q q q q q<|vf q q q q q q<|vm q q q q q<|o2 q q q q q q<|vf q q q q q q<|va q q q q q<|on0<|Sq.n<|W.ret ?_
          obtain rfl := Option.some.inj h
          exact Fin.r q (.cons (.tmp _ _ q) .nil) q
end Go.Proofs.YtohmhlkdgfcaeaaGreatDoor
namespace Go.Proofs.YtohmhlkdgfcaeaaGreatDoor
open Go Go.RowKit
theorem loop_app {α β γ : Type} (l : List α) (f : Nat → α → Option β) (g : α → β) (hf : ∀ i x, l[i]? = some x → f i x = some (g x)) (L : Nat → Int → List β → Option γ) (fin : List β → Option γ)
  (h : ∀ (k i : Nat) (s : List β), L (k + 1) (i : Int) s = bif decide ((i : Int) < ((l.length : Nat) : Int)) then (ix l (i : Int)).bind (fun x => (f i x).bind fun y => (app s [y]).bind fun s' => L k (wr ((i : Int) + 1)) s') else fin s)
  (hl : l.length ≤ 1000) {n : Nat} (hn : l.length < n) : L n 0 [] = fin (l.map g) := by
 have h1 := loop_list l L (fun i x s K => (f i x).bind fun y => (app s [y]).bind fun s' => K s') fin h (by omega) n 0 [] (by omega) (by omega)
 rw [show ((0 : Nat) : Int) = 0 from rfl] at h1
 rw [h1]
 have key : ∀ (r : List α) (i : Nat) (s : List β), l.drop i = r → s.length ≤ i → fc (fun i x s K => (f i x).bind fun y => (app s [y]).bind fun s' => K s') fin i r s = fin (s ++ r.map g) := by
  intro r
  induction r with
  | nil => intro i s _ _; simp [fc]
  | cons x r ih =>
   intro i s hi hs
   have hil : i < l.length := by
    rcases Nat.lt_or_ge i l.length with h | h
    ·exact h
    ·rw [List.drop_eq_nil_of_le h] at hi; cases hi
   rw [List.drop_eq_getElem_cons hil] at hi
   obtain ⟨hx, hr⟩ := List.cons.inj hi
   rw [fc, hf i x (by rw [List.getElem?_eq_getElem hil, hx]), Option.bind_some, app_of (by simp; omega), Option.bind_some, ih (i + 1) _ hr (by simp; omega)]
   simp
 rw [List.drop_zero]
 simpa using key l 0 [] (by simp) (by simp)
def sizedB (d : Drum) (tr : Truth) : Bool := inb tr.acid 0 (wr (((d.acids.length : Nat) : Int) - 1)) && decide (((tr.strength.length : Nat) : Int) = d.hours)
def stren (tr : Truth) (h : Nat) : Int := tr.strength.getD h 0
def chS (d : Drum) (a : Acid) (tr : Truth) : Nat → Span
 | 0 => start a (addAt d.adds 0)
 | h + 1 => aft a (addAt d.adds (h + 1)) ⟨stren tr h, stren tr h⟩
def chB (d : Drum) (a : Acid) (tr : Truth) (h : Nat) : Bool := inb (stren tr h) (chS d a tr h).low (chS d a tr h).high
def stB (tr : Truth) (s : Strip) : Bool := inb (stren tr s.hour.toNat) (s.seen - s.off) (s.seen + s.off)
def trAcid (d : Drum) (tr : Truth) : Acid := acidAt d tr.acid.toNat
def fitB (d : Drum) (tr : Truth) : Bool := hasB d.known tr.acid.toNat && ((List.range (hrs d)).all (chB d (trAcid d tr) tr) && d.strips.all (stB tr))
section
variable {n : Nat} {d : Drum} {tr : Truth}
theorem p_44 : s_44 n d tr = some (sizedB d tr) := by
 unfold s_44 sizedB
 rw [p_103, Option.bind_some]
 cases inb tr.acid 0 (wr (((d.acids.length : Nat) : Int) - 1)) <;> rfl
theorem p_116 : s_116 n d tr = some (sizedB d tr) := by
 unfold s_116 sizedB
 rw [p_87, Option.bind_some]
 cases inb tr.acid 0 (wr (((d.acids.length : Nat) : Int) - 1)) <;> rfl
theorem stren_at {h : Nat} (hh : h < tr.strength.length) : ix tr.strength (h : Int) = some (stren tr h) := by
 rw [ix_at (List.getElem?_eq_getElem hh), stren, List.getD_eq_getElem?_getD, List.getElem?_eq_getElem hh]; rfl
theorem sized_iff (hd : d.ok) : sizedB d tr = true ↔ (0 ≤ tr.acid ∧ tr.acid.toNat < d.acids.length) ∧ tr.strength.length = hrs d := by
 have hacl := hd.acl
 have hH := hrs_eq hd
 unfold sizedB
 rw [wr_of (by omega)]
 simp only [Bool.and_eq_true, inb_iff, decide_eq_true_eq]
 omega
theorem chS_le (hd : d.ok) (ha : (trAcid d tr).ok) : ∀ (h : Nat), (∀ i, i < h → chB d (trAcid d tr) tr i = true) → 0 ≤ (chS d (trAcid d tr) tr h).low ∧ (chS d (trAcid d tr) tr h).high ≤ 100 + 100 * (h + 1) := by
 intro h
 obtain ⟨h1, h2⟩ := ha
 simp only [Span.ok] at h1 h2
 induction h with
 | zero =>
  intro _
  have := addAt_le hd.ad 0
  simp only [chS, start]
  omega
 | succ h ih =>
  intro hc
  have h3 := ih (fun i hi => hc i (by omega))
  have h4 := inb_iff.1 (hc h (by omega))
  have := addAt_le hd.ad (h + 1)
  simp only [chS, aft]
  push_cast
  omega
theorem stren_le (hd : d.ok) (ha : (trAcid d tr).ok) (h : Nat) (hc : ∀ i, i < h + 1 → chB d (trAcid d tr) tr i = true) : 0 ≤ stren tr h ∧ stren tr h ≤ 100 + 100 * (h + 1) := by
 have h3 := chS_le hd ha h (fun i hi => hc i (by omega))
 have h4 := inb_iff.1 (hc h (by omega))
 omega
theorem p_95st (hd : d.ok) (hn : 100 ≤ n) (hs : tr.strength.length = hrs d) : s_95 n d.strips (fun z0 => s_165 n z0 tr) = some (!d.strips.all (stB tr)) := by
 have hst := hd.stl
 have hH := hrs_eq hd
 rw [p_95 hn d.strips (by omega) _ (fun s => !stB tr s) (fun s hs' => ?_), any_not]
 obtain ⟨q1, q2, q3⟩ := hd.st s hs'
 have e : ix tr.strength s.hour = some (stren tr s.hour.toNat) := by
  have := stren_at (tr := tr) (h := s.hour.toNat) (by omega)
  rwa [show ((s.hour.toNat : Nat) : Int) = s.hour by omega] at this
 unfold s_165
 rw [e, Option.bind_some, p_87, Option.bind_some, wr_of (x := s.seen - s.off) (by omega), wr_of (x := s.seen + s.off) (by omega)]
 rfl
theorem p_117 (hd : d.ok) (hn : 100 ≤ n) (hsz : sizedB d tr = true) : s_117 n d tr = some (fitB d tr) := by
 obtain ⟨⟨h1, h2⟩, h3⟩ := (sized_iff hd).1 hsz
 have hkn := hd.kn
 have hacl := hd.acl
 have hhr := hrs_le hd
 have hH := hrs_eq hd
 have hpw4 : (2 : Int) ^ d.acids.length ≤ 16 := by
  have : (2 : Nat) ^ d.acids.length ≤ 2 ^ 4 := Nat.pow_le_pow_right (by omega) hacl.2
  exact_mod_cast this
 have hac : tr.acid = ((tr.acid.toNat : Nat) : Int) := by omega
 have ha : (trAcid d tr).ok := acidAt_ok hd h2
 have key : ∀ (r m k : Nat), m + r = hrs d → r < k → (∀ i, i < m → chB d (trAcid d tr) tr i = true) → s_117_l1 n d tr (trAcid d tr) k (m : Int) = some ((List.range' m r).all (chB d (trAcid d tr) tr) && d.strips.all (stB tr)) := by
  intro r
  induction r with
  | zero =>
   intro m k hm hk hc
   obtain ⟨k, rfl⟩ : ∃ k', k = k' + 1 := ⟨k - 1, by omega⟩
   rw [s_117_l1, decide_eq_false (by omega), cond_false, p_95st hd hn h3, Option.bind_some, Bool.not_not]
   rfl
  | succ r ih =>
   intro m k hm hk hc
   obtain ⟨k, rfl⟩ : ∃ k', k = k' + 1 := ⟨k - 1, by omega⟩
   have hj : ∀ lo hi, wr (lo + addAt d.adds m) = (chS d (trAcid d tr) tr m).low → wr (hi + addAt d.adds m) = (chS d (trAcid d tr) tr m).high → s_117_j4 n (s_117_l1 n d tr (trAcid d tr) k) d (m : Int) (stren tr m) lo hi = some ((List.range' m (r + 1)).all (chB d (trAcid d tr) tr) && d.strips.all (stB tr)) := by
    intro lo hi e1 e2
    unfold s_117_j4
    rw [add_at hd (h := m) (by omega)]
    simp only [Option.bind_some]
    rw [p_87, Option.bind_some, e1, e2, List.range'_succ, List.all_cons]
    have hcb : inb (stren tr m) (chS d (trAcid d tr) tr m).low (chS d (trAcid d tr) tr m).high = chB d (trAcid d tr) tr m := rfl
    rw [hcb]
    rcases Bool.eq_false_or_eq_true (chB d (trAcid d tr) tr m) with hb | hb
    ·rw [hb, wr_of (by omega)]
     have := ih (m + 1) k (by omega) (by omega) (fun i hi => by
      by_cases e : i = m
      ·subst e; exact hb
      ·exact hc i (by omega))
     push_cast at this
     simp only [Bool.not_true, cond_false, Bool.true_and]
     exact this
    ·rw [hb]; rfl
   rw [s_117_l1, decide_eq_true (by omega), cond_true, stren_at (by omega), Option.bind_some]
   cases m with
   | zero =>
    rw [decide_eq_false (by omega), cond_false]
    have := addAt_le hd.ad 0
    obtain ⟨q1, q2⟩ := ha
    simp only [Span.ok] at q1 q2
    exact hj _ _ (wr_of (by omega)) (wr_of (by omega))
   | succ m =>
    have e1 : wr (((m + 1 : Nat) : Int) - 1) = (m : Int) := by rw [wr_of (by omega)]; omega
    have hsm := stren_le hd ha m hc
    have h115 := p_115 (n := n) ha (addAt_le hd.ad (m + 1)) (s := ⟨stren tr m, stren tr m⟩) (by simp only [Span.small]; omega)
    have h116 := Option.some.inj h115
    rw [decide_eq_true (by omega), cond_true, e1, stren_at (by omega), Option.bind_some]
    exact hj _ _ (congrArg Span.low h116) (congrArg Span.high h116)
 have hx : ix d.acids tr.acid = some (trAcid d tr) := by
  have := ix_at (acidAt_get h2)
  rw [← hac] at this
  exact this
 have hk := key (hrs d) 0 n (by omega) (by omega) (fun i hi => by omega)
 rw [← List.range_eq_range'] at hk
 unfold s_117 fitB
 have h145 := p_145 (n := n) (set := d.known) (i := tr.acid.toNat) (by omega) (by omega) (by omega)
 rw [← hac] at h145
 rw [h145, Option.bind_some, hx, Option.bind_some]
 cases hasB d.known tr.acid.toNat
 ·rfl
 ·exact hk
theorem p_69 (hn : 100 ≤ n) (hs : Short d) : s_69 n d = some (bif decide (err d true = 0) then intL (idx d) else [], err d true) := by
 unfold s_69
 rw [p_84 hn hs, Option.bind_some]
 have key : ∀ (l : List Filled) (e : Int), l.length ≤ 50 → s_69_l1 (l, e) n 0 [] = some (l.map (·.acid), e) := by
  intro l e hl
  exact loop_app l (fun _ x => some x.acid) (·.acid) (fun _ _ _ => rfl) (s_69_l1 (l, e)) (fun s => some (s, e)) (fun k i s => by rw [s_69_l1]; rfl) (by omega) (by omega)
 by_cases he : err d true = 0
 ·have hd := okD_iff.1 (err_zero he).1
  have hil := idx_len hd
  rw [decide_eq_true he, cond_true, cond_true, key _ _ (by simp [filL]; omega)]
  have : (filL d).map (·.acid) = intL (idx d) := by unfold filL intL; rw [List.map_map]; rfl
  rw [this]
 ·rw [decide_eq_false he, cond_false, cond_false, key _ _ (by simp)]
  rfl
theorem p_68 (hn : 100 ≤ n) (hs : Short d) : s_68 n d tr = some (bif okD d && sizedB d tr then (fitB d tr, 0) else (false, 2)) := by
 unfold s_68 s_68_j1
 rw [p_104 hn hs, Option.bind_some]
 cases hok : okD d with
 | false => rfl
 | true =>
  rw [p_116, Option.bind_some]
  cases hsz : sizedB d tr with
  | false => rfl
  | true => rw [p_117 (okD_iff.1 hok) hn hsz]; rfl
end
end Go.Proofs.YtohmhlkdgfcaeaaGreatDoor
namespace Go.Proofs.YtohmhlkdgfcaeaaGreatDoor
open Go Go.RowKit
section
variable {n : Nat} {d : Drum} {tr : Truth}
theorem mem_stripsAt {l : List Strip} {h : Nat} {s : Span} : s ∈ stripsAt l h ↔ ∃ x ∈ l, x.hour = (h : Int) ∧ x.span = s := by
 unfold stripsAt
 simp only [List.mem_map, List.mem_filter, beq_iff_eq]
 constructor
 ·rintro ⟨x, ⟨h1, h2⟩, h3⟩; exact ⟨x, h1, h2, h3⟩
 ·rintro ⟨x, h1, h2, h3⟩; exact ⟨x, ⟨h1, h2⟩, h3⟩
theorem fit_tru (hd : d.ok) : fitB d tr = true ↔ hasB d.known tr.acid.toNat = true ∧ Tru d.adds d.strips (trAcid d tr) (hrs d) (stren tr) := by
 have hH := hrs_eq hd
 unfold fitB
 simp only [Bool.and_eq_true, List.all_eq_true, List.mem_range]
 constructor
 ·rintro ⟨h1, h2, h3⟩
  refine ⟨h1, fun h hh => ⟨?_, fun s hs => ?_⟩⟩
  ·have := inb_iff.1 (h2 h hh)
   cases h <;> exact this
  ·obtain ⟨x, hx, hx2, rfl⟩ := mem_stripsAt.1 hs
   have h4 := inb_iff.1 (h3 x hx)
   have e : x.hour.toNat = h := by omega
   rw [e] at h4
   exact h4
 ·rintro ⟨h1, h2⟩
  refine ⟨h1, fun h hh => ?_, fun x hx => ?_⟩
  ·have := (h2 h hh).1
   refine inb_iff.2 ?_
   cases h <;> exact this
  ·obtain ⟨⟨q1, q2⟩, _⟩ := hd.st x hx
   have := (h2 x.hour.toNat (by omega)).2 x.span (mem_stripsAt.2 ⟨x, hx, by omega, rfl⟩)
   exact inb_iff.2 this
theorem fit_idx (hd : d.ok) (hsz : sizedB d tr = true) (hf : fitB d tr = true) : tr.acid.toNat ∈ idx d := by
 obtain ⟨⟨h1, h2⟩, h3⟩ := (sized_iff hd).1 hsz
 obtain ⟨h4, h5⟩ := (fit_tru hd).1 hf
 unfold idx
 rw [List.mem_filter, List.mem_range]
 refine ⟨h2, ?_⟩
 unfold PossI
 rw [h4, Bool.true_and]
 exact decide_eq_true (poss_of_tru (acidAt_ok hd h2) h5)
theorem idx_err (hok : okD d = true) {i : Nat} (h : i ∈ idx d) : err d true = 0 := by
 unfold err
 rw [hok]
 cases hx : idx d with
 | nil => rw [hx] at h; cases h
 | cons => rfl
theorem err_of_ok (hok : okD d = true) : err d true = 0 ∨ err d true = 7 := by
 unfold err
 rw [hok]
 cases (idx d).isEmpty
 ·exact .inl rfl
 ·exact .inr rfl
end
end Go.Proofs.YtohmhlkdgfcaeaaGreatDoor
namespace Go.Proofs.YtohmhlkdgfcaeaaGreatDoor
open Go Go.RowKit
theorem firstH_spec (p : Nat → Bool) : ∀ (r m : Nat), 0 ≤ firstH p r m → p (firstH p r m).toNat = true ∧ m ≤ (firstH p r m).toNat ∧ (firstH p r m).toNat < m + r := by
 intro r
 induction r with
 | zero => intro m h; simp [firstH] at h
 | succ r ih =>
  intro m h
  rcases Bool.eq_false_or_eq_true (p m) with hp | hp
  ·have e : firstH p (r + 1) m = (m : Int) := by rw [firstH, hp, cond_true]
   rw [e]
   exact ⟨by simpa using hp, by simp, by simp⟩
  ·have e : firstH p (r + 1) m = firstH p r (m + 1) := by rw [firstH, hp, cond_false]
   rw [e] at h ⊢
   obtain ⟨q1, q2, q3⟩ := ih (m + 1) h
   exact ⟨q1, by omega, by omega⟩
theorem ap_comm (off : Int) (x y : Span) : ap off x y = ap off y x := by unfold ap; rw [Bool.or_comm]
theorem prs_mem {f : Nat → Span} {off : Int} : ∀ (r pre : List Nat), prs f off pre r = true → ∀ i ∈ r, ∀ j, (j ∈ pre ∨ j ∈ r) → i ≠ j → ap off (f i) (f j) = true := by
 intro r
 induction r with
 | nil => intro pre _ i hi; cases hi
 | cons x r ih =>
  intro pre h i hi j hj hne
  rw [prs, Bool.and_eq_true, List.all_eq_true] at h
  obtain ⟨h1, h2⟩ := h
  rcases List.mem_cons.1 hi with rfl | hi
  ·rcases hj with hj | hj
   ·exact h1 j hj
   ·rcases List.mem_cons.1 hj with rfl | hj
    ·exact absurd rfl hne
    ·rw [ap_comm]
     exact ih (pre ++ [i]) h2 j hj i (.inl (by simp)) (Ne.symm hne)
  ·refine ih (pre ++ [x]) h2 i hi j ?_ hne
   rcases hj with hj | hj
   ·exact .inl (by simp [hj])
   ·rcases List.mem_cons.1 hj with rfl | hj
    ·exact .inl (by simp)
    ·exact .inr hj
theorem one_of {l : List Nat} (hn : l.Nodup) (h : ∀ x ∈ l, ∀ y ∈ l, x = y) : l.length ≤ 1 := by
 match l with
 | [] => simp
 | [x] => simp
 | x :: y :: r =>
  have := h x (by simp) y (by simp)
  subst this
  simp at hn
theorem stripsAt_append (l m : List Strip) (h : Nat) : stripsAt (l ++ m) h = stripsAt l h ++ stripsAt m h := by
 unfold stripsAt; rw [List.filter_append, List.map_append]
theorem Tru.less {ad : List Int} {st m : List Strip} {a : Acid} {H : Nat} {f : Nat → Int} (h : Tru ad (st ++ m) a H f) : Tru ad st a H f := fun i hi => ⟨(h i hi).1, fun s hs => (h i hi).2 s (by rw [stripsAt_append]; exact List.mem_append_left _ hs)⟩
def moreD (d : Drum) (x : Strip) : Drum := ⟨d.acids, d.known, d.hours, d.adds, d.strips ++ [x], d.batches⟩
section
variable {n : Nat} {d : Drum} {tr : Truth} {x : Strip}
theorem moreD_ok (hd : d.ok) (hl : d.strips.length < 6) (hx : x.ok d.hours) : (moreD d x).ok := by
 refine ⟨hd.acl, hd.kn, hd.hr, hd.adl, ?_, hd.btl, hd.ac, hd.ad, ?_, hd.bt⟩
 ·show (d.strips ++ [x]).length ≤ 6
  rw [List.length_append, List.length_singleton]
  omega
 ·intro s hs
  rcases List.mem_append.1 hs with h | h
  ·exact hd.st s h
  ·rcases List.mem_singleton.1 h with rfl
   exact hx
theorem more_truth (hd : d.ok) (hl : d.strips.length < 6) (hx : x.ok d.hours) {i : Nat} (hi : i ∈ idx (moreD d x)) : i ∈ idx d ∧ ∃ y, x.span.mem y ∧ (bdAt d i x.hour.toNat).mem y := by
 have hmo := moreD_ok hd hl hx
 obtain ⟨m1, m2⟩ := idx_mem hi
 unfold PossI at m2
 simp only [Bool.and_eq_true, decide_eq_true_eq] at m2
 obtain ⟨m3, m4⟩ := m2
 have hH := hrs_eq hd
 have m1' : i < d.acids.length := m1
 obtain ⟨⟨q1, q2⟩, _⟩ := hx
 have t1 := (bd_tru (acidAt_ok hd m1') hd.ad (st := d.strips ++ [x]) (H := hrs d) m4).1
 have t2 : Tru d.adds d.strips (acidAt d i) (hrs d) _ := Tru.less t1
 have hlt : x.hour.toNat < hrs d := by omega
 refine ⟨?_, (bd d.adds (d.strips ++ [x]) (acidAt d i) (hrs d) x.hour.toNat).low, ?_, ?_⟩
 ·unfold idx
  rw [List.mem_filter, List.mem_range]
  refine ⟨m1', ?_⟩
  unfold PossI
  rw [show hasB d.known i = true from m3, Bool.true_and]
  exact decide_eq_true (poss_of_tru (acidAt_ok hd m1') t2)
 ·refine (t1 x.hour.toNat hlt).2 x.span ?_
  rw [stripsAt_append]
  exact List.mem_append_right _ (mem_stripsAt.2 ⟨x, by simp, by omega, rfl⟩)
 ·exact bd_sound (acidAt_ok hd m1') hd.ad t2 (hrs d - 1 - x.hour.toNat) x.hour.toNat (by omega)
theorem idx_nodup : (idx d).Nodup := by
 unfold idx
 exact List.Pairwise.filter _ List.nodup_range
theorem law_18 (d : Drum) (off seen : Int) (tr : Truth) : s_18 1000 d off seen tr = some true := by
 unfold s_18
 rw [p_23, Option.bind_some]
 have out : s_18_j1 1000 d off seen tr true = some true := by unfold s_18_j1; rw [cond_true, p_24, Option.bind_some]
 have hn : 100 ≤ 1000 := by omega
 cases hsh : shortB d with
 | false => simp only [Bool.not_false, cond_true]; exact out
 | true =>
  have hs := shortB_iff.1 hsh
  simp only [Bool.not_true, cond_false, p_39 hn hs, p_44, Option.bind_some]
  cases decide (15 < ((List.length tr.strength : Nat) : Int)) with
  | true => simp only [cond_true]; exact out
  | false =>
   cases hok : okD d with
   | false => simp only [Bool.not_false, cond_true, cond_false]; exact out
   | true =>
    have hd := okD_iff.1 hok
    have hH := hrs_eq hd
    have hhr := hrs_le hd
    cases hsz : sizedB d tr with
    | false => simp only [Bool.not_false, Bool.not_true, cond_true, cond_false]; exact out
    | true =>
     simp only [Bool.not_true, cond_false]
     by_cases h0 : off < 0
     ·rw [decide_eq_true h0, cond_true]; exact out
     ·rw [decide_eq_false h0, cond_false]
      by_cases h1 : 50 < off
      ·rw [decide_eq_true h1, cond_true]; exact out
      ·rw [decide_eq_false h1, cond_false]
       by_cases h2 : seen < 0
       ·rw [decide_eq_true h2, cond_true]; exact out
       ·rw [decide_eq_false h2, cond_false]
        by_cases h3 : 2000 < seen
        ·rw [decide_eq_true h3, cond_true]; exact out
        ·rw [decide_eq_false h3, cond_false]
         by_cases h4 : 6 ≤ ((List.length d.strips : Nat) : Int)
         ·rw [decide_eq_true h4]; exact out
         ·rw [decide_eq_false h4]
          have hin : inb off 0 50 = true := inb_iff.2 (by omega)
          unfold s_18_j1
          rw [cond_false, p_26 hn hs, Option.bind_some, hin]
          rcases err_of_ok hok with he | he
          ·rw [he]
           simp only [decide_true, cond_true]
           by_cases ht : firstH (tellsAt d off) (hrs d) 0 < 0
           ·rw [decide_eq_true ht, cond_true]
            simp only [show decide ((5 : Int) = 0) = false from rfl, show decide ((5 : Int) = 7) = false from rfl, Bool.not_false, cond_true, cond_false, decide_true, p_24, Option.bind_some]
           ·rw [decide_eq_false ht, cond_false]
            obtain ⟨f1, f2, f3⟩ := firstH_spec (tellsAt d off) (hrs d) 0 (by omega)
            generalize hgt : firstH (tellsAt d off) (hrs d) 0 = t at ht f1 f2 f3
            simp only [decide_true, Bool.not_true, cond_false]
            rw [decide_eq_false ht, cond_false, decide_eq_false (show ¬ d.hours ≤ t by omega)]
            have hx : (Strip.mk t seen off).ok d.hours := by
             refine ⟨?_, ?_, ?_⟩ <;> simp only <;> omega
            have hmo := moreD_ok hd (by omega) hx
            have hms : Short (moreD d ⟨t, seen, off⟩) := ⟨hs.a, hs.b, (by show (d.strips ++ [_]).length ≤ 9; rw [List.length_append, List.length_singleton]; omega), hs.e⟩
            have hmk := okD_iff.2 hmo
            have hmz : sizedB (moreD d ⟨t, seen, off⟩) tr = true := hsz
            unfold s_18_j2
            rw [cond_false, app_of (by simp; omega), Option.bind_some, List.nil_append, app_of (by simp; omega), Option.bind_some]
            show ((s_68 1000 (moreD d ⟨t, seen, off⟩) tr).bind fun v112 => (s_69 1000 (moreD d ⟨t, seen, off⟩)).bind fun v113 => _) = _
            rw [p_68 hn hms, Option.bind_some, p_69 hn hms, Option.bind_some, hmk, hmz]
            simp only [Bool.and_self, cond_true, decide_true, Bool.not_true, cond_false]
            rcases err_of_ok hmk with hm | hm
            ·rw [hm]
             simp only [decide_true, Bool.not_true, cond_false, cond_true]
             unfold s_18_j3
             simp only [cond_false, decide_true, Bool.not_true]
             have hone : (idx (moreD d ⟨t, seen, off⟩)).length ≤ 1 := by
              refine one_of idx_nodup (fun i hi j hj => ?_)
              obtain ⟨i1, y, y1, y2⟩ := more_truth hd (by omega) hx hi
              obtain ⟨j1, z, z1, z2⟩ := more_truth hd (by omega) hx hj
              by_cases hij : i = j
              ·exact hij
              ·exfalso
               have := prs_mem _ _ f1 i i1 j (.inr j1) hij
               simp only [ap, Bool.or_eq_true, decide_eq_true_eq] at this
               simp only [Strip.span, Span.mem] at y1 y2 z1 z2
               omega
             have hne := (err_zero hm).2.2
             obtain ⟨i0, hi0⟩ : ∃ i, idx (moreD d ⟨t, seen, off⟩) = [i] := by
              cases h : idx (moreD d ⟨t, seen, off⟩) with
              | nil => exact absurd h hne
              | cons i r =>
               rw [h] at hone
               cases r with
               | nil => exact ⟨i, rfl⟩
               | cons => simp at hone
             rw [hi0]
             simp only [intL, List.map_cons, List.map_nil, List.length_cons, List.length_nil]
             rw [decide_eq_true (show ((((0 + 1 : Nat)) : Int) = 1) by rfl), cond_true]
             cases hf : fitB (moreD d ⟨t, seen, off⟩) tr with
             | false => simp only [Bool.not_false, cond_true, p_24, Option.bind_some]
             | true =>
              have hi := fit_idx hmo hmz hf
              rw [hi0, List.mem_singleton] at hi
              obtain ⟨⟨q1, q2⟩, q3⟩ := (sized_iff hd).1 hsz
              simp only [Bool.not_true, cond_false]
              rw [show ix [((i0 : Nat) : Int)] 0 = some ((i0 : Nat) : Int) from rfl, Option.bind_some, decide_eq_true (show ((i0 : Nat) : Int) = tr.acid by omega), cond_true, p_24, Option.bind_some]
            ·have hf : fitB (moreD d ⟨t, seen, off⟩) tr = false := by
              cases hf : fitB (moreD d ⟨t, seen, off⟩) tr with
              | false => rfl
              | true => have := idx_err hmk (fit_idx hmo hmz hf); omega
             rw [hm, hf]
             simp only [show decide ((7 : Int) = 0) = false from rfl, decide_true, Bool.not_true, Bool.not_false, cond_false, cond_true]
             unfold s_18_j3
             simp only [show decide ((7 : Int) = 0) = false from rfl, Bool.not_false, cond_false, cond_true, p_24, Option.bind_some]
          ·rw [he]
           simp only [show decide ((7 : Int) = 0) = false from rfl, decide_true, Bool.not_false, cond_true, cond_false, p_24, Option.bind_some]
end
end Go.Proofs.YtohmhlkdgfcaeaaGreatDoor
namespace Go.Proofs.YtohmhlkdgfcaeaaGreatDoor
open Go Go.RowKit
section
variable {α : Type} (lt : α → α → Bool)
def least : α → List α → α
 | x, [] => x
 | x, y :: r => least (bif lt y x then y else x) r
end
end Go.Proofs.YtohmhlkdgfcaeaaGreatDoor
namespace Go.Proofs.YtohmhlkdgfcaeaaGreatDoor
open Go Go.RowKit
def rn : Int → List Int → Int
 | c, [] => c
 | c, x :: r => rn (max c (x + 1)) r
def rgB : Int → List Int → Bool
 | _, [] => true
 | c, x :: r => decide (x ≤ c) && rgB (max c (x + 1)) r
theorem rgB_app : ∀ (l : List Int) (c x : Int), rgB c (l ++ [x]) = (rgB c l && decide (x ≤ rn c l)) := by
 intro l
 induction l with
 | nil =>
  intro c x
  show (decide (x ≤ c) && true) = (true && decide (x ≤ c))
  rw [Bool.and_true, Bool.true_and]
 | cons y r ih => intro c x; rw [List.cons_append, rgB, ih, rgB, rn, Bool.and_assoc]
end Go.Proofs.YtohmhlkdgfcaeaaGreatDoor
namespace Go.Proofs.YtohmhlkdgfcaeaaGreatDoor
open Go Go.RowKit
structure Way (l : List Int) : Prop where
 rg : rgB 0 l = true
 nn : ∀ x ∈ l, 0 ≤ x
theorem Way.nil : Way [] := ⟨rfl, by simp⟩
theorem Way.step {l : List Int} (h : Way l) {x : Nat} (hx : (x : Int) ≤ rn 0 l) : Way (l ++ [(x : Int)]) :=
 ⟨by rw [rgB_app, h.rg, decide_eq_true hx]; rfl, fun y hy => by
  rcases List.mem_append.1 hy with hy | hy
  ·exact h.nn y hy
  ·obtain rfl := List.mem_singleton.1 hy; omega⟩
end Go.Proofs.YtohmhlkdgfcaeaaGreatDoor
namespace Go.Proofs.YtohmhlkdgfcaeaaGreatDoor
open Go Go.RowKit Go.ChangeShapes Go.WideShapes
set_option maxRecDepth 100000
theorem drumTells_lifted (os : Os) (started : os.Started) (H : Type) (enc : TypeId × Value → H) :
  ReturnsInHanded {} Tryz.checked os 18 .any (fun w args => (Rows.drumTellsSpec.pre enc Tryz.prog Tryz.f18 [] false w args ∧ laidMetH Tryz.prog Rows.drumTellsRow.laid w) ∧ sizedMet enc Tryz.prog Tryz.f18 (OpenSpec.ofChange Rows.drumTellsSpec) false w args)
   (Rows.drumTellsSpec.post enc Tryz.prog Tryz.f18 false true false false) :=
 law_row (s := Rows.drumTellsSpec) (enc := enc) started #[.agg #[.slice none 0 0, .int .i64 0, .int .i64 0, .slice none 0 0, .slice none 0 0, .slice none 0 0], .int .i64 0, .int .i64 0, .agg #[.int .i64 0, .slice none 0 0]] (by kernel_rfl) Tryz.func18 (by kernel_rfl) (by kernel_rfl) (by kernel_rfl) rfl
   (by
    rw [Tryz.params18]
    have h : ∀ t ∈ ([27, 3, 3, 54] : List Nat), t ∈ [3, 9, 23, 27, 54, 92] := by decide
    exact fun t ht => parT t (h t ht)) rfl
   (by
    rw [Tryz.params18]
    intro ds h
    match ds, h with
    | [d0, d1, d2, d3], _ => rfl)
   (by
    rw [Tryz.params18]
    intro W base args ds p hval hA
    obtain ⟨args⟩ := args
    obtain ⟨v0, vs0, d0, ds0, p0, q0, e0, rfl, rfl, h0, r0⟩ := trodAll_cons hA
    have e0 : args = _ := e0; subst e0
    obtain ⟨v1, vs1, d1, ds1, p1, q1, e1, rfl, rfl, h1, r1⟩ := trodAll_cons r0
    subst e1
    obtain ⟨v2, vs2, d2, ds2, p2, q2, e2, rfl, rfl, h2, r2⟩ := trodAll_cons r1
    subst e2
    obtain ⟨v3, vs3, d3, ds3, p3, q3, e3, rfl, rfl, h3, r3⟩ := trodAll_cons r2
    subst e3
    obtain ⟨rfl, rfl, rfl⟩ := trodAll_nil r3
    obtain ⟨x0, z0⟩ := rd_drum (hval 0 27 v0 rfl rfl) h0
    obtain ⟨x1, z1⟩ := rd_int (hval 1 3 v1 rfl rfl)
    obtain ⟨x2, z2⟩ := rd_int (hval 2 3 v2 rfl rfl)
    obtain ⟨x3, z3⟩ := rd_truth (hval 3 54 v3 rfl rfl) h3
    refine ⟨rfl, [.agg (cDrum x0), .i x1, .i x2, .agg (cTruth x3)], ⟨rfl, ?_⟩, c_18 1000 x0 x1 x2 x3 (law_18 x0 x1 x2 x3)⟩
    intro j c u hc hu
    match j, hc, hu with
    | 0, hc, hu => cases hc; cases hu; exact z0
    | 1, hc, hu => cases hc; cases hu; exact z1
    | 2, hc, hu => cases hc; cases hu; exact z2
    | 3, hc, hu => cases hc; cases hu; exact z3)
theorem drumTells_facts : factsA Tryz.prog Tryz.f18 Rows.drumTellsSpec Rows.drumTellsRow = true := by kernel_rfl
theorem drumTells_road0 : (Rows.drumTellsRow.inPlace == Tryz.prog.inPlace 18) = true := by kernel_rfl
theorem drumTells_road1 : (Rows.drumTellsRow.unfollowed == Tryz.prog.unfollowed 18) = true := by kernel_rfl
theorem drumTells_road2 : (Rows.drumTellsRow.recurses == Tryz.prog.recurses 18) = true := by kernel_rfl
theorem drumTells_road3 : (Rows.drumTellsRow.named == Tryz.prog.varsNamed 18) = true := by kernel_rfl
theorem drumTells_row : Rows.DrumTellsSaid :=
 OpenClaim.holds_of_wide 18 Tryz.f18 rfl rfl rfl rfl rfl rfl rfl ⟨rfl, rfl, rfl, rfl, rfl⟩ rfl rfl rfl rfl rfl (by as_aux_lemma => kernel_rfl) Tryz.func18 (joined_of drumTells_facts drumTells_road0 drumTells_road1 drumTells_road2 drumTells_road3)
  (of_decide_eq_true (by as_aux_lemma => kernel_rfl)) (by unfold Func.isWrapper; rw [if_neg (of_decide_eq_false (by as_aux_lemma => kernel_rfl))]; exact ⟨rfl, rfl⟩)
  (fun os started H enc _ => drumTells_lifted os started H enc)
theorem drumTells_card : Rows.DrumTellsCardSaid :=
 Claim7.holds_tied_plain_at .later [] [.data, .data, .data, .data, .pinned] true (true, "263524fd91af563947b647e8709e73ef988cdef21cccd4074f632dc410392126") true drumTells_row (fun _ h => by cases h) (by as_aux_lemma => kernel_rfl) (fun _ h => by cases h) drumTells_row_tie rfl ⟨rfl, rfl⟩ mainK rfl
  (fun f fn hf hfn => by
   obtain rfl : f = 18 := Option.some.inj ((show Tryz.prog.funcNamed "nacre/nacrelaw03.DrumTells" = some 18 by as_aux_lemma => kernel_rfl).symm.trans hf) |>.symm
   obtain rfl : fn = Tryz.f18 := (Option.some.inj (Tryz.func18.symm.trans hfn)).symm
   exact ⟨looksK, fun j t ht => by
    rw [Tryz.params18] at ht
    have hm : t ∈ [27, 3, 3, 54] := by simpa using Array.mem_of_getElem? ht
    have h : ∀ t ∈ ([27, 3, 3, 54] : List Nat), t ∈ [3, 9, 23, 27, 54, 92] := by decide
    exact standK t (h t hm)⟩)
  (by as_aux_lemma => kernel_rfl)
#print axioms drumTells_card
end Go.Proofs.YtohmhlkdgfcaeaaGreatDoor
