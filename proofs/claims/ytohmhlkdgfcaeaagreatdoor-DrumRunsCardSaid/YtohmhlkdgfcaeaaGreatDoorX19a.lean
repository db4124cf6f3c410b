/- What law 19 asks besides, part 1. -/
import Derived.Test.YtohmhlkdgfcaeaaGreatDoorProg
import Derived.KernelRfl
import Derived.Laws.Cover3
import Derived.Test.YtohmhlkdgfcaeaaGreatDoorK8
set_option linter.unusedVariables false
set_option linter.unusedSimpArgs false
namespace Go.Proofs.YtohmhlkdgfcaeaaGreatDoor
open Go Go.RowKit
theorem ag_54 : AggIs Tryz.prog 54 true := AggIs.mk (by kernel_rfl)
theorem ca_115 : Callable Tryz.prog 115 := by unfold Callable; kernel_rfl
theorem ca_116 : Callable Tryz.prog 116 := by unfold Callable; kernel_rfl
theorem ca_117 : Callable Tryz.prog 117 := by unfold Callable; kernel_rfl
theorem ca_119 : Callable Tryz.prog 119 := by unfold Callable; kernel_rfl
theorem ca_138 : Callable Tryz.prog 138 := by unfold Callable; kernel_rfl
theorem ca_140 : Callable Tryz.prog 140 := by unfold Callable; kernel_rfl
theorem ca_142 : Callable Tryz.prog 142 := by unfold Callable; kernel_rfl
theorem ca_165 : Callable Tryz.prog 165 := by unfold Callable; kernel_rfl
theorem ca_23 : Callable Tryz.prog 23 := by unfold Callable; kernel_rfl
theorem ca_24 : Callable Tryz.prog 24 := by unfold Callable; kernel_rfl
theorem ca_27 : Callable Tryz.prog 27 := by unfold Callable; kernel_rfl
theorem ca_39 : Callable Tryz.prog 39 := by unfold Callable; kernel_rfl
theorem ca_44 : Callable Tryz.prog 44 := by unfold Callable; kernel_rfl
theorem ca_45 : Callable Tryz.prog 45 := by unfold Callable; kernel_rfl
theorem ca_47 : Callable Tryz.prog 47 := by unfold Callable; kernel_rfl
theorem ca_72 : Callable Tryz.prog 72 := by unfold Callable; kernel_rfl
theorem ca_73 : Callable Tryz.prog 73 := by unfold Callable; kernel_rfl
theorem ca_74 : Callable Tryz.prog 74 := by unfold Callable; kernel_rfl
theorem ca_75 : Callable Tryz.prog 75 := by unfold Callable; kernel_rfl
theorem ca_76 : Callable Tryz.prog 76 := by unfold Callable; kernel_rfl
theorem ca_77 : Callable Tryz.prog 77 := by unfold Callable; kernel_rfl
theorem ca_80 : Callable Tryz.prog 80 := by unfold Callable; kernel_rfl
theorem ca_89 : Callable Tryz.prog 89 := by unfold Callable; kernel_rfl
theorem ca_90 : Callable Tryz.prog 90 := by unfold Callable; kernel_rfl
theorem ca_94 : Callable Tryz.prog 94 := by unfold Callable; kernel_rfl
theorem el_60 : ElIs Tryz.prog 60 69 2 := ⟨by kernel_rfl, SzIs.mk (by kernel_rfl)⟩
theorem ex_60 : ElX Tryz.prog 60 69 2 := ElX.of (by kernel_rfl) (by kernel_rfl) rfl
theorem fl_54_0 : FldIs Tryz.prog 54 0 0 := FldIs.mk (n := 1) (by kernel_rfl) rfl
theorem fl_54_1 : FldIs Tryz.prog 54 1 1 := FldIs.mk (n := 1) (by kernel_rfl) rfl
theorem sz_54 : SzIs Tryz.prog 54 2 := SzIs.mk (by kernel_rfl)
theorem ul_60 : Tryz.prog.underlying 60 = some (.slice 69) := by kernel_rfl
end Go.Proofs.YtohmhlkdgfcaeaaGreatDoor
namespace Go.Proofs.YtohmhlkdgfcaeaaGreatDoor
open Go Go.RowKit
theorem ut_69 : Tryz.prog.underlying 69 = some (.struct #[⟨ "Rough", 3, 0, false, "", "", 0⟩, ⟨ "Thick", 3, 1, false, "", "", 8⟩]) := by kernel_rfl
theorem eqIn_69 {w : World} (d : Nat) (a0 a1 b0 b1 : Int) : (Op.equalIn (d + 2) 69 (.agg #[.int .i64 a0, .int .i64 a1]) (.agg #[.int .i64 b0, .int .i64 b1])).run Tryz.prog w = .ok (([a0 == b0, a1 == b1]).all id) w := by
 refine run_equalIn_struct (d + 1) 69 ut_69 (by kernel_rfl) ⟨rfl, ?_⟩
 intro i f b hf hb
 match i with
 | 0 =>
  simp at hf hb
  subst hf hb
  refine ⟨by decide, fun w => ?_⟩
  simp only [Sem.run_bind]
  rw [run_part1 ag3 rfl, Result.andThen_ok, run_part1 ag3 rfl, Result.andThen_ok]
  exact run_equalIn_int d 3 .i64 _ _ ui3
 | 1 =>
  simp at hf hb
  subst hf hb
  refine ⟨by decide, fun w => ?_⟩
  simp only [Sem.run_bind]
  rw [run_part1 ag3 rfl, Result.andThen_ok, run_part1 ag3 rfl, Result.andThen_ok]
  exact run_equalIn_int d 3 .i64 _ _ ui3
 | j + 2 => simp at hf
section
variable {w0 : World} {F0 : Foot} {nt : Nat} {E : Env} {o : Oper} {d : Nat} {x y : Operand} {T' : TypeId}
theorem g_neq_69 {a b : State} (ho : o.op = .binOp .neq 69 x y T') (hd : o.dst = some d) (hdn : Nat.ble (d + 1) nt = true) (hx : evT E x = some (.pv (.agg (cState a)))) (hy : evT E y = some (.pv (.agg (cState b)))) :
  GS ⟨Tryz.prog, w0, F0, nt⟩ o E ⟨opT x ++ opT y, [], []⟩ ⟨some d, .pv (.b (!decide (a = b))), none, none⟩ :=
 g_beq (X := ⟨Tryz.prog, w0, F0, nt⟩) (us := [.int .i64 a.rough, .int .i64 a.thick]) (vs := [.int .i64 b.rough, .int .i64 b.thick]) ho hd hdn hx hy rfl rfl (fun w => by
  have hg : Tryz.prog.eqGuardType Tryz.prog.depth 69 = false := by kernel_rfl
  have he := eqIn_69 (w := w) 9998 a.rough a.thick b.rough b.thick
  have e : ([a.rough == b.rough, a.thick == b.thick]).all id = decide (a = b) := by rw [Bool.eq_iff_iff]; simp [State.ext_iff, and_assoc]
  rw [e] at he
  simp [eqGuard, binOp, Op.equal, Op.maxDepth, hg, he])
end
end Go.Proofs.YtohmhlkdgfcaeaaGreatDoor
namespace Go.Proofs.YtohmhlkdgfcaeaaGreatDoor
open Go Go.RowKit
set_option maxRecDepth 4000
attribute [local irreducible] W Ops GS GSG
def s_115 (n : Nat) (v0 : Acid) (v1 : Int) (v2 : Span) : Option (Span) := some ((Span.mk (wr ((max 0 (wr (v2.low - v0.fall.high))) + v1)) (wr ((max 0 (wr (v2.high - v0.fall.low))) + v1))))
theorem c_115 (n : Nat) (v0 : Acid) (v1 : Int) (v2 : Span) {r : (Span)} (h : s_115 n v0 v1 v2 = some r) :
  Fun Tryz.prog 115 [.agg (cAcid v0), .val (.int .i64 v1), .agg (cSpan v2)] (.ret (.agg (cSpan r))) := by
 unfold s_115 at h
 refine enterW 26 Tryz.func115 q q q ?_
 intro w0 F0
 change W _ _ (Ev [(0, .pv (.agg (cAcid v0))), (1, .pv (.i v1)), (2, .pv (.agg (cSpan v2)))]) _
 refine W.seq<|W.region<|ob (g_box q q q q q) q q<|ob (g_box q q q q q) q q<|ob (g_alloc q q q zr_57) q q<|on0<|Sq.n<|W.seq<|W.region<|ov (g_fld q q q q fl_57_0) q<|ov (g_load1 q q q q q q ag_3) q<|ov (g_fld q q q q fl_137_1) q<|ov (g_fld q q q q fl_57_1) q<|ov (g_load1 q q q q q q ag_3) q<|ov (g_sub q q q q q) q<|ov (g_max q q q q q) q<|vm q q q q q<|ov (g_add q q q q q) q<|ov (g_fld q q q q fl_57_1) q<|ov (g_load1 q q q q q q ag_3) q<|ov (g_fld q q q q fl_137_1) q<|ov (g_fld q q q q fl_57_0) q<|ov (g_load1 q q q q q q ag_3) q<|ov (g_sub q q q q q) q<|ov (g_max q q q q q) q<|vm q q q q q<|ov (g_add q q q q q) q<|ov (g_build (cs := (cSpan (Span.mk (wr ((max 0 (wr (v2.low - v0.fall.high))) + v1)) (wr ((max 0 (wr (v2.high - v0.fall.low))) + v1))))) q q q zr_57 st_57 q q) q<|Ops.step q (s_storeB q q q q q q sz_57 q q)<|on0<|Sq.n<|W.ret ?_
 obtain rfl := Option.some.inj h
 exact Fin.r q (.cons (.agg _ _ _ _ (cSpan (Span.mk (wr ((max 0 (wr (v2.low - v0.fall.high))) + v1)) (wr ((max 0 (wr (v2.high - v0.fall.low))) + v1)))) q q ag_57 sz_57) .nil) q
def s_138 (n : Nat) (v0 : Span) (v1 : Span) : Option (Span) := some ((Span.mk (max v0.low v1.low) (min v0.high v1.high)))
theorem c_138 (n : Nat) (v0 : Span) (v1 : Span) {r : (Span)} (h : s_138 n v0 v1 = some r) :
  Fun Tryz.prog 138 [.agg (cSpan v0), .agg (cSpan v1)] (.ret (.agg (cSpan r))) := by
 unfold s_138 at h
 refine enterW 16 Tryz.func138 q q q ?_
 intro w0 F0
 change W _ _ (Ev [(0, .pv (.agg (cSpan v0))), (1, .pv (.agg (cSpan v1)))]) _
 refine W.seq<|W.region<|ob (g_box q q q q q) q q<|ob (g_box q q q q q) q q<|ob (g_alloc q q q zr_57) q q<|on0<|Sq.n<|W.seq<|W.region<|ov (g_fld q q q q fl_57_0) q<|ov (g_load1 q q q q q q ag_3) q<|ov (g_fld q q q q fl_57_0) q<|ov (g_load1 q q q q q q ag_3) q<|ov (g_max q q q q q) q<|ov (g_fld q q q q fl_57_1) q<|ov (g_load1 q q q q q q ag_3) q<|ov (g_fld q q q q fl_57_1) q<|ov (g_load1 q q q q q q ag_3) q<|ov (g_min q q q q q) q<|ov (g_build (cs := (cSpan (Span.mk (max v0.low v1.low) (min v0.high v1.high)))) q q q zr_57 st_57 q q) q<|Ops.step q (s_storeB q q q q q q sz_57 q q)<|on0<|Sq.n<|W.ret ?_
 obtain rfl := Option.some.inj h
 exact Fin.r q (.cons (.agg _ _ _ _ (cSpan (Span.mk (max v0.low v1.low) (min v0.high v1.high))) q q ag_57 sz_57) .nil) q
def s_142_j1 (v0 : Acid) (v1 : Int) (v2 : Span) (v101 : Int) : Option (Span) := some ((Span.mk v101 (wr ((wr (v2.high - v1)) + v0.fall.high))))
def s_142 (n : Nat) (v0 : Acid) (v1 : Int) (v2 : Span) : Option (Span) := bif (decide (v1 < v2.low)) then ( s_142_j1 v0 v1 v2 (wr ((wr (v2.low - v1)) + v0.fall.low)) ) else ( s_142_j1 v0 v1 v2 0 )
theorem c_142 (n : Nat) (v0 : Acid) (v1 : Int) (v2 : Span) {r : (Span)} (h : s_142 n v0 v1 v2 = some r) :
  Fun Tryz.prog 142 [.agg (cAcid v0), .val (.int .i64 v1), .agg (cSpan v2)] (.ret (.agg (cSpan r))) := by
 unfold s_142 at h
 refine enterW 30 Tryz.func142 q q q ?_
 intro w0 F0
 change W _ _ (Ev [(0, .pv (.agg (cAcid v0))), (1, .pv (.i v1)), (2, .pv (.agg (cSpan v2)))]) _
 refine W.seq<|W.region<|ob (g_box q q q q q) q q<|ob (g_box q q q q q) q q<|ob (g_alloc q q q zr_57) q q<|on0<|Sq.n<|W.seq<|W.region<|va q q q q q<|on0<|Sq.n<|W.seqJ (σ := Int) (fun s => (⟨[(1, .pv (.i v1)), (3, .box 3 0), (5, .box 5 0), (6, .box 6 0), (7, .pv (.i s))], [(3, 137, [.pv (.i v0.strength.low), .pv (.i v0.strength.high), .pv (.i v0.fall.low), .pv (.i v0.fall.high)]), (5, 57, [.pv (.i v2.low), .pv (.i v2.high)]), (6, 57, [.pv (.i 0), .pv (.i 0)])], []⟩ : Env)) (fun s => s_142_j1 v0 v1 v2 s = some r) ?_ ?_
 ·refine W.seq<|W.region<|ov (g_fld q q q q fl_57_0) q<|ov (g_load1 q q q q q q ag_3) q<|vm q q q q q<|ov (g_gtr q q q q q) q<|on0<|Sq.n<|W.cond (b := (decide (v1 < v2.low))) q (fun hc => ?_) (fun hc => ?_)
  ·have h := bif_t h hc
   refine W.region<|ov (g_fld q q q q fl_57_0) q<|ov (g_load1 q q q q q q ag_3) q<|vm q q q q q<|ov (g_sub q q q q q) q<|ov (g_fld q q q q fl_137_1) q<|ov (g_fld q q q q fl_57_0) q<|ov (g_load1 q q q q q q ag_3) q<|ov (g_add q q q q q) q<|va q q q q q<|on0<|Sq.n<|⟨wr ((wr (v2.low - v1)) + v0.fall.low), h, has_mk ⟨q, q, q, q, q, trivial⟩ ⟨q, q, q, trivial⟩ trivial q⟩
  ·have h := bif_f h hc
   refine W.skip<|Sq.n<|⟨0, h, has_mk ⟨q, q, q, q, q, trivial⟩ ⟨q, q, q, trivial⟩ trivial q⟩
 ·rintro v101 h
  change s_142_j1 v0 v1 v2 v101 = some r at h
  unfold s_142_j1 at h
  change W _ _ (⟨[(1, .pv (.i v1)), (3, .box 3 0), (5, .box 5 0), (6, .box 6 0), (7, .pv (.i v101))], [(3, 137, [.pv (.i v0.strength.low), .pv (.i v0.strength.high), .pv (.i v0.fall.low), .pv (.i v0.fall.high)]), (5, 57, [.pv (.i v2.low), .pv (.i v2.high)]), (6, 57, [.pv (.i 0), .pv (.i 0)])], []⟩ : Env) _
  refine W.seq<|W.region<|vm q q q q q<|ov (g_fld q q q q fl_57_1) q<|ov (g_load1 q q q q q q ag_3) q<|vm q q q q q<|ov (g_sub q q q q q) q<|ov (g_fld q q q q fl_137_1) q<|ov (g_fld q q q q fl_57_1) q<|ov (g_load1 q q q q q q ag_3) q<|ov (g_add q q q q q) q<|ov (g_build (cs := (cSpan (Span.mk v101 (wr ((wr (v2.high - v1)) + v0.fall.high))))) q q q zr_57 st_57 q q) q<|Ops.step q (s_storeB q q q q q q sz_57 q q)<|on0<|Sq.n<|W.ret ?_
  obtain rfl := Option.some.inj h
  exact Fin.r q (.cons (.agg _ _ _ _ (cSpan (Span.mk v101 (wr ((wr (v2.high - v1)) + v0.fall.high)))) q q ag_57 sz_57) .nil) q
def s_73_l1 (v0 : (List Span)) (v1 : Bool) : Nat → Int → (List Int) → Option ((List Int))
| 0, _, _ => none
| k1 + 1, v111, v112 => bif (decide (v111 < (v0.length : Int))) then ( (ix v0 v111).bind fun v117 => bif v1 then ( (ix v0 v111).bind fun v118 => (app v112 ([v118.high])).bind fun v119 => (s_73_l1 v0 v1 k1) (wr (v111 + 1)) v119 ) else ( (app v112 ([v117.low])).bind fun v120 => (s_73_l1 v0 v1 k1) (wr (v111 + 1)) v120 ) ) else ( some (v112) )
def s_73 (n : Nat) (v0 : (List Span)) (v1 : Bool) : Option ((List Int)) := s_73_l1 v0 v1 n 0 []
theorem c_73 (n : Nat) (v0 : (List Span)) (v1 : Bool) {r : ((List Int))} (h : s_73 n v0 v1 = some r) :
  Fun Tryz.prog 73 [.sl (v0.map cSpan), .b v1] (.ret (.sl (r.map eI))) := by
 unfold s_73 at h
 refine enterW 30 Tryz.func73 q q q ?_
 intro w0 F0
 change W _ _ (Ev [(0, .pv (.sl (List.map cSpan v0))), (1, .pv (.b v1))]) _
 refine W.seq<|W.region<|va q q q q q<|on0<|Sq.n<|W.seq<|W.region<|va q q q q q<|on0<|Sq.n<|W.seq<|W.seq<|W.region<|va q q q q q<|on0<|Sq.n<|W.block<|W.conv (Conv.nilrow 5 28 3 1 q q)<|W.loop (σ := Nat × Int × (List Int)) (fun s => (⟨[(0, .pv (.sl (List.map cSpan v0))), (1, .pv (.b v1)), (5, .row 28), (6, .pv (.i s.2.1))], [], [(28, ⟨3, 1, List.map eI s.2.2⟩)]⟩ : Env)) (fun s => s_73_l1 v0 v1 s.1 s.2.1 s.2.2 = some r) (fun s => s.1) (n, 0, []) h (has_mk ⟨q, q, q, q, trivial⟩ trivial ⟨q, trivial⟩ q) ?_
 rintro ⟨k1, v111, v112⟩ h
 change s_73_l1 v0 v1 k1 v111 v112 = some r at h
 rcases k1 with _ | k1
 ·rw [s_73_l1] at h
  cases h
 ·rw [s_73_l1] at h
  change W _ _ (⟨[(0, .pv (.sl (List.map cSpan v0))), (1, .pv (.b v1)), (5, .row 28), (6, .pv (.i v111))], [], [(28, ⟨3, 1, List.map eI v112⟩)]⟩ : Env) _
  refine W.seq<|W.seq<|W.region<|vm q q q q q<|vm q q q q q<|ov (g_lenM (l := v0) (enc := cSpan) q ul_30 q q q) q<|ov (g_lss q q q q q) q<|on0<|Sq.n<|W.cond (b := (decide (v111 < (v0.length : Int)))) q (fun hc => ?_) (fun hc => ?_)
  ·have h := bif_t h hc
   refine W.skip<|Sq.n<|W.seq<|W.block<|W.seq<|W.region<|vm q q q q q<|vm q q q q q ?_
   obtain ⟨v117, e117, h⟩ := bind_some h
   refine ov (g_idxI (l := v0) (enc := cSpan) e117 q q q q q el_30 q) q<|ov (g_fldR q q q q fl_57_0 q) q<|ov (g_loadR1 q q q q q ag_3) q<|va q q q q q<|on0<|Sq.n<|W.seq<|W.seq<|W.region<|vm q q q q q<|on0<|Sq.n<|W.cond (b := v1) q (fun hc => ?_) (fun hc => ?_)
   ·have h := bif_t h hc
    refine W.region<|vm q q q q q<|vm q q q q q ?_
    obtain ⟨v118, e118, h⟩ := bind_some h
    refine ov (g_idxI (l := v0) (enc := cSpan) e118 q q q q q el_30 q) q<|ov (g_fldR q q q q fl_57_1 q) q<|ov (g_loadR1 q q q q q ag_3) q<|va q q q q q<|on0<|Sq.n<|W.region<|vm q q q q q<|vm q q q q q<|Ops.r (g_buildSlice (cs := [.val (.int .i64 v118.high)]) (es := List.map eI [v118.high]) q q q el_23 ⟨_, zr_3⟩ q q q q q q) q q ?_
    obtain ⟨v119, e119, h⟩ := bind_some h
    exact Ops.step q (s_appendR (enc := eI) e119 q q q q q q q q ex_23 (fun _ => q))<|va q q q q q<|on0<|Bl.n<|Sq.n<|W.region<|vm q q q q q<|ov (g_add q q q q q) q<|va q q q q q<|on0<|Sq.n<|⟨(k1, wr (v111 + 1), v119), h, Nat.lt_succ_self _, has_mk ⟨q, q, q, q, trivial⟩ trivial ⟨q, trivial⟩ q⟩
   ·have h := bif_f h hc
    refine W.skip<|Sq.n<|W.region<|vm q q q q q<|vm q q q q q<|Ops.r (g_buildSlice (cs := [.val (.int .i64 v117.low)]) (es := List.map eI [v117.low]) q q q el_23 ⟨_, zr_3⟩ q q q q q q) q q ?_
    obtain ⟨v120, e120, h⟩ := bind_some h
    exact Ops.step q (s_appendR (enc := eI) e120 q q q q q q q q ex_23 (fun _ => q))<|va q q q q q<|on0<|Bl.n<|Sq.n<|W.region<|vm q q q q q<|ov (g_add q q q q q) q<|va q q q q q<|on0<|Sq.n<|⟨(k1, wr (v111 + 1), v120), h, Nat.lt_succ_self _, has_mk ⟨q, q, q, q, trivial⟩ trivial ⟨q, trivial⟩ q⟩
  ·have h := bif_f h hc
   refine W.exit<|Sq.e<|Sq.e<|Bl.e<|Sq.n<|W.seq<|W.region<|vm q q q q q<|va q q q q q<|on0<|Sq.n<|W.share (k := 28) q<|W.ret ?_
   obtain rfl := Option.some.inj h
   exact Fin.r q (.cons (.tmp _ _ q) .nil) q
def s_140_l1 (v0 : Batch) (v1 : (List Int)) (v2 : Int) : Nat → Int → Int → Int → Option (State)
| 0, _, _, _ => none
| k1 + 1, v105, v106, v107 => bif (decide (v107 < v2)) then ( (ix v1 v107).bind fun v112 => (quo .i64 (wr (v112 * v0.polish)) 100).bind fun v113 => (ix v1 v107).bind fun v114 => (quo .i64 (wr (v114 * v0.eat)) 100).bind fun v115 => (s_140_l1 v0 v1 v2 k1) (wr (v105 - v113)) (wr (v106 - v115)) (wr (v107 + 1)) ) else ( some ((State.mk (max 0 v105) (max 0 v106))) )
def s_140 (n : Nat) (v0 : Batch) (v1 : (List Int)) (v2 : Int) : Option (State) := s_140_l1 v0 v1 v2 n v0.rough v0.thick 0
theorem c_140 (n : Nat) (v0 : Batch) (v1 : (List Int)) (v2 : Int) {r : (State)} (h : s_140 n v0 v1 v2 = some r) :
  Fun Tryz.prog 140 [.agg (cBatch v0), .sl (v1.map eI), .val (.int .i64 v2)] (.ret (.agg (cState r))) := by
 unfold s_140 at h
 refine enterW 44 Tryz.func140 q q q ?_
 intro w0 F0
 change W _ _ (Ev [(0, .pv (.agg (cBatch v0))), (1, .pv (.sl (List.map eI v1))), (2, .pv (.i v2))]) _
 refine W.seq<|W.region<|ob (g_box q q q q q) q q<|ob (g_alloc q q q zr_69) q q<|on0<|Sq.n<|W.seq<|W.draw (m := 5) Checked.mixed (Pre.v (GSG.of q (g_fld q q q q fl_67_0)) ((Pre.v (GSG.of q (g_load1 q q q q q q ag_3)) ((Pre.v (GSG.of q (g_fld q q q q fl_67_2)) ((Pre.v (GSG.of q (g_load1 q q q q q q ag_3)) ((Pre.v (GSG.of q (g_assign q q q q)) (Pre.nil _)))))))))) (by kernel_rfl)<|va q q q q q<|on0<|Sq.n<|W.seq<|W.seq<|W.region<|va q q q q q<|on0<|Sq.n<|W.block<|W.loop (σ := Nat × Int × Int × Int) (fun s => (⟨[(1, .pv (.sl (List.map eI v1))), (2, .pv (.i v2)), (3, .box 3 0), (6, .box 6 0), (7, .pv (.i s.2.1)), (8, .pv (.i s.2.2.1)), (9, .pv (.i s.2.2.2))], [(3, 67, [.pv (.i v0.rough), .pv (.i v0.goal), .pv (.i v0.thick), .pv (.i v0.least), .pv (.i v0.polish), .pv (.i v0.eat)]), (6, 69, [.pv (.i 0), .pv (.i 0)])], []⟩ : Env)) (fun s => s_140_l1 v0 v1 v2 s.1 s.2.1 s.2.2.1 s.2.2.2 = some r) (fun s => s.1) (n, v0.rough, v0.thick, 0) h (has_mk ⟨q, q, q, q, q, q, q, trivial⟩ ⟨q, q, trivial⟩ trivial q) ?_
 rintro ⟨k1, v105, v106, v107⟩ h
 change s_140_l1 v0 v1 v2 k1 v105 v106 v107 = some r at h
 rcases k1 with _ | k1
 ·rw [s_140_l1] at h
  cases h
 ·rw [s_140_l1] at h
  change W _ _ (⟨[(1, .pv (.sl (List.map eI v1))), (2, .pv (.i v2)), (3, .box 3 0), (6, .box 6 0), (7, .pv (.i v105)), (8, .pv (.i v106)), (9, .pv (.i v107))], [(3, 67, [.pv (.i v0.rough), .pv (.i v0.goal), .pv (.i v0.thick), .pv (.i v0.least), .pv (.i v0.polish), .pv (.i v0.eat)]), (6, 69, [.pv (.i 0), .pv (.i 0)])], []⟩ : Env) _
  refine W.seq<|W.seq<|W.region<|vm q q q q q<|vm q q q q q<|ov (g_lss q q q q q) q<|on0<|Sq.n<|W.cond (b := (decide (v107 < v2))) q (fun hc => ?_) (fun hc => ?_)
  ·have h := bif_t h hc
   refine W.skip<|Sq.n<|W.seq<|W.block ?_
   obtain ⟨v112, e112, h⟩ := bind_some h
   obtain ⟨v113, e113, h⟩ := bind_some h
   obtain ⟨v114, e114, h⟩ := bind_some h
   obtain ⟨v115, e115, h⟩ := bind_some h
   exact W.draw (m := 21) Checked.mixed (Pre.v (GSG.of q (g_move q q q q)) ((Pre.v (GSG.of q (g_move q q q q)) ((Pre.v (GSG.of q (g_move q q q q)) ((Pre.v (GSG.of q (g_idxI (l := v1) (enc := eI) e112 q q q q q el_23 q)) ((Pre.v (GSG.of q (g_loadR1 q q q q q ag_3)) ((Pre.v (GSG.of q (g_fld q q q q fl_67_4)) ((Pre.v (GSG.of q (g_load1 q q q q q q ag_3)) ((Pre.v (GSG.of q (g_mul q q q q q)) ((Pre.v (GSG.of q (g_quoI e113 q q q q q)) ((Pre.v (GSG.of q (g_sub q q q q q)) ((Pre.v (GSG.of q (g_move q q q q)) ((Pre.v (GSG.of q (g_move q q q q)) ((Pre.v (GSG.of q (g_move q q q q)) ((Pre.v (GSG.of q (g_idxI (l := v1) (enc := eI) e114 q q q q q el_23 q)) ((Pre.v (GSG.of q (g_loadR1 q q q q q ag_3)) ((Pre.v (GSG.of q (g_fld q q q q fl_67_5)) ((Pre.v (GSG.of q (g_load1 q q q q q q ag_3)) ((Pre.v (GSG.of q (g_mul q q q q q)) ((Pre.v (GSG.of q (g_quoI e115 q q q q q)) ((Pre.v (GSG.of q (g_sub q q q q q)) ((Pre.v (GSG.of q (g_assign q q q q)) (Pre.nil _)))))))))))))))))))))))))))))))))))))))))) (by kernel_rfl)<|va q q q q q<|on0<|Bl.n<|Sq.n<|W.region<|vm q q q q q<|ov (g_add q q q q q) q<|va q q q q q<|on0<|Sq.n<|⟨(k1, wr (v105 - v113), wr (v106 - v115), wr (v107 + 1)), h, Nat.lt_succ_self _, has_mk ⟨q, q, q, q, q, q, q, trivial⟩ ⟨q, q, trivial⟩ trivial q⟩
  ·have h := bif_f h hc
   refine W.exit<|Sq.e<|Sq.e<|Bl.e<|Sq.n<|W.seq<|W.region<|vm q q q q q<|ov (g_max q q q q q) q<|vm q q q q q<|ov (g_max q q q q q) q<|ov (g_build (cs := (cState (State.mk (max 0 v105) (max 0 v106)))) q q q zr_69 st_69 q q) q<|Ops.step q (s_storeB q q q q q q sz_69 q q)<|on0<|Sq.n<|W.ret ?_
   obtain rfl := Option.some.inj h
   exact Fin.r q (.cons (.agg _ _ _ _ (cState (State.mk (max 0 v105) (max 0 v106))) q q ag_69 sz_69) .nil) q
def s_119 (n : Nat) (v0 : Int) (v1 : Truth) : Option (Int) := (ix v1.strength v0).bind fun v101 => some (v101)
theorem c_119 (n : Nat) (v0 : Int) (v1 : Truth) {r : (Int)} (h : s_119 n v0 v1 = some r) :
  Fun Tryz.prog 119 [.val (.int .i64 v0), .ref (cTruth v1)] (.ret (.val (.int .i64 r))) := by
 unfold s_119 at h
 refine enterW 9 Tryz.func119 q q q ?_
 intro w0 F0
 change W _ _ (Ev [(0, .pv (.i v0)), (1, .pv (.ref [.val (.int .i64 v1.acid), .sl (List.map eI v1.strength)]))]) _
 refine W.seq<|W.region<|va q q q q q<|on0<|Sq.n<|W.seq<|W.region<|ov (g_fldR q q q q fl_54_1 q) q<|ov (g_loadR1 q q q q q ag_23) q<|vm q q q q q ?_
 obtain ⟨v101, e101, h⟩ := bind_some h
 refine ov (g_idxI (l := v1.strength) (enc := eI) e101 q q q q q el_23 q) q<|ov (g_loadR1 q q q q q ag_3) q<|va q q q q q<|on0<|Sq.n<|W.ret ?_
 obtain rfl := Option.some.inj h
 exact Fin.r q (.cons (.tmp _ _ q) .nil) q
end Go.Proofs.YtohmhlkdgfcaeaaGreatDoor
namespace Go.Proofs.YtohmhlkdgfcaeaaGreatDoor
open Go Go.RowKit
set_option maxRecDepth 4000
attribute [local irreducible] W Ops GS GSG
def s_72 (n : Nat) (v0 : Int) (v1 : Int) : Option (Bool) := (s_106 n v1).bind fun v101 => (quo .i64 v0 v101).bind fun v102 => (rem .i64 v102 2).bind fun v103 => some ((decide (v103 = 1)))
theorem c_72 (n : Nat) (v0 : Int) (v1 : Int) {r : (Bool)} (h : s_72 n v0 v1 = some r) :
  Fun Tryz.prog 72 [.val (.int .i64 v0), .val (.int .i64 v1)] (.ret (.b r)) := by
 unfold s_72 at h
 refine enterW 11 Tryz.func72 q q q ?_
 intro w0 F0
 change W _ _ (Ev [(0, .pv (.i v0)), (1, .pv (.i v1))]) _
 refine W.seq<|W.region<|va q q q q q<|on0<|Sq.n<|W.seq<|W.region<|vm q q q q q<|vm q q q q q ?_
 obtain ⟨v101, e101, h⟩ := bind_some h
 refine ov (g_call q q q ca_106 q (c_106 _ _ e101)) q ?_
 obtain ⟨v102, e102, h⟩ := bind_some h
 refine ov (g_quoI e102 q q q q q) q ?_
 obtain ⟨v103, e103, h⟩ := bind_some h
 refine ov (g_remI e103 q q q q q) q<|ov (g_eql q q q q q) q<|va q q q q q<|on0<|Sq.n<|W.ret ?_
 obtain rfl := Option.some.inj h
 exact Fin.r q (.cons (.tmp _ _ q) .nil) q
end Go.Proofs.YtohmhlkdgfcaeaaGreatDoor
namespace Go.Proofs.YtohmhlkdgfcaeaaGreatDoor
open Go Go.RowKit
set_option maxRecDepth 4000
attribute [local irreducible] W Ops GS GSG
def s_74_l1 (v0 : (List State)) (v1 : (List State)) : Nat → Int → Option (Bool)
| 0, _ => none
| k1 + 1, v103 => bif (decide (v103 < (v0.length : Int))) then ( (ix v0 v103).bind fun v106 => (ix v1 v103).bind fun v107 => bif (!decide (v106 = v107)) then ( some (false) ) else ( (s_74_l1 v0 v1 k1) (wr (v103 + 1)) ) ) else ( some (true) )
def s_74 (n : Nat) (v0 : (List State)) (v1 : (List State)) : Option (Bool) := bif (!decide ((v0.length : Int) = (v1.length : Int))) then ( some (false) ) else ( s_74_l1 v0 v1 n 0 )
theorem c_74 (n : Nat) (v0 : (List State)) (v1 : (List State)) {r : (Bool)} (h : s_74 n v0 v1 = some r) :
  Fun Tryz.prog 74 [.sl (v0.map cState), .sl (v1.map cState)] (.ret (.b r)) := by
 unfold s_74 at h
 refine enterW 26 Tryz.func74 q q q ?_
 intro w0 F0
 change W _ _ (Ev [(0, .pv (.sl (List.map cState v0))), (1, .pv (.sl (List.map cState v1)))]) _
 refine W.seq<|W.region<|va q q q q q<|on0<|Sq.n<|W.seq<|W.seq<|W.region<|vm q q q q q<|ov (g_lenM (l := v0) (enc := cState) q ul_60 q q q) q<|vm q q q q q<|ov (g_lenM (l := v1) (enc := cState) q ul_60 q q q) q<|ov (g_neq q q q q q) q<|on0<|Sq.n<|W.cond (b := (!decide ((v0.length : Int) = (v1.length : Int)))) q (fun hc => ?_) (fun hc => ?_)
 ·have h := bif_t h hc
  refine W.seq<|W.region<|va q q q q q<|on0<|Sq.n<|W.ret<|Sq.r ?_
  obtain rfl := Option.some.inj h
  exact Fin.r q (.cons (.tmp _ _ q) .nil) q
 ·have h := bif_f h hc
  refine W.skip<|Sq.n<|W.seq<|W.seq<|W.region<|va q q q q q<|on0<|Sq.n<|W.block<|W.loop (σ := Nat × Int) (fun s => (Ev [(0, .pv (.sl (List.map cState v0))), (1, .pv (.sl (List.map cState v1))), (5, .pv (.i s.2))])) (fun s => s_74_l1 v0 v1 s.1 s.2 = some r) (fun s => s.1) (n, 0) h (has_mk ⟨q, q, q, trivial⟩ trivial trivial q) ?_
  rintro ⟨k1, v103⟩ h
  change s_74_l1 v0 v1 k1 v103 = some r at h
  rcases k1 with _ | k1
  ·rw [s_74_l1] at h
   cases h
  ·rw [s_74_l1] at h
   change W _ _ (Ev [(0, .pv (.sl (List.map cState v0))), (1, .pv (.sl (List.map cState v1))), (5, .pv (.i v103))]) _
   refine W.seq<|W.seq<|W.region<|vm q q q q q<|vm q q q q q<|ov (g_lenM (l := v0) (enc := cState) q ul_60 q q q) q<|ov (g_lss q q q q q) q<|on0<|Sq.n<|W.cond (b := (decide (v103 < (v0.length : Int)))) q (fun hc => ?_) (fun hc => ?_)
   ·have h := bif_t h hc
    refine W.skip<|Sq.n<|W.seq<|W.block<|W.seq ?_
    obtain ⟨v106, e106, h⟩ := bind_some h
    obtain ⟨v107, e107, h⟩ := bind_some h
    refine W.draw (m := 8) Checked.mixed (Pre.v (GSG.of q (g_move q q q q)) ((Pre.v (GSG.of q (g_move q q q q)) ((Pre.v (GSG.of q (g_idxI (l := v0) (enc := cState) e106 q q q q q el_60 q)) ((Pre.v (GSG.of q (g_loadRA q q q q ag_69 sz_69 q q)) ((Pre.v (GSG.of q (g_move q q q q)) ((Pre.v (GSG.of q (g_move q q q q)) ((Pre.v (GSG.of q (g_idxI (l := v1) (enc := cState) e107 q q q q q el_60 q)) ((Pre.v (GSG.of q (g_loadRA q q q q ag_69 sz_69 q q)) (Pre.nil _)))))))))))))))) (by kernel_rfl)<|ov (g_neq_69 (a := v106) (b := v107) q q q q q) q<|on0<|Sq.n<|W.cond (b := (!decide (v106 = v107))) q (fun hc => ?_) (fun hc => ?_)
    ·have h := bif_t h hc
     refine W.seq<|W.region<|va q q q q q<|on0<|Sq.n<|W.ret<|Bl.r<|Sq.r<|Sq.r<|Bl.r<|Sq.r ?_
     obtain rfl := Option.some.inj h
     exact Fin.r q (.cons (.tmp _ _ q) .nil) q
    ·have h := bif_f h hc
     exact W.skip<|Bl.n<|Sq.n<|W.region<|vm q q q q q<|ov (g_add q q q q q) q<|va q q q q q<|on0<|Sq.n<|⟨(k1, wr (v103 + 1)), h, Nat.lt_succ_self _, has_mk ⟨q, q, q, trivial⟩ trivial trivial q⟩
   ·have h := bif_f h hc
    refine W.exit<|Sq.e<|Sq.e<|Bl.e<|Sq.n<|W.seq<|W.region<|va q q q q q<|on0<|Sq.n<|W.ret ?_
    obtain rfl := Option.some.inj h
    exact Fin.r q (.cons (.tmp _ _ q) .nil) q
def s_76_l1 (v0 : (List Bounds)) (v1 : (List Bounds)) : Nat → Int → Option (Bool)
| 0, _ => none
| k1 + 1, v103 => bif (decide (v103 < (v0.length : Int))) then ( (ix v0 v103).bind fun v106 => (ix v1 v103).bind fun v107 => bif (!decide (v106 = v107)) then ( some (false) ) else ( (s_76_l1 v0 v1 k1) (wr (v103 + 1)) ) ) else ( some (true) )
def s_76 (n : Nat) (v0 : (List Bounds)) (v1 : (List Bounds)) : Option (Bool) := bif (!decide ((v0.length : Int) = (v1.length : Int))) then ( some (false) ) else ( s_76_l1 v0 v1 n 0 )
theorem c_76 (n : Nat) (v0 : (List Bounds)) (v1 : (List Bounds)) {r : (Bool)} (h : s_76 n v0 v1 = some r) :
  Fun Tryz.prog 76 [.sl (v0.map cBounds), .sl (v1.map cBounds)] (.ret (.b r)) := by
 unfold s_76 at h
 refine enterW 26 Tryz.func76 q q q ?_
 intro w0 F0
 change W _ _ (Ev [(0, .pv (.sl (List.map cBounds v0))), (1, .pv (.sl (List.map cBounds v1)))]) _
 refine W.seq<|W.region<|va q q q q q<|on0<|Sq.n<|W.seq<|W.seq<|W.region<|vm q q q q q<|ov (g_lenM (l := v0) (enc := cBounds) q ul_63 q q q) q<|vm q q q q q<|ov (g_lenM (l := v1) (enc := cBounds) q ul_63 q q q) q<|ov (g_neq q q q q q) q<|on0<|Sq.n<|W.cond (b := (!decide ((v0.length : Int) = (v1.length : Int)))) q (fun hc => ?_) (fun hc => ?_)
 ·have h := bif_t h hc
  refine W.seq<|W.region<|va q q q q q<|on0<|Sq.n<|W.ret<|Sq.r ?_
  obtain rfl := Option.some.inj h
  exact Fin.r q (.cons (.tmp _ _ q) .nil) q
 ·have h := bif_f h hc
  refine W.skip<|Sq.n<|W.seq<|W.seq<|W.region<|va q q q q q<|on0<|Sq.n<|W.block<|W.loop (σ := Nat × Int) (fun s => (Ev [(0, .pv (.sl (List.map cBounds v0))), (1, .pv (.sl (List.map cBounds v1))), (5, .pv (.i s.2))])) (fun s => s_76_l1 v0 v1 s.1 s.2 = some r) (fun s => s.1) (n, 0) h (has_mk ⟨q, q, q, trivial⟩ trivial trivial q) ?_
  rintro ⟨k1, v103⟩ h
  change s_76_l1 v0 v1 k1 v103 = some r at h
  rcases k1 with _ | k1
  ·rw [s_76_l1] at h
   cases h
  ·rw [s_76_l1] at h
   change W _ _ (Ev [(0, .pv (.sl (List.map cBounds v0))), (1, .pv (.sl (List.map cBounds v1))), (5, .pv (.i v103))]) _
   refine W.seq<|W.seq<|W.region<|vm q q q q q<|vm q q q q q<|ov (g_lenM (l := v0) (enc := cBounds) q ul_63 q q q) q<|ov (g_lss q q q q q) q<|on0<|Sq.n<|W.cond (b := (decide (v103 < (v0.length : Int)))) q (fun hc => ?_) (fun hc => ?_)
   ·have h := bif_t h hc
    refine W.skip<|Sq.n<|W.seq<|W.block<|W.seq ?_
    obtain ⟨v106, e106, h⟩ := bind_some h
    obtain ⟨v107, e107, h⟩ := bind_some h
    refine W.draw (m := 8) Checked.mixed (Pre.v (GSG.of q (g_move q q q q)) ((Pre.v (GSG.of q (g_move q q q q)) ((Pre.v (GSG.of q (g_idxI (l := v0) (enc := cBounds) e106 q q q q q el_63 q)) ((Pre.v (GSG.of q (g_loadRA q q q q ag_71 sz_71 q q)) ((Pre.v (GSG.of q (g_move q q q q)) ((Pre.v (GSG.of q (g_move q q q q)) ((Pre.v (GSG.of q (g_idxI (l := v1) (enc := cBounds) e107 q q q q q el_63 q)) ((Pre.v (GSG.of q (g_loadRA q q q q ag_71 sz_71 q q)) (Pre.nil _)))))))))))))))) (by kernel_rfl)<|ov (g_neq_71 (a := v106) (b := v107) q q q q q) q<|on0<|Sq.n<|W.cond (b := (!decide (v106 = v107))) q (fun hc => ?_) (fun hc => ?_)
    ·have h := bif_t h hc
     refine W.seq<|W.region<|va q q q q q<|on0<|Sq.n<|W.ret<|Bl.r<|Sq.r<|Sq.r<|Bl.r<|Sq.r ?_
     obtain rfl := Option.some.inj h
     exact Fin.r q (.cons (.tmp _ _ q) .nil) q
    ·have h := bif_f h hc
     exact W.skip<|Bl.n<|Sq.n<|W.region<|vm q q q q q<|ov (g_add q q q q q) q<|va q q q q q<|on0<|Sq.n<|⟨(k1, wr (v103 + 1)), h, Nat.lt_succ_self _, has_mk ⟨q, q, q, trivial⟩ trivial trivial q⟩
   ·have h := bif_f h hc
    refine W.exit<|Sq.e<|Sq.e<|Bl.e<|Sq.n<|W.seq<|W.region<|va q q q q q<|on0<|Sq.n<|W.ret ?_
    obtain rfl := Option.some.inj h
    exact Fin.r q (.cons (.tmp _ _ q) .nil) q
end Go.Proofs.YtohmhlkdgfcaeaaGreatDoor
namespace Go.Proofs.YtohmhlkdgfcaeaaGreatDoor
open Go Go.RowKit
set_option maxRecDepth 4000
attribute [local irreducible] W Ops GS GSG
def s_44 (n : Nat) (v0 : Drum) (v1 : Truth) : Option (Bool) := (s_103 n v1.acid 0 (wr ((v0.acids.length : Int) - 1))).bind fun v101 => bif v101 then ( some ((decide ((v1.strength.length : Int) = v0.hours))) ) else ( some (false) )
theorem c_44 (n : Nat) (v0 : Drum) (v1 : Truth) {r : (Bool)} (h : s_44 n v0 v1 = some r) :
  Fun Tryz.prog 44 [.agg (cDrum v0), .agg (cTruth v1)] (.ret (.b r)) := by
 unfold s_44 at h
 refine enterW 20 Tryz.func44 q q q ?_
 intro w0 F0
 change W _ _ (Ev [(0, .pv (.agg (cDrum v0))), (1, .pv (.agg (cTruth v1)))]) _
 refine W.seq<|W.region<|ob (g_box q q q q q) q q<|ob (g_box q q q q q) q q<|va q q q q q<|on0<|Sq.n<|W.seq<|W.region<|ov (g_fld q q q q fl_54_0) q<|ov (g_load1 q q q q q q ag_3) q<|ov (g_fld q q q q fl_27_0) q<|ov (g_load1 q q q q q q ag_22) q<|ov (g_lenM (l := v0.acids) (enc := cAcid) q ul_22 q q q) q<|ov (g_sub q q q q q) q ?_
 obtain ⟨v101, e101, h⟩ := bind_some h
 refine ov (g_call q q q ca_103 q (c_103 _ _ _ _ e101)) q<|vm q q q q q<|Ops.split 12 q (fun hb => ?_) (fun hb => ?_)
 ·have h := bif_t h hb
  refine on q q q<|ov (g_fld q q q q fl_54_1) q<|on q q q<|ov (g_load1 q q q q q q ag_23) q<|on q q q<|ov (g_lenM (l := v1.strength) (enc := eI) q ul_23 q q q) q<|on q q q<|ov (g_fld q q q q fl_27_2) q<|on q q q<|ov (g_load1 q q q q q q ag_3) q<|on q q q<|ov (g_eql q q q q q) q<|vt q q q q q q<|va q q q q q<|on0<|Sq.n<|W.ret ?_
  obtain rfl := Option.some.inj h
  exact Fin.r q (.cons (.tmp _ _ q) .nil) q
 ·have h := bif_f h hb
  refine o2 q q q q q q<|o2 q q q q q q<|o2 q q q q q q<|o2 q q q q q q<|o2 q q q q q q<|o2 q q q q q q<|vf q q q q q q<|va q q q q q<|on0<|Sq.n<|W.ret ?_
  obtain rfl := Option.some.inj h
  exact Fin.r q (.cons (.tmp _ _ q) .nil) q
def s_116 (n : Nat) (v0 : Drum) (v1 : Truth) : Option (Bool) := (s_87 n v1.acid 0 (wr ((v0.acids.length : Int) - 1))).bind fun v101 => bif v101 then ( some ((decide ((v1.strength.length : Int) = v0.hours))) ) else ( some (false) )
theorem c_116 (n : Nat) (v0 : Drum) (v1 : Truth) {r : (Bool)} (h : s_116 n v0 v1 = some r) :
  Fun Tryz.prog 116 [.agg (cDrum v0), .agg (cTruth v1)] (.ret (.b r)) := by
 unfold s_116 at h
 refine enterW 20 Tryz.func116 q q q ?_
 intro w0 F0
 change W _ _ (Ev [(0, .pv (.agg (cDrum v0))), (1, .pv (.agg (cTruth v1)))]) _
 refine W.seq<|W.region<|ob (g_box q q q q q) q q<|ob (g_box q q q q q) q q<|va q q q q q<|on0<|Sq.n<|W.seq<|W.region<|ov (g_fld q q q q fl_54_0) q<|ov (g_load1 q q q q q q ag_3) q<|ov (g_fld q q q q fl_27_0) q<|ov (g_load1 q q q q q q ag_22) q<|ov (g_lenM (l := v0.acids) (enc := cAcid) q ul_22 q q q) q<|ov (g_sub q q q q q) q ?_
 obtain ⟨v101, e101, h⟩ := bind_some h
 refine ov (g_call q q q ca_87 q (c_87 _ _ _ _ e101)) q<|vm q q q q q<|Ops.split 12 q (fun hb => ?_) (fun hb => ?_)
 ·have h := bif_t h hb
  refine on q q q<|ov (g_fld q q q q fl_54_1) q<|on q q q<|ov (g_load1 q q q q q q ag_23) q<|on q q q<|ov (g_lenM (l := v1.strength) (enc := eI) q ul_23 q q q) q<|on q q q<|ov (g_fld q q q q fl_27_2) q<|on q q q<|ov (g_load1 q q q q q q ag_3) q<|on q q q<|ov (g_eql q q q q q) q<|vt q q q q q q<|va q q q q q<|on0<|Sq.n<|W.ret ?_
  obtain rfl := Option.some.inj h
  exact Fin.r q (.cons (.tmp _ _ q) .nil) q
 ·have h := bif_f h hb
  refine o2 q q q q q q<|o2 q q q q q q<|o2 q q q q q q<|o2 q q q q q q<|o2 q q q q q q<|o2 q q q q q q<|vf q q q q q q<|va q q q q q<|on0<|Sq.n<|W.ret ?_
  obtain rfl := Option.some.inj h
  exact Fin.r q (.cons (.tmp _ _ q) .nil) q
def s_165 (n : Nat) (v0 : Strip) (v1 : Truth) : Option (Bool) := (ix v1.strength v0.hour).bind fun v101 => (s_87 n v101 (wr (v0.seen - v0.off)) (wr (v0.seen + v0.off))).bind fun v102 => some ((!v102))
theorem c_165 (n : Nat) (v0 : Strip) (v1 : Truth) {r : (Bool)} (h : s_165 n v0 v1 = some r) :
  Fun Tryz.prog 165 [.agg (cStrip v0), .ref (cTruth v1)] (.ret (.b r)) := by
 unfold s_165 at h
 refine enterW 22 Tryz.func165 q q q ?_
 intro w0 F0
 change W _ _ (Ev [(0, .pv (.agg (cStrip v0))), (1, .pv (.ref [.val (.int .i64 v1.acid), .sl (List.map eI v1.strength)]))]) _
 refine W.seq<|W.region<|ob (g_box q q q q q) q q<|va q q q q q<|on0<|Sq.n<|W.seq ?_
 obtain ⟨v101, e101, h⟩ := bind_some h
 refine W.draw (m := 16) Checked.mixed (Pre.v (GSG.of q (g_fldR q q q q fl_54_1 q)) ((Pre.v (GSG.of q (g_loadR1 q q q q q ag_23)) ((Pre.v (GSG.of q (g_fld q q q q fl_92_0)) ((Pre.v (GSG.of q (g_load1 q q q q q q ag_3)) ((Pre.v (GSG.of q (g_idxI (l := v1.strength) (enc := eI) e101 q q q q q el_23 q)) ((Pre.v (GSG.of q (g_loadR1 q q q q q ag_3)) ((Pre.v (GSG.of q (g_fld q q q q fl_92_1)) ((Pre.v (GSG.of q (g_load1 q q q q q q ag_3)) ((Pre.v (GSG.of q (g_fld q q q q fl_92_2)) ((Pre.v (GSG.of q (g_load1 q q q q q q ag_3)) ((Pre.v (GSG.of q (g_sub q q q q q)) ((Pre.v (GSG.of q (g_fld q q q q fl_92_1)) ((Pre.v (GSG.of q (g_load1 q q q q q q ag_3)) ((Pre.v (GSG.of q (g_fld q q q q fl_92_2)) ((Pre.v (GSG.of q (g_load1 q q q q q q ag_3)) ((Pre.v (GSG.of q (g_add q q q q q)) (Pre.nil _)))))))))))))))))))))))))))))))) (by kernel_rfl) ?_
 obtain ⟨v102, e102, h⟩ := bind_some h
 refine ov (g_call q q q ca_87 q (c_87 _ _ _ _ e102)) q<|ov (g_not q q q q) q<|va q q q q q<|on0<|Sq.n<|W.ret ?_
 obtain rfl := Option.some.inj h
 exact Fin.r q (.cons (.tmp _ _ q) .nil) q
def s_75_l1 (n : Nat) (v0 : Drum) (v1 : Truth) (v2 : Int) : Nat → Int → (List State) → Option ((List State))
| 0, _, _ => none
| k1 + 1, v109, v110 => bif (decide (v109 < (v0.batches.length : Int))) then ( (ix v0.batches v109).bind fun v114 => (s_140 n v114 v1.strength v2).bind fun v115 => (app v110 ([v115])).bind fun v116 => (s_75_l1 n v0 v1 v2 k1) (wr (v109 + 1)) v116 ) else ( some (v110) )
def s_75 (n : Nat) (v0 : Drum) (v1 : Truth) (v2 : Int) : Option ((List State)) := s_75_l1 n v0 v1 v2 n 0 []
theorem c_75 (n : Nat) (v0 : Drum) (v1 : Truth) (v2 : Int) {r : ((List State))} (h : s_75 n v0 v1 v2 = some r) :
  Fun Tryz.prog 75 [.agg (cDrum v0), .agg (cTruth v1), .val (.int .i64 v2)] (.ret (.sl (r.map cState))) := by
 unfold s_75 at h
 refine enterW 29 Tryz.func75 q q q ?_
 intro w0 F0
 change W _ _ (Ev [(0, .pv (.agg (cDrum v0))), (1, .pv (.agg (cTruth v1))), (2, .pv (.i v2))]) _
 refine W.seq<|W.region<|ob (g_box q q q q q) q q<|ob (g_box q q q q q) q q<|va q q q q q<|on0<|Sq.n<|W.seq<|W.region<|va q q q q q<|on0<|Sq.n<|W.seq<|W.seq<|W.region<|va q q q q q<|on0<|Sq.n<|W.block<|W.conv (Conv.nilrow 7 27 69 2 q q)<|W.loop (σ := Nat × Int × (List State)) (fun s => (⟨[(2, .pv (.i v2)), (3, .box 3 0), (4, .box 4 0), (7, .row 27), (8, .pv (.i s.2.1))], [(3, 27, [.pv (.sl (List.map cAcid v0.acids)), .pv (.i v0.known), .pv (.i v0.hours), .pv (.sl (List.map eI v0.adds)), .pv (.sl (List.map cStrip v0.strips)), .pv (.sl (List.map cBatch v0.batches))]), (4, 54, [.pv (.i v1.acid), .pv (.sl (List.map eI v1.strength))])], [(27, ⟨69, 2, List.map cState s.2.2⟩)]⟩ : Env)) (fun s => s_75_l1 n v0 v1 v2 s.1 s.2.1 s.2.2 = some r) (fun s => s.1) (n, 0, []) h (has_mk ⟨q, q, q, q, q, trivial⟩ ⟨q, q, trivial⟩ ⟨q, trivial⟩ q) ?_
 rintro ⟨k1, v109, v110⟩ h
 change s_75_l1 n v0 v1 v2 k1 v109 v110 = some r at h
 rcases k1 with _ | k1
 ·rw [s_75_l1] at h
  cases h
 ·rw [s_75_l1] at h
  change W _ _ (⟨[(2, .pv (.i v2)), (3, .box 3 0), (4, .box 4 0), (7, .row 27), (8, .pv (.i v109))], [(3, 27, [.pv (.sl (List.map cAcid v0.acids)), .pv (.i v0.known), .pv (.i v0.hours), .pv (.sl (List.map eI v0.adds)), .pv (.sl (List.map cStrip v0.strips)), .pv (.sl (List.map cBatch v0.batches))]), (4, 54, [.pv (.i v1.acid), .pv (.sl (List.map eI v1.strength))])], [(27, ⟨69, 2, List.map cState v110⟩)]⟩ : Env) _
  refine W.seq<|W.seq<|W.region<|vm q q q q q<|ov (g_fld q q q q fl_27_5) q<|ov (g_load1 q q q q q q ag_25) q<|ov (g_lenM (l := v0.batches) (enc := cBatch) q ul_25 q q q) q<|ov (g_lss q q q q q) q<|on0<|Sq.n<|W.cond (b := (decide (v109 < (v0.batches.length : Int)))) q (fun hc => ?_) (fun hc => ?_)
  ·have h := bif_t h hc
   refine W.skip<|Sq.n<|W.seq<|W.block ?_
   obtain ⟨v114, e114, h⟩ := bind_some h
   obtain ⟨v115, e115, h⟩ := bind_some h
   refine W.draw (m := 11) Checked.mixed (Pre.v (GSG.of q (g_move q q q q)) ((Pre.v (GSG.of q (g_fld q q q q fl_27_5)) ((Pre.v (GSG.of q (g_load1 q q q q q q ag_25)) ((Pre.v (GSG.of q (g_move q q q q)) ((Pre.v (GSG.of q (g_idxI (l := v0.batches) (enc := cBatch) e114 q q q q q el_25 q)) ((Pre.v (GSG.of q (g_loadRA q q q q ag_67 sz_67 q q)) ((Pre.v (GSG.of q (g_fld q q q q fl_54_1)) ((Pre.v (GSG.of q (g_load1 q q q q q q ag_23)) ((Pre.v (GSG.of q (g_move q q q q)) ((Pre.v (GSG.of q (g_call q q q ca_140 q (c_140 _ _ _ _ e115))) ((Pre.r (GSG.of q (g_buildSlice (cs := [.val (.int .i64 v115.rough), .val (.int .i64 v115.thick)]) (es := List.map cState [v115]) q q q el_60 ⟨_, zr_69⟩ q q q q q q)) q (Pre.nil _)))))))))))))))))))))) (by kernel_rfl) ?_
   obtain ⟨v116, e116, h⟩ := bind_some h
   exact Ops.step q (s_appendR (enc := cState) e116 q q q q q q q q ex_60 (fun _ => q))<|va q q q q q<|on0<|Bl.n<|Sq.n<|W.region<|vm q q q q q<|ov (g_add q q q q q) q<|va q q q q q<|on0<|Sq.n<|⟨(k1, wr (v109 + 1), v116), h, Nat.lt_succ_self _, has_mk ⟨q, q, q, q, q, trivial⟩ ⟨q, q, trivial⟩ ⟨q, trivial⟩ q⟩
  ·have h := bif_f h hc
   refine W.exit<|Sq.e<|Sq.e<|Bl.e<|Sq.n<|W.seq<|W.region<|vm q q q q q<|va q q q q q<|on0<|Sq.n<|W.share (k := 27) q<|W.ret ?_
   obtain rfl := Option.some.inj h
   exact Fin.r q (.cons (.tmp _ _ q) .nil) q
end Go.Proofs.YtohmhlkdgfcaeaaGreatDoor
namespace Go.Proofs.YtohmhlkdgfcaeaaGreatDoor
open Go Go.RowKit
set_option maxRecDepth 4000
attribute [local irreducible] W Ops GS GSG
def s_90_l9 (n : Nat) (K1 : Int → (List Span) → Option ((List Span) × Bool)) (v0 : Drum) (v135 : Int) (v136 : (List Span)) : Nat → Int → Span → Option ((List Span) × Bool)
| 0, _, _ => none
| k9 + 1, v160, v161 => bif (decide (v160 < (v0.strips.length : Int))) then ( (ix v0.strips v160).bind fun v164 => bif (decide (v164.hour = v135)) then ( (s_138 n v161 (Span.mk (wr (v164.seen - v164.off)) (wr (v164.seen + v164.off)))).bind fun v165 => (s_90_l9 n K1 v0 v135 v136 k9) (wr (v160 + 1)) v165 ) else ( (s_90_l9 n K1 v0 v135 v136 k9) (wr (v160 + 1)) v161 ) ) else (
 bif (decide (v161.high < v161.low)) then ( some (([], false)) ) else ( (app v136 ([v161])).bind fun v166 => K1 (wr (v135 + 1)) v166 ) )
def s_90_j8 (n : Nat) (K1 : Int → (List Span) → Option ((List Span) × Bool)) (v0 : Drum) (v135 : Int) (v136 : (List Span)) (v157 : Span) : Option ((List Span) × Bool) := s_90_l9 n K1 v0 v135 v136 n 0 v157
def s_90_l10 (n : Nat) (v0 : Drum) (v101 : Acid) : Nat → Int → (List Span) → Option ((List Span) × Bool)
| 0, _, _ => none
| k10 + 1, v173, v174 => bif (decide (0 ≤ v173)) then ( (ix v174 v173).bind fun v181 => (ix v0.adds (wr (v173 + 1))).bind fun v182 => (ix v174 (wr (v173 + 1))).bind fun v183 => (s_142 n v101 v182 v183).bind fun v184 => (s_138 n v181 v184).bind fun v185 => (ix v174 v173).bind fun v186 => (s_90_l10 n v0 v101 k10) (wr (v173 - 1)) (sts v174 v173 v185) ) else ( some ((v174, true)) )
def s_90_l1 (n : Nat) (v0 : Drum) (v101 : Acid) : Nat → Int → (List Span) → Option ((List Span) × Bool)
| 0, _, _ => none
| k1 + 1, v135, v136 => bif (decide (v135 < v0.hours)) then ( (ix v0.adds 0).bind fun v152 => (ix v0.adds 0).bind fun v153 => bif (decide (0 < v135)) then ( (ix v0.adds v135).bind fun v154 => (ix v136 (wr (v135 - 1))).bind fun v155 => (s_115 n v101 v154 v155).bind fun v156 => s_90_j8 n (s_90_l1 n v0 v101 k1) v0 v135 v136 v156 ) else (
 s_90_j8 n (s_90_l1 n v0 v101 k1) v0 v135 v136 (Span.mk (wr (v101.strength.low + v152)) (wr (v101.strength.high + v153))) ) ) else ( s_90_l10 n v0 v101 n (wr (v0.hours - 2)) v136 )
def s_90 (n : Nat) (v0 : Drum) (v1 : Int) : Option ((List Span) × Bool) := (ix v0.acids v1).bind fun v101 => (s_72 n v0.known v1).bind fun v102 => bif (!v102) then ( some (([], false)) ) else ( s_90_l1 n v0 v101 n 0 [] )
theorem c_90 (n : Nat) (v0 : Drum) (v1 : Int) {r : ((List Span) × Bool)} (h : s_90 n v0 v1 = some r) :
  Fun Tryz.prog 90 [.agg (cDrum v0), .val (.int .i64 v1)] (.ret (.tup [.sl (r.1.map cSpan), .b r.2])) := by
 unfold s_90 at h
 refine enterW 127 Tryz.func90 q q q ?_
 intro w0 F0
 change W _ _ (Ev [(0, .pv (.agg (cDrum v0))), (1, .pv (.i v1))]) _
 refine W.seq<|W.region<|ob (g_box q q q q q) q q<|va q q q q q<|va q q q q q<|on0<|Sq.n<|W.seq<|W.region<|ov (g_fld q q q q fl_27_0) q<|ov (g_load1 q q q q q q ag_22) q<|vm q q q q q ?_
 obtain ⟨v101, e101, h⟩ := bind_some h
 refine ov (g_idxI (l := v0.acids) (enc := cAcid) e101 q q q q q el_22 q) q<|ov (g_loadRA q q q q ag_137 sz_137 q q) q<|ob (g_alloc q q q zr_137) q q<|Ops.step q (s_storeB q q q q q q sz_137 q q)<|on0<|Sq.n<|W.seq<|W.seq<|W.region<|ov (g_fld q q q q fl_27_1) q<|ov (g_load1 q q q q q q ag_3) q<|vm q q q q q ?_
 obtain ⟨v102, e102, h⟩ := bind_some h
 refine ov (g_call q q q ca_72 q (c_72 _ _ _ e102)) q<|ov (g_not q q q q) q<|on0<|Sq.n<|W.cond (b := (!v102)) q (fun hc => ?_) (fun hc => ?_)
 ·have h := bif_t h hc
  refine W.seq<|W.region<|va q q q q q<|va q q q q q<|on0<|Sq.n<|W.conv (Conv.nilsl 4 q)<|W.ret<|Sq.r ?_
  obtain rfl := Option.some.inj h
  exact Fin.r q (.cons (.tmp _ _ q) (.cons (.tmp _ _ q) .nil)) q
 ·have h := bif_f h hc
  refine W.skip<|Sq.n<|W.seq<|W.region<|va q q q q q<|on0<|Sq.n<|W.seq<|W.seq<|W.region<|va q q q q q<|on0<|Sq.n<|W.block<|W.conv (Conv.nilrow 7 97 57 2 q q)<|W.loop (σ := Nat × Int × (List Span)) (fun s => (⟨[(2, .box 2 0), (6, .box 6 0), (7, .row 97), (8, .pv (.i s.2.1))], [(2, 27, [.pv (.sl (List.map cAcid v0.acids)), .pv (.i v0.known), .pv (.i v0.hours), .pv (.sl (List.map eI v0.adds)), .pv (.sl (List.map cStrip v0.strips)), .pv (.sl (List.map cBatch v0.batches))]), (6, 137, [.pv (.i v101.strength.low), .pv (.i v101.strength.high), .pv (.i v101.fall.low), .pv (.i v101.fall.high)])], [(97, ⟨57, 2, List.map cSpan s.2.2⟩)]⟩ : Env)) (fun s => s_90_l1 n v0 v101 s.1 s.2.1 s.2.2 = some r) (fun s => s.1) (n, 0, []) h (has_mk ⟨q, q, q, q, trivial⟩ ⟨q, q, trivial⟩ ⟨q, trivial⟩ q) ?_
  rintro ⟨k1, v135, v136⟩ h
  change s_90_l1 n v0 v101 k1 v135 v136 = some r at h
  rcases k1 with _ | k1
  ·rw [s_90_l1] at h
   cases h
  ·rw [s_90_l1] at h
   change W _ _ (⟨[(2, .box 2 0), (6, .box 6 0), (7, .row 97), (8, .pv (.i v135))], [(2, 27, [.pv (.sl (List.map cAcid v0.acids)), .pv (.i v0.known), .pv (.i v0.hours), .pv (.sl (List.map eI v0.adds)), .pv (.sl (List.map cStrip v0.strips)), .pv (.sl (List.map cBatch v0.batches))]), (6, 137, [.pv (.i v101.strength.low), .pv (.i v101.strength.high), .pv (.i v101.fall.low), .pv (.i v101.fall.high)])], [(97, ⟨57, 2, List.map cSpan v136⟩)]⟩ : Env) _
   refine W.seq<|W.seq<|W.region<|vm q q q q q<|ov (g_fld q q q q fl_27_2) q<|ov (g_load1 q q q q q q ag_3) q<|ov (g_lss q q q q q) q<|on0<|Sq.n<|W.cond (b := (decide (v135 < v0.hours))) q (fun hc => ?_) (fun hc => ?_)
   ·have h := bif_t h hc
    refine W.skip<|Sq.n<|W.seq<|W.block<|W.seq ?_
    obtain ⟨v152, e152, h⟩ := bind_some h
    obtain ⟨v153, e153, h⟩ := bind_some h
    refine W.draw (m := 18) Checked.mixed (Pre.v (GSG.of q (g_fld q q q q fl_137_0)) ((Pre.v (GSG.of q (g_fld q q q q fl_57_0)) ((Pre.v (GSG.of q (g_load1 q q q q q q ag_3)) ((Pre.v (GSG.of q (g_fld q q q q fl_27_3)) ((Pre.v (GSG.of q (g_load1 q q q q q q ag_23)) ((Pre.v (GSG.of q (g_idxI (l := v0.adds) (enc := eI) e152 q q q q q el_23 q)) ((Pre.v (GSG.of q (g_loadR1 q q q q q ag_3)) ((Pre.v (GSG.of q (g_add q q q q q)) ((Pre.v (GSG.of q (g_fld q q q q fl_137_0)) ((Pre.v (GSG.of q (g_fld q q q q fl_57_1)) ((Pre.v (GSG.of q (g_load1 q q q q q q ag_3)) ((Pre.v (GSG.of q (g_fld q q q q fl_27_3)) ((Pre.v (GSG.of q (g_load1 q q q q q q ag_23)) ((Pre.v (GSG.of q (g_idxI (l := v0.adds) (enc := eI) e153 q q q q q el_23 q)) ((Pre.v (GSG.of q (g_loadR1 q q q q q ag_3)) ((Pre.v (GSG.of q (g_add q q q q q)) ((Pre.v (GSG.of q (g_build (cs := (cSpan (Span.mk (wr (v101.strength.low + v152)) (wr (v101.strength.high + v153))))) q q q zr_57 st_57 q q)) ((Pre.b (GSG.of q (g_alloc q q q zr_57)) q (Pre.nil _)))))))))))))))))))))))))))))))))))) (by kernel_rfl)<|Ops.step q (s_storeB q q q q q q sz_57 q q)<|on0<|Sq.n<|W.seqJ (σ := Span) (fun s => (⟨[(2, .box 2 0), (6, .box 6 0), (7, .row 97), (8, .pv (.i v135)), (9, .box 9 0)], [(2, 27, [.pv (.sl (List.map cAcid v0.acids)), .pv (.i v0.known), .pv (.i v0.hours), .pv (.sl (List.map eI v0.adds)), .pv (.sl (List.map cStrip v0.strips)), .pv (.sl (List.map cBatch v0.batches))]), (6, 137, [.pv (.i v101.strength.low), .pv (.i v101.strength.high), .pv (.i v101.fall.low), .pv (.i v101.fall.high)]), (9, 57, [.pv (.i s.low), .pv (.i s.high)])], [(97, ⟨57, 2, List.map cSpan v136⟩)]⟩ : Env)) (fun s => s_90_j8 n (s_90_l1 n v0 v101 k1) v0 v135 v136 s = some r) ?_ ?_
    ·refine W.seq<|W.region<|vm q q q q q<|ov (g_gtr q q q q q) q<|on0<|Sq.n<|W.cond (b := (decide (0 < v135))) q (fun hc => ?_) (fun hc => ?_)
     ·have h := bif_t h hc
      obtain ⟨v154, e154, h⟩ := bind_some h
      obtain ⟨v155, e155, h⟩ := bind_some h
      refine W.draw (m := 11) Checked.mixed (Pre.v (GSG.of q (g_loadA q q q q q ag_137 sz_137 q q)) ((Pre.v (GSG.of q (g_fld q q q q fl_27_3)) ((Pre.v (GSG.of q (g_load1 q q q q q q ag_23)) ((Pre.v (GSG.of q (g_move q q q q)) ((Pre.v (GSG.of q (g_idxI (l := v0.adds) (enc := eI) e154 q q q q q el_23 q)) ((Pre.v (GSG.of q (g_loadR1 q q q q q ag_3)) ((Pre.v (GSG.of q (g_move q q q q)) ((Pre.v (GSG.of q (g_move q q q q)) ((Pre.v (GSG.of q (g_sub q q q q q)) ((Pre.v (GSG.of q (g_idxPI (l := v136) (enc := cSpan) e155 q q q q q q el_30)) ((Pre.v (GSG.of q (g_loadPAI (sz := 2) (l := v136) (enc := cSpan) e155 q q q q q ag_57 sz_57)) (Pre.nil _)))))))))))))))))))))) (by kernel_rfl) ?_
      obtain ⟨v156, e156, h⟩ := bind_some h
      refine ov (g_call q q q ca_115 q (c_115 _ _ _ _ e156)) q<|Ops.step q (s_storeB q q q q q q sz_57 q q)<|on0<|Sq.n<|⟨v156, h, has_mk ⟨q, q, q, q, q, trivial⟩ ⟨q, q, q, trivial⟩ ⟨q, trivial⟩ q⟩
     ·have h := bif_f h hc
      refine W.skip<|Sq.n<|⟨(Span.mk (wr (v101.strength.low + v152)) (wr (v101.strength.high + v153))), h, has_mk ⟨q, q, q, q, q, trivial⟩ ⟨q, q, q, trivial⟩ ⟨q, trivial⟩ q⟩
    ·rintro v157 h
     change s_90_j8 n (s_90_l1 n v0 v101 k1) v0 v135 v136 v157 = some r at h
     unfold s_90_j8 at h
     change W _ _ (⟨[(2, .box 2 0), (6, .box 6 0), (7, .row 97), (8, .pv (.i v135)), (9, .box 9 0)], [(2, 27, [.pv (.sl (List.map cAcid v0.acids)), .pv (.i v0.known), .pv (.i v0.hours), .pv (.sl (List.map eI v0.adds)), .pv (.sl (List.map cStrip v0.strips)), .pv (.sl (List.map cBatch v0.batches))]), (6, 137, [.pv (.i v101.strength.low), .pv (.i v101.strength.high), .pv (.i v101.fall.low), .pv (.i v101.fall.high)]), (9, 57, [.pv (.i v157.low), .pv (.i v157.high)])], [(97, ⟨57, 2, List.map cSpan v136⟩)]⟩ : Env) _
     refine W.seq<|W.seq<|W.region<|va q q q q q<|on0<|Sq.n<|W.block<|W.loop (σ := Nat × Int × Span) (fun s => (⟨[(2, .box 2 0), (6, .box 6 0), (7, .row 97), (8, .pv (.i v135)), (9, .box 9 0), (10, .pv (.i s.2.1))], [(2, 27, [.pv (.sl (List.map cAcid v0.acids)), .pv (.i v0.known), .pv (.i v0.hours), .pv (.sl (List.map eI v0.adds)), .pv (.sl (List.map cStrip v0.strips)), .pv (.sl (List.map cBatch v0.batches))]), (6, 137, [.pv (.i v101.strength.low), .pv (.i v101.strength.high), .pv (.i v101.fall.low), .pv (.i v101.fall.high)]), (9, 57, [.pv (.i s.2.2.low), .pv (.i s.2.2.high)])], [(97, ⟨57, 2, List.map cSpan v136⟩)]⟩ : Env)) (fun s => s_90_l9 n (s_90_l1 n v0 v101 k1) v0 v135 v136 s.1 s.2.1 s.2.2 = some r) (fun s => s.1) (n, 0, v157) h (has_mk ⟨q, q, q, q, q, q, trivial⟩ ⟨q, q, q, trivial⟩ ⟨q, trivial⟩ q) ?_
     rintro ⟨k9, v160, v161⟩ h
     change s_90_l9 n (s_90_l1 n v0 v101 k1) v0 v135 v136 k9 v160 v161 = some r at h
     rcases k9 with _ | k9
     ·rw [s_90_l9] at h
      cases h
     ·rw [s_90_l9] at h
      change W _ _ (⟨[(2, .box 2 0), (6, .box 6 0), (7, .row 97), (8, .pv (.i v135)), (9, .box 9 0), (10, .pv (.i v160))], [(2, 27, [.pv (.sl (List.map cAcid v0.acids)), .pv (.i v0.known), .pv (.i v0.hours), .pv (.sl (List.map eI v0.adds)), .pv (.sl (List.map cStrip v0.strips)), .pv (.sl (List.map cBatch v0.batches))]), (6, 137, [.pv (.i v101.strength.low), .pv (.i v101.strength.high), .pv (.i v101.fall.low), .pv (.i v101.fall.high)]), (9, 57, [.pv (.i v161.low), .pv (.i v161.high)])], [(97, ⟨57, 2, List.map cSpan v136⟩)]⟩ : Env) _
      refine W.seq<|W.seq<|W.region<|vm q q q q q<|ov (g_fld q q q q fl_27_4) q<|ov (g_load1 q q q q q q ag_24) q<|ov (g_lenM (l := v0.strips) (enc := cStrip) q ul_24 q q q) q<|ov (g_lss q q q q q) q<|on0<|Sq.n<|W.cond (b := (decide (v160 < (v0.strips.length : Int)))) q (fun hc => ?_) (fun hc => ?_)
      ·have h := bif_t h hc
       refine W.skip<|Sq.n<|W.seq<|W.block<|W.seq<|W.region<|ov (g_fld q q q q fl_27_4) q<|ov (g_load1 q q q q q q ag_24) q<|vm q q q q q ?_
       obtain ⟨v164, e164, h⟩ := bind_some h
       refine ov (g_idxI (l := v0.strips) (enc := cStrip) e164 q q q q q el_24 q) q<|ov (g_loadRA q q q q ag_92 sz_92 q q) q<|ob (g_alloc q q q zr_92) q q<|Ops.step q (s_storeB q q q q q q sz_92 q q)<|on0<|Sq.n<|W.seq<|W.region<|ov (g_fld q q q q fl_92_0) q<|ov (g_load1 q q q q q q ag_3) q<|vm q q q q q<|ov (g_eql q q q q q) q<|on0<|Sq.n<|W.cond (b := (decide (v164.hour = v135))) q (fun hc => ?_) (fun hc => ?_)
       ·have h := bif_t h hc
        refine W.region<|ov (g_loadA q q q q q ag_57 sz_57 q q) q<|ov (g_fld q q q q fl_92_1) q<|ov (g_load1 q q q q q q ag_3) q<|ov (g_fld q q q q fl_92_2) q<|ov (g_load1 q q q q q q ag_3) q<|ov (g_sub q q q q q) q<|ov (g_fld q q q q fl_92_1) q<|ov (g_load1 q q q q q q ag_3) q<|ov (g_fld q q q q fl_92_2) q<|ov (g_load1 q q q q q q ag_3) q<|ov (g_add q q q q q) q<|ov (g_build (cs := (cSpan (Span.mk (wr (v164.seen - v164.off)) (wr (v164.seen + v164.off))))) q q q zr_57 st_57 q q) q ?_
        obtain ⟨v165, e165, h⟩ := bind_some h
        exact ov (g_call q q q ca_138 q (c_138 _ _ _ e165)) q<|Ops.step q (s_storeB q q q q q q sz_57 q q)<|on0<|Bl.n<|Sq.n<|W.region<|vm q q q q q<|ov (g_add q q q q q) q<|va q q q q q<|on0<|Sq.n<|⟨(k9, wr (v160 + 1), v165), h, Nat.lt_succ_self _, has_mk ⟨q, q, q, q, q, q, trivial⟩ ⟨q, q, q, trivial⟩ ⟨q, trivial⟩ q⟩
       ·have h := bif_f h hc
        exact W.skip<|Bl.n<|Sq.n<|W.region<|vm q q q q q<|ov (g_add q q q q q) q<|va q q q q q<|on0<|Sq.n<|⟨(k9, wr (v160 + 1), v161), h, Nat.lt_succ_self _, has_mk ⟨q, q, q, q, q, q, trivial⟩ ⟨q, q, q, trivial⟩ ⟨q, trivial⟩ q⟩
      ·have h := bif_f h hc
       refine W.exit<|Sq.e<|Sq.e<|Bl.e<|Sq.n<|W.seq<|W.seq<|W.region<|ov (g_fld q q q q fl_57_0) q<|ov (g_load1 q q q q q q ag_3) q<|ov (g_fld q q q q fl_57_1) q<|ov (g_load1 q q q q q q ag_3) q<|ov (g_gtr q q q q q) q<|on0<|Sq.n<|W.cond (b := (decide (v161.high < v161.low))) q (fun hc => ?_) (fun hc => ?_)
       ·have h := bif_t h hc
        refine W.seq<|W.region<|va q q q q q<|va q q q q q<|on0<|Sq.n<|W.conv (Conv.nilsl 4 q)<|W.ret<|Sq.r<|Bl.r<|Sq.r<|Sq.r<|Bl.r<|Sq.r ?_
        obtain rfl := Option.some.inj h
        exact Fin.r q (.cons (.tmp _ _ q) (.cons (.tmp _ _ q) .nil)) q
       ·have h := bif_f h hc
        refine W.skip<|Sq.n<|W.region<|vm q q q q q<|ov (g_loadA q q q q q ag_57 sz_57 q q) q<|Ops.r (g_buildSlice (cs := [.val (.int .i64 v161.low), .val (.int .i64 v161.high)]) (es := List.map cSpan [v161]) q q q el_30 ⟨_, zr_57⟩ q q q q q q) q q ?_
        obtain ⟨v166, e166, h⟩ := bind_some h
        exact Ops.step q (s_appendR (enc := cSpan) e166 q q q q q q q q ex_30 (fun _ => q))<|va q q q q q<|on0<|Bl.n<|Sq.n<|W.region<|vm q q q q q<|ov (g_add q q q q q) q<|va q q q q q<|on0<|Sq.n<|⟨(k1, wr (v135 + 1), v166), h, Nat.lt_succ_self _, has_mk ⟨q, q, q, q, trivial⟩ ⟨q, q, trivial⟩ ⟨q, trivial⟩ q⟩
   ·have h := bif_f h hc
    refine W.exit<|Sq.e<|Sq.e<|Bl.e<|Sq.n<|W.seq<|W.seq<|W.region<|ov (g_fld q q q q fl_27_2) q<|ov (g_load1 q q q q q q ag_3) q<|ov (g_sub q q q q q) q<|va q q q q q<|on0<|Sq.n<|W.block<|W.loop (σ := Nat × Int × (List Span)) (fun s => (⟨[(2, .box 2 0), (6, .box 6 0), (7, .row 97), (12, .pv (.i s.2.1))], [(2, 27, [.pv (.sl (List.map cAcid v0.acids)), .pv (.i v0.known), .pv (.i v0.hours), .pv (.sl (List.map eI v0.adds)), .pv (.sl (List.map cStrip v0.strips)), .pv (.sl (List.map cBatch v0.batches))]), (6, 137, [.pv (.i v101.strength.low), .pv (.i v101.strength.high), .pv (.i v101.fall.low), .pv (.i v101.fall.high)])], [(97, ⟨57, 2, List.map cSpan s.2.2⟩)]⟩ : Env)) (fun s => s_90_l10 n v0 v101 s.1 s.2.1 s.2.2 = some r) (fun s => s.1) (n, wr (v0.hours - 2), v136) h (has_mk ⟨q, q, q, q, trivial⟩ ⟨q, q, trivial⟩ ⟨q, trivial⟩ q) ?_
    rintro ⟨k10, v173, v174⟩ h
    change s_90_l10 n v0 v101 k10 v173 v174 = some r at h
    rcases k10 with _ | k10
    ·rw [s_90_l10] at h
     cases h
    ·rw [s_90_l10] at h
     change W _ _ (⟨[(2, .box 2 0), (6, .box 6 0), (7, .row 97), (12, .pv (.i v173))], [(2, 27, [.pv (.sl (List.map cAcid v0.acids)), .pv (.i v0.known), .pv (.i v0.hours), .pv (.sl (List.map eI v0.adds)), .pv (.sl (List.map cStrip v0.strips)), .pv (.sl (List.map cBatch v0.batches))]), (6, 137, [.pv (.i v101.strength.low), .pv (.i v101.strength.high), .pv (.i v101.fall.low), .pv (.i v101.fall.high)])], [(97, ⟨57, 2, List.map cSpan v174⟩)]⟩ : Env) _
     refine W.seq<|W.seq<|W.region<|vm q q q q q<|ov (g_geq q q q q q) q<|on0<|Sq.n<|W.cond (b := (decide (0 ≤ v173))) q (fun hc => ?_) (fun hc => ?_)
     ·have h := bif_t h hc
      refine W.skip<|Sq.n<|W.seq<|W.block ?_
      obtain ⟨v181, e181, h⟩ := bind_some h
      obtain ⟨v182, e182, h⟩ := bind_some h
      obtain ⟨v183, e183, h⟩ := bind_some h
      obtain ⟨v184, e184, h⟩ := bind_some h
      obtain ⟨v185, e185, h⟩ := bind_some h
      refine W.draw (m := 20) Checked.mixed (Pre.v (GSG.of q (g_move q q q q)) ((Pre.v (GSG.of q (g_move q q q q)) ((Pre.v (GSG.of q (g_move q q q q)) ((Pre.v (GSG.of q (g_move q q q q)) ((Pre.v (GSG.of q (g_idxPI (l := v174) (enc := cSpan) e181 q q q q q q el_30)) ((Pre.v (GSG.of q (g_loadPAI (sz := 2) (l := v174) (enc := cSpan) e181 q q q q q ag_57 sz_57)) ((Pre.v (GSG.of q (g_loadA q q q q q ag_137 sz_137 q q)) ((Pre.v (GSG.of q (g_fld q q q q fl_27_3)) ((Pre.v (GSG.of q (g_load1 q q q q q q ag_23)) ((Pre.v (GSG.of q (g_move q q q q)) ((Pre.v (GSG.of q (g_add q q q q q)) ((Pre.v (GSG.of q (g_idxI (l := v0.adds) (enc := eI) e182 q q q q q el_23 q)) ((Pre.v (GSG.of q (g_loadR1 q q q q q ag_3)) ((Pre.v (GSG.of q (g_move q q q q)) ((Pre.v (GSG.of q (g_move q q q q)) ((Pre.v (GSG.of q (g_add q q q q q)) ((Pre.v (GSG.of q (g_idxPI (l := v174) (enc := cSpan) e183 q q q q q q el_30)) ((Pre.v (GSG.of q (g_loadPAI (sz := 2) (l := v174) (enc := cSpan) e183 q q q q q ag_57 sz_57)) ((Pre.v (GSG.of q (g_call q q q ca_142 q (c_142 _ _ _ _ e184))) ((Pre.v (GSG.of q (g_call q q q ca_138 q (c_138 _ _ _ e185))) (Pre.nil _)))))))))))))))))))))))))))))))))))))))) (by kernel_rfl) ?_
      obtain ⟨v186, e186, h⟩ := bind_some h
      exact ov (g_idxPI (l := v174) (enc := cSpan) e186 q q q q q q el_30) q<|Ops.step q (s_storePI (sz := 2) (l := v174) (enc := cSpan) v185 e186 q q q q q q q sz_57 q q)<|on0<|Bl.n<|Sq.n<|W.region<|vm q q q q q<|ov (g_sub q q q q q) q<|va q q q q q<|on0<|Sq.n<|⟨(k10, wr (v173 - 1), sts v174 v173 v185), h, Nat.lt_succ_self _, has_mk ⟨q, q, q, q, trivial⟩ ⟨q, q, trivial⟩ ⟨q, trivial⟩ q⟩
     ·have h := bif_f h hc
      refine W.exit<|Sq.e<|Sq.e<|Bl.e<|Sq.n<|W.seq<|W.region<|vm q q q q q<|va q q q q q<|va q q q q q<|on0<|Sq.n<|W.share (k := 97) q<|W.ret ?_
      obtain rfl := Option.some.inj h
      exact Fin.r q (.cons (.tmp _ _ q) (.cons (.tmp _ _ q) .nil)) q
def s_45_j4 (n : Nat) (K1 : Int → Option (Bool)) (v1 : Truth) (v112 : Int) (v128 : Span) : Option (Bool) := (ix v1.strength v112).bind fun v129 => (s_103 n v129 v128.low v128.high).bind fun v130 => bif (!v130) then ( some (false) ) else ( K1 (wr (v112 + 1)) )
def s_45_l5 (n : Nat) (v0 : Drum) (v1 : Truth) : Nat → Int → Option (Bool)
| 0, _ => none
| k5 + 1, v134 => bif (decide (v134 < (v0.strips.length : Int))) then ( (ix v0.strips v134).bind fun v138 => (ix v1.strength v138.hour).bind fun v139 => (s_103 n v139 (wr (v138.seen - v138.off)) (wr (v138.seen + v138.off))).bind fun v140 => bif (!v140) then ( some (false) ) else ( (s_45_l5 n v0 v1 k5) (wr (v134 + 1)) ) ) else ( some (true) )
def s_45_l1 (n : Nat) (v0 : Drum) (v1 : Truth) (v102 : Acid) : Nat → Int → Option (Bool)
| 0, _ => none
| k1 + 1, v112 => bif (decide (v112 < v0.hours)) then ( (ix v0.adds 0).bind fun v122 => (ix v0.adds 0).bind fun v123 => bif (decide (0 < v112)) then ( (ix v0.adds v112).bind fun v124 => (ix v1.strength (wr (v112 - 1))).bind fun v125 => (ix v1.strength (wr (v112 - 1))).bind fun v126 => (s_115 n v102 v124 (Span.mk v125 v126)).bind fun v127 => s_45_j4 n (s_45_l1 n v0 v1 v102 k1) v1 v112 v127 ) else (
 s_45_j4 n (s_45_l1 n v0 v1 v102 k1) v1 v112 (Span.mk (wr (v102.strength.low + v122)) (wr (v102.strength.high + v123))) ) ) else ( s_45_l5 n v0 v1 n 0 )
def s_45 (n : Nat) (v0 : Drum) (v1 : Truth) : Option (Bool) := (s_72 n v0.known v1.acid).bind fun v101 => bif (!v101) then ( some (false) ) else ( (ix v0.acids v1.acid).bind fun v102 => s_45_l1 n v0 v1 v102 n 0 )
theorem c_45 (n : Nat) (v0 : Drum) (v1 : Truth) {r : (Bool)} (h : s_45 n v0 v1 = some r) :
  Fun Tryz.prog 45 [.agg (cDrum v0), .agg (cTruth v1)] (.ret (.b r)) := by
 unfold s_45 at h
 refine enterW 108 Tryz.func45 q q q ?_
 intro w0 F0
 change W _ _ (Ev [(0, .pv (.agg (cDrum v0))), (1, .pv (.agg (cTruth v1)))]) _
 refine W.seq<|W.region<|ob (g_box q q q q q) q q<|ob (g_box q q q q q) q q<|va q q q q q<|on0<|Sq.n<|W.seq<|W.seq<|W.region<|ov (g_fld q q q q fl_27_1) q<|ov (g_load1 q q q q q q ag_3) q<|ov (g_fld q q q q fl_54_0) q<|ov (g_load1 q q q q q q ag_3) q ?_
 obtain ⟨v101, e101, h⟩ := bind_some h
 refine ov (g_call q q q ca_72 q (c_72 _ _ _ e101)) q<|ov (g_not q q q q) q<|on0<|Sq.n<|W.cond (b := (!v101)) q (fun hc => ?_) (fun hc => ?_)
 ·have h := bif_t h hc
  refine W.seq<|W.region<|va q q q q q<|on0<|Sq.n<|W.ret<|Sq.r ?_
  obtain rfl := Option.some.inj h
  exact Fin.r q (.cons (.tmp _ _ q) .nil) q
 ·have h := bif_f h hc
  refine W.skip<|Sq.n<|W.seq<|W.region<|ov (g_fld q q q q fl_27_0) q<|ov (g_load1 q q q q q q ag_22) q<|ov (g_fld q q q q fl_54_0) q<|ov (g_load1 q q q q q q ag_3) q ?_
  obtain ⟨v102, e102, h⟩ := bind_some h
  refine ov (g_idxI (l := v0.acids) (enc := cAcid) e102 q q q q q el_22 q) q<|ov (g_loadRA q q q q ag_137 sz_137 q q) q<|ob (g_alloc q q q zr_137) q q<|Ops.step q (s_storeB q q q q q q sz_137 q q)<|on0<|Sq.n<|W.seq<|W.seq<|W.region<|va q q q q q<|on0<|Sq.n<|W.block<|W.loop (σ := Nat × Int) (fun s => (⟨[(2, .box 2 0), (3, .box 3 0), (5, .box 5 0), (6, .pv (.i s.2))], [(2, 27, [.pv (.sl (List.map cAcid v0.acids)), .pv (.i v0.known), .pv (.i v0.hours), .pv (.sl (List.map eI v0.adds)), .pv (.sl (List.map cStrip v0.strips)), .pv (.sl (List.map cBatch v0.batches))]), (3, 54, [.pv (.i v1.acid), .pv (.sl (List.map eI v1.strength))]), (5, 137, [.pv (.i v102.strength.low), .pv (.i v102.strength.high), .pv (.i v102.fall.low), .pv (.i v102.fall.high)])], []⟩ : Env)) (fun s => s_45_l1 n v0 v1 v102 s.1 s.2 = some r) (fun s => s.1) (n, 0) h (has_mk ⟨q, q, q, q, trivial⟩ ⟨q, q, q, trivial⟩ trivial q) ?_
  rintro ⟨k1, v112⟩ h
  change s_45_l1 n v0 v1 v102 k1 v112 = some r at h
  rcases k1 with _ | k1
  ·rw [s_45_l1] at h
   cases h
  ·rw [s_45_l1] at h
   change W _ _ (⟨[(2, .box 2 0), (3, .box 3 0), (5, .box 5 0), (6, .pv (.i v112))], [(2, 27, [.pv (.sl (List.map cAcid v0.acids)), .pv (.i v0.known), .pv (.i v0.hours), .pv (.sl (List.map eI v0.adds)), .pv (.sl (List.map cStrip v0.strips)), .pv (.sl (List.map cBatch v0.batches))]), (3, 54, [.pv (.i v1.acid), .pv (.sl (List.map eI v1.strength))]), (5, 137, [.pv (.i v102.strength.low), .pv (.i v102.strength.high), .pv (.i v102.fall.low), .pv (.i v102.fall.high)])], []⟩ : Env) _
   refine W.seq<|W.seq<|W.region<|vm q q q q q<|ov (g_fld q q q q fl_27_2) q<|ov (g_load1 q q q q q q ag_3) q<|ov (g_lss q q q q q) q<|on0<|Sq.n<|W.cond (b := (decide (v112 < v0.hours))) q (fun hc => ?_) (fun hc => ?_)
   ·have h := bif_t h hc
    refine W.skip<|Sq.n<|W.seq<|W.block<|W.seq ?_
    obtain ⟨v122, e122, h⟩ := bind_some h
    obtain ⟨v123, e123, h⟩ := bind_some h
    refine W.draw (m := 18) Checked.mixed (Pre.v (GSG.of q (g_fld q q q q fl_137_0)) ((Pre.v (GSG.of q (g_fld q q q q fl_57_0)) ((Pre.v (GSG.of q (g_load1 q q q q q q ag_3)) ((Pre.v (GSG.of q (g_fld q q q q fl_27_3)) ((Pre.v (GSG.of q (g_load1 q q q q q q ag_23)) ((Pre.v (GSG.of q (g_idxI (l := v0.adds) (enc := eI) e122 q q q q q el_23 q)) ((Pre.v (GSG.of q (g_loadR1 q q q q q ag_3)) ((Pre.v (GSG.of q (g_add q q q q q)) ((Pre.v (GSG.of q (g_fld q q q q fl_137_0)) ((Pre.v (GSG.of q (g_fld q q q q fl_57_1)) ((Pre.v (GSG.of q (g_load1 q q q q q q ag_3)) ((Pre.v (GSG.of q (g_fld q q q q fl_27_3)) ((Pre.v (GSG.of q (g_load1 q q q q q q ag_23)) ((Pre.v (GSG.of q (g_idxI (l := v0.adds) (enc := eI) e123 q q q q q el_23 q)) ((Pre.v (GSG.of q (g_loadR1 q q q q q ag_3)) ((Pre.v (GSG.of q (g_add q q q q q)) ((Pre.v (GSG.of q (g_build (cs := (cSpan (Span.mk (wr (v102.strength.low + v122)) (wr (v102.strength.high + v123))))) q q q zr_57 st_57 q q)) ((Pre.b (GSG.of q (g_alloc q q q zr_57)) q (Pre.nil _)))))))))))))))))))))))))))))))))))) (by kernel_rfl)<|Ops.step q (s_storeB q q q q q q sz_57 q q)<|on0<|Sq.n<|W.seqJ (σ := Span) (fun s => (⟨[(2, .box 2 0), (3, .box 3 0), (5, .box 5 0), (6, .pv (.i v112)), (7, .box 7 0)], [(2, 27, [.pv (.sl (List.map cAcid v0.acids)), .pv (.i v0.known), .pv (.i v0.hours), .pv (.sl (List.map eI v0.adds)), .pv (.sl (List.map cStrip v0.strips)), .pv (.sl (List.map cBatch v0.batches))]), (3, 54, [.pv (.i v1.acid), .pv (.sl (List.map eI v1.strength))]), (5, 137, [.pv (.i v102.strength.low), .pv (.i v102.strength.high), .pv (.i v102.fall.low), .pv (.i v102.fall.high)]), (7, 57, [.pv (.i s.low), .pv (.i s.high)])], []⟩ : Env)) (fun s => s_45_j4 n (s_45_l1 n v0 v1 v102 k1) v1 v112 s = some r) ?_ ?_
    ·refine W.seq<|W.region<|vm q q q q q<|ov (g_gtr q q q q q) q<|on0<|Sq.n<|W.cond (b := (decide (0 < v112))) q (fun hc => ?_) (fun hc => ?_)
     ·have h := bif_t h hc
      obtain ⟨v124, e124, h⟩ := bind_some h
      obtain ⟨v125, e125, h⟩ := bind_some h
      obtain ⟨v126, e126, h⟩ := bind_some h
      refine W.draw (m := 19) Checked.mixed (Pre.v (GSG.of q (g_loadA q q q q q ag_137 sz_137 q q)) ((Pre.v (GSG.of q (g_fld q q q q fl_27_3)) ((Pre.v (GSG.of q (g_load1 q q q q q q ag_23)) ((Pre.v (GSG.of q (g_move q q q q)) ((Pre.v (GSG.of q (g_idxI (l := v0.adds) (enc := eI) e124 q q q q q el_23 q)) ((Pre.v (GSG.of q (g_loadR1 q q q q q ag_3)) ((Pre.v (GSG.of q (g_fld q q q q fl_54_1)) ((Pre.v (GSG.of q (g_load1 q q q q q q ag_23)) ((Pre.v (GSG.of q (g_move q q q q)) ((Pre.v (GSG.of q (g_sub q q q q q)) ((Pre.v (GSG.of q (g_idxI (l := v1.strength) (enc := eI) e125 q q q q q el_23 q)) ((Pre.v (GSG.of q (g_loadR1 q q q q q ag_3)) ((Pre.v (GSG.of q (g_fld q q q q fl_54_1)) ((Pre.v (GSG.of q (g_load1 q q q q q q ag_23)) ((Pre.v (GSG.of q (g_move q q q q)) ((Pre.v (GSG.of q (g_sub q q q q q)) ((Pre.v (GSG.of q (g_idxI (l := v1.strength) (enc := eI) e126 q q q q q el_23 q)) ((Pre.v (GSG.of q (g_loadR1 q q q q q ag_3)) ((Pre.v (GSG.of q (g_build (cs := (cSpan (Span.mk v125 v126))) q q q zr_57 st_57 q q)) (Pre.nil _)))))))))))))))))))))))))))))))))))))) (by kernel_rfl) ?_
      obtain ⟨v127, e127, h⟩ := bind_some h
      refine ov (g_call q q q ca_115 q (c_115 _ _ _ _ e127)) q<|Ops.step q (s_storeB q q q q q q sz_57 q q)<|on0<|Sq.n<|⟨v127, h, has_mk ⟨q, q, q, q, q, trivial⟩ ⟨q, q, q, q, trivial⟩ trivial q⟩
     ·have h := bif_f h hc
      refine W.skip<|Sq.n<|⟨(Span.mk (wr (v102.strength.low + v122)) (wr (v102.strength.high + v123))), h, has_mk ⟨q, q, q, q, q, trivial⟩ ⟨q, q, q, q, trivial⟩ trivial q⟩
    ·rintro v128 h
     change s_45_j4 n (s_45_l1 n v0 v1 v102 k1) v1 v112 v128 = some r at h
     unfold s_45_j4 at h
     change W _ _ (⟨[(2, .box 2 0), (3, .box 3 0), (5, .box 5 0), (6, .pv (.i v112)), (7, .box 7 0)], [(2, 27, [.pv (.sl (List.map cAcid v0.acids)), .pv (.i v0.known), .pv (.i v0.hours), .pv (.sl (List.map eI v0.adds)), .pv (.sl (List.map cStrip v0.strips)), .pv (.sl (List.map cBatch v0.batches))]), (3, 54, [.pv (.i v1.acid), .pv (.sl (List.map eI v1.strength))]), (5, 137, [.pv (.i v102.strength.low), .pv (.i v102.strength.high), .pv (.i v102.fall.low), .pv (.i v102.fall.high)]), (7, 57, [.pv (.i v128.low), .pv (.i v128.high)])], []⟩ : Env) _
     refine W.seq ?_
     obtain ⟨v129, e129, h⟩ := bind_some h
     refine W.draw (m := 9) Checked.mixed (Pre.v (GSG.of q (g_fld q q q q fl_54_1)) ((Pre.v (GSG.of q (g_load1 q q q q q q ag_23)) ((Pre.v (GSG.of q (g_move q q q q)) ((Pre.v (GSG.of q (g_idxI (l := v1.strength) (enc := eI) e129 q q q q q el_23 q)) ((Pre.v (GSG.of q (g_loadR1 q q q q q ag_3)) ((Pre.v (GSG.of q (g_fld q q q q fl_57_0)) ((Pre.v (GSG.of q (g_load1 q q q q q q ag_3)) ((Pre.v (GSG.of q (g_fld q q q q fl_57_1)) ((Pre.v (GSG.of q (g_load1 q q q q q q ag_3)) (Pre.nil _)))))))))))))))))) (by kernel_rfl) ?_
     obtain ⟨v130, e130, h⟩ := bind_some h
     refine ov (g_call q q q ca_103 q (c_103 _ _ _ _ e130)) q<|ov (g_not q q q q) q<|on0<|Sq.n<|W.cond (b := (!v130)) q (fun hc => ?_) (fun hc => ?_)
     ·have h := bif_t h hc
      refine W.seq<|W.region<|va q q q q q<|on0<|Sq.n<|W.ret<|Bl.r<|Sq.r<|Sq.r<|Bl.r<|Sq.r ?_
      obtain rfl := Option.some.inj h
      exact Fin.r q (.cons (.tmp _ _ q) .nil) q
     ·have h := bif_f h hc
      exact W.skip<|Bl.n<|Sq.n<|W.region<|vm q q q q q<|ov (g_add q q q q q) q<|va q q q q q<|on0<|Sq.n<|⟨(k1, wr (v112 + 1)), h, Nat.lt_succ_self _, has_mk ⟨q, q, q, q, trivial⟩ ⟨q, q, q, trivial⟩ trivial q⟩
   ·have h := bif_f h hc
    refine W.exit<|Sq.e<|Sq.e<|Bl.e<|Sq.n<|W.seq<|W.seq<|W.region<|va q q q q q<|on0<|Sq.n<|W.block<|W.loop (σ := Nat × Int) (fun s => (⟨[(2, .box 2 0), (3, .box 3 0), (8, .pv (.i s.2))], [(2, 27, [.pv (.sl (List.map cAcid v0.acids)), .pv (.i v0.known), .pv (.i v0.hours), .pv (.sl (List.map eI v0.adds)), .pv (.sl (List.map cStrip v0.strips)), .pv (.sl (List.map cBatch v0.batches))]), (3, 54, [.pv (.i v1.acid), .pv (.sl (List.map eI v1.strength))])], []⟩ : Env)) (fun s => s_45_l5 n v0 v1 s.1 s.2 = some r) (fun s => s.1) (n, 0) h (has_mk ⟨q, q, q, trivial⟩ ⟨q, q, trivial⟩ trivial q) ?_
    rintro ⟨k5, v134⟩ h
    change s_45_l5 n v0 v1 k5 v134 = some r at h
    rcases k5 with _ | k5
    ·rw [s_45_l5] at h
     cases h
    ·rw [s_45_l5] at h
     change W _ _ (⟨[(2, .box 2 0), (3, .box 3 0), (8, .pv (.i v134))], [(2, 27, [.pv (.sl (List.map cAcid v0.acids)), .pv (.i v0.known), .pv (.i v0.hours), .pv (.sl (List.map eI v0.adds)), .pv (.sl (List.map cStrip v0.strips)), .pv (.sl (List.map cBatch v0.batches))]), (3, 54, [.pv (.i v1.acid), .pv (.sl (List.map eI v1.strength))])], []⟩ : Env) _
     refine W.seq<|W.seq<|W.region<|vm q q q q q<|ov (g_fld q q q q fl_27_4) q<|ov (g_load1 q q q q q q ag_24) q<|ov (g_lenM (l := v0.strips) (enc := cStrip) q ul_24 q q q) q<|ov (g_lss q q q q q) q<|on0<|Sq.n<|W.cond (b := (decide (v134 < (v0.strips.length : Int)))) q (fun hc => ?_) (fun hc => ?_)
     ·have h := bif_t h hc
      refine W.skip<|Sq.n<|W.seq<|W.block<|W.seq<|W.region<|ov (g_fld q q q q fl_27_4) q<|ov (g_load1 q q q q q q ag_24) q<|vm q q q q q ?_
      obtain ⟨v138, e138, h⟩ := bind_some h
      refine ov (g_idxI (l := v0.strips) (enc := cStrip) e138 q q q q q el_24 q) q<|ov (g_loadRA q q q q ag_92 sz_92 q q) q<|ob (g_alloc q q q zr_92) q q<|Ops.step q (s_storeB q q q q q q sz_92 q q)<|on0<|Sq.n<|W.seq ?_
      obtain ⟨v139, e139, h⟩ := bind_some h
      refine W.draw (m := 16) Checked.mixed (Pre.v (GSG.of q (g_fld q q q q fl_54_1)) ((Pre.v (GSG.of q (g_load1 q q q q q q ag_23)) ((Pre.v (GSG.of q (g_fld q q q q fl_92_0)) ((Pre.v (GSG.of q (g_load1 q q q q q q ag_3)) ((Pre.v (GSG.of q (g_idxI (l := v1.strength) (enc := eI) e139 q q q q q el_23 q)) ((Pre.v (GSG.of q (g_loadR1 q q q q q ag_3)) ((Pre.v (GSG.of q (g_fld q q q q fl_92_1)) ((Pre.v (GSG.of q (g_load1 q q q q q q ag_3)) ((Pre.v (GSG.of q (g_fld q q q q fl_92_2)) ((Pre.v (GSG.of q (g_load1 q q q q q q ag_3)) ((Pre.v (GSG.of q (g_sub q q q q q)) ((Pre.v (GSG.of q (g_fld q q q q fl_92_1)) ((Pre.v (GSG.of q (g_load1 q q q q q q ag_3)) ((Pre.v (GSG.of q (g_fld q q q q fl_92_2)) ((Pre.v (GSG.of q (g_load1 q q q q q q ag_3)) ((Pre.v (GSG.of q (g_add q q q q q)) (Pre.nil _)))))))))))))))))))))))))))))))) (by kernel_rfl) ?_
      obtain ⟨v140, e140, h⟩ := bind_some h
      refine ov (g_call q q q ca_103 q (c_103 _ _ _ _ e140)) q<|ov (g_not q q q q) q<|on0<|Sq.n<|W.cond (b := (!v140)) q (fun hc => ?_) (fun hc => ?_)
      ·have h := bif_t h hc
       refine W.seq<|W.region<|va q q q q q<|on0<|Sq.n<|W.ret<|Bl.r<|Sq.r<|Sq.r<|Bl.r<|Sq.r ?_
       obtain rfl := Option.some.inj h
       exact Fin.r q (.cons (.tmp _ _ q) .nil) q
      ·have h := bif_f h hc
       exact W.skip<|Bl.n<|Sq.n<|W.region<|vm q q q q q<|ov (g_add q q q q q) q<|va q q q q q<|on0<|Sq.n<|⟨(k5, wr (v134 + 1)), h, Nat.lt_succ_self _, has_mk ⟨q, q, q, trivial⟩ ⟨q, q, trivial⟩ trivial q⟩
     ·have h := bif_f h hc
      refine W.exit<|Sq.e<|Sq.e<|Bl.e<|Sq.n<|W.seq<|W.region<|va q q q q q<|on0<|Sq.n<|W.ret ?_
      obtain rfl := Option.some.inj h
      exact Fin.r q (.cons (.tmp _ _ q) .nil) q
def s_117_j4 (n : Nat) (K1 : Int → Option (Bool)) (v0 : Drum) (v110 : Int) (v118 : Int) (v120 : Int) (v121 : Int) : Option (Bool) := (ix v0.adds v110).bind fun v122 => (ix v0.adds v110).bind fun v123 => (s_87 n v118 (wr (v120 + v122)) (wr (v121 + v123))).bind fun v124 => bif (!v124) then ( some (false) ) else ( K1 (wr (v110 + 1)) )
def s_117_l1 (n : Nat) (v0 : Drum) (v1 : Truth) (v102 : Acid) : Nat → Int → Option (Bool)
| 0, _ => none
| k1 + 1, v110 => bif (decide (v110 < (v1.strength.length : Int))) then ( (ix v1.strength v110).bind fun v118 => bif (decide (0 < v110)) then ( (ix v1.strength (wr (v110 - 1))).bind fun v119 => s_117_j4 n (s_117_l1 n v0 v1 v102 k1) v0 v110 v118 (max 0 (wr (v119 - v102.fall.high))) (max 0 (wr (v119 - v102.fall.low))) ) else (
 s_117_j4 n (s_117_l1 n v0 v1 v102 k1) v0 v110 v118 v102.strength.low v102.strength.high ) ) else ( (s_95 n v0.strips (fun z0 => s_165 n z0 v1)).bind fun v125 => some ((!v125)) )
def s_117 (n : Nat) (v0 : Drum) (v1 : Truth) : Option (Bool) := (s_145 n v0.known v1.acid).bind fun v101 => bif (!v101) then ( some (false) ) else ( (ix v0.acids v1.acid).bind fun v102 => s_117_l1 n v0 v1 v102 n 0 )
theorem c_117 (n : Nat) (v0 : Drum) (v1 : Truth) {r : (Bool)} (h : s_117 n v0 v1 = some r) :
  Fun Tryz.prog 117 [.agg (cDrum v0), .agg (cTruth v1)] (.ret (.b r)) := by
 unfold s_117 at h
 refine enterW 80 Tryz.func117 q q q ?_
 intro w0 F0
 change W _ _ (Ev [(0, .pv (.agg (cDrum v0))), (1, .pv (.agg (cTruth v1)))]) _
 refine W.seq<|W.region<|ob (g_box q q q q q) q q<|ob (g_box q q q q q) q q<|va q q q q q<|on0<|Sq.n<|W.seq<|W.seq<|W.region<|ov (g_fld q q q q fl_27_1) q<|ov (g_load1 q q q q q q ag_3) q<|ov (g_fld q q q q fl_54_0) q<|ov (g_load1 q q q q q q ag_3) q ?_
 obtain ⟨v101, e101, h⟩ := bind_some h
 refine ov (g_call q q q ca_145 q (c_145 _ _ _ e101)) q<|ov (g_not q q q q) q<|on0<|Sq.n<|W.cond (b := (!v101)) q (fun hc => ?_) (fun hc => ?_)
 ·have h := bif_t h hc
  refine W.seq<|W.region<|va q q q q q<|on0<|Sq.n<|W.ret<|Sq.r ?_
  obtain rfl := Option.some.inj h
  exact Fin.r q (.cons (.tmp _ _ q) .nil) q
 ·have h := bif_f h hc
  refine W.skip<|Sq.n<|W.seq<|W.region<|ov (g_fld q q q q fl_27_0) q<|ov (g_load1 q q q q q q ag_22) q<|ov (g_fld q q q q fl_54_0) q<|ov (g_load1 q q q q q q ag_3) q ?_
  obtain ⟨v102, e102, h⟩ := bind_some h
  refine ov (g_idxI (l := v0.acids) (enc := cAcid) e102 q q q q q el_22 q) q<|ov (g_loadRA q q q q ag_137 sz_137 q q) q<|ob (g_alloc q q q zr_137) q q<|Ops.step q (s_storeB q q q q q q sz_137 q q)<|on0<|Sq.n<|W.seq<|W.seq<|W.region<|ov (g_fld q q q q fl_54_1) q<|ov (g_load1 q q q q q q ag_23) q<|ov (g_lenM (l := v1.strength) (enc := eI) q ul_23 q q q) q<|vm q q q q q<|on0<|Sq.n<|W.block<|W.loop (σ := Nat × Int) (fun s => (⟨[(2, .box 2 0), (3, .box 3 0), (5, .box 5 0), (24, .pv (.sl (List.map eI v1.strength))), (25, .pv (.val (.int .i64 (v1.strength.length : Int)))), (26, .pv (.i s.2))], [(2, 27, [.pv (.sl (List.map cAcid v0.acids)), .pv (.i v0.known), .pv (.i v0.hours), .pv (.sl (List.map eI v0.adds)), .pv (.sl (List.map cStrip v0.strips)), .pv (.sl (List.map cBatch v0.batches))]), (3, 54, [.pv (.i v1.acid), .pv (.sl (List.map eI v1.strength))]), (5, 137, [.pv (.i v102.strength.low), .pv (.i v102.strength.high), .pv (.i v102.fall.low), .pv (.i v102.fall.high)])], []⟩ : Env)) (fun s => s_117_l1 n v0 v1 v102 s.1 s.2 = some r) (fun s => s.1) (n, 0) h (has_mk ⟨q, q, q, q, q, q, trivial⟩ ⟨q, q, q, trivial⟩ trivial q) ?_
  rintro ⟨k1, v110⟩ h
  change s_117_l1 n v0 v1 v102 k1 v110 = some r at h
  rcases k1 with _ | k1
  ·rw [s_117_l1] at h
   cases h
  ·rw [s_117_l1] at h
   change W _ _ (⟨[(2, .box 2 0), (3, .box 3 0), (5, .box 5 0), (24, .pv (.sl (List.map eI v1.strength))), (25, .pv (.val (.int .i64 (v1.strength.length : Int)))), (26, .pv (.i v110))], [(2, 27, [.pv (.sl (List.map cAcid v0.acids)), .pv (.i v0.known), .pv (.i v0.hours), .pv (.sl (List.map eI v0.adds)), .pv (.sl (List.map cStrip v0.strips)), .pv (.sl (List.map cBatch v0.batches))]), (3, 54, [.pv (.i v1.acid), .pv (.sl (List.map eI v1.strength))]), (5, 137, [.pv (.i v102.strength.low), .pv (.i v102.strength.high), .pv (.i v102.fall.low), .pv (.i v102.fall.high)])], []⟩ : Env) _
   refine W.seq<|W.region<|ov (g_lss q q q q q) q<|on0<|Sq.n<|W.seq<|W.cond (b := (decide (v110 < (v1.strength.length : Int)))) q (fun hc => ?_) (fun hc => ?_)
   ·have h := bif_t h hc
    refine W.skip<|Sq.n<|W.seq<|W.block<|W.seq<|W.region<|vm q q q q q ?_
    obtain ⟨v118, e118, h⟩ := bind_some h
    refine ov (g_idxI (l := v1.strength) (enc := eI) e118 q q q q q el_23 q) q<|ov (g_loadR1 q q q q q ag_3) q<|va q q q q q<|va q q q q q<|on0<|Sq.n<|W.seq<|W.draw (m := 7) Checked.mixed (Pre.v (GSG.of q (g_fld q q q q fl_137_0)) ((Pre.v (GSG.of q (g_fld q q q q fl_57_0)) ((Pre.v (GSG.of q (g_load1 q q q q q q ag_3)) ((Pre.v (GSG.of q (g_fld q q q q fl_137_0)) ((Pre.v (GSG.of q (g_fld q q q q fl_57_1)) ((Pre.v (GSG.of q (g_load1 q q q q q q ag_3)) ((Pre.v (GSG.of q (g_assign q q q q)) (Pre.nil _)))))))))))))) (by kernel_rfl)<|va q q q q q<|on0<|Sq.n<|W.seqJ (σ := Int × Int) (fun s => (⟨[(2, .box 2 0), (3, .box 3 0), (5, .box 5 0), (6, .pv (.i v110)), (7, .pv (.i v118)), (8, .pv (.i s.1)), (9, .pv (.i s.2)), (24, .pv (.sl (List.map eI v1.strength))), (25, .pv (.val (.int .i64 (v1.strength.length : Int)))), (26, .pv (.i v110))], [(2, 27, [.pv (.sl (List.map cAcid v0.acids)), .pv (.i v0.known), .pv (.i v0.hours), .pv (.sl (List.map eI v0.adds)), .pv (.sl (List.map cStrip v0.strips)), .pv (.sl (List.map cBatch v0.batches))]), (3, 54, [.pv (.i v1.acid), .pv (.sl (List.map eI v1.strength))]), (5, 137, [.pv (.i v102.strength.low), .pv (.i v102.strength.high), .pv (.i v102.fall.low), .pv (.i v102.fall.high)])], []⟩ : Env)) (fun s => s_117_j4 n (s_117_l1 n v0 v1 v102 k1) v0 v110 v118 s.1 s.2 = some r) ?_ ?_
    ·refine W.seq<|W.region<|vm q q q q q<|ov (g_gtr q q q q q) q<|on0<|Sq.n<|W.cond (b := (decide (0 < v110))) q (fun hc => ?_) (fun hc => ?_)
     ·have h := bif_t h hc
      refine W.seq<|W.region<|ov (g_fld q q q q fl_54_1) q<|ov (g_load1 q q q q q q ag_23) q<|vm q q q q q<|ov (g_sub q q q q q) q ?_
      obtain ⟨v119, e119, h⟩ := bind_some h
      refine ov (g_idxI (l := v1.strength) (enc := eI) e119 q q q q q el_23 q) q<|ov (g_loadR1 q q q q q ag_3) q<|va q q q q q<|on0<|Sq.n<|W.draw (m := 13) Checked.mixed (Pre.v (GSG.of q (g_move q q q q)) ((Pre.v (GSG.of q (g_fld q q q q fl_137_1)) ((Pre.v (GSG.of q (g_fld q q q q fl_57_1)) ((Pre.v (GSG.of q (g_load1 q q q q q q ag_3)) ((Pre.v (GSG.of q (g_sub q q q q q)) ((Pre.v (GSG.of q (g_max q q q q q)) ((Pre.v (GSG.of q (g_move q q q q)) ((Pre.v (GSG.of q (g_fld q q q q fl_137_1)) ((Pre.v (GSG.of q (g_fld q q q q fl_57_0)) ((Pre.v (GSG.of q (g_load1 q q q q q q ag_3)) ((Pre.v (GSG.of q (g_sub q q q q q)) ((Pre.v (GSG.of q (g_max q q q q q)) ((Pre.v (GSG.of q (g_assign q q q q)) (Pre.nil _)))))))))))))))))))))))))) (by kernel_rfl)<|va q q q q q<|on0<|Sq.n<|⟨(max 0 (wr (v119 - v102.fall.high)), max 0 (wr (v119 - v102.fall.low))), h, has_mk ⟨q, q, q, q, q, q, q, q, q, q, trivial⟩ ⟨q, q, q, trivial⟩ trivial q⟩
     ·have h := bif_f h hc
      refine W.skip<|Sq.n<|⟨(v102.strength.low, v102.strength.high), h, has_mk ⟨q, q, q, q, q, q, q, q, q, q, trivial⟩ ⟨q, q, q, trivial⟩ trivial q⟩
    ·rintro ⟨v120, v121⟩ h
     change s_117_j4 n (s_117_l1 n v0 v1 v102 k1) v0 v110 v118 v120 v121 = some r at h
     unfold s_117_j4 at h
     change W _ _ (⟨[(2, .box 2 0), (3, .box 3 0), (5, .box 5 0), (6, .pv (.i v110)), (7, .pv (.i v118)), (8, .pv (.i v120)), (9, .pv (.i v121)), (24, .pv (.sl (List.map eI v1.strength))), (25, .pv (.val (.int .i64 (v1.strength.length : Int)))), (26, .pv (.i v110))], [(2, 27, [.pv (.sl (List.map cAcid v0.acids)), .pv (.i v0.known), .pv (.i v0.hours), .pv (.sl (List.map eI v0.adds)), .pv (.sl (List.map cStrip v0.strips)), .pv (.sl (List.map cBatch v0.batches))]), (3, 54, [.pv (.i v1.acid), .pv (.sl (List.map eI v1.strength))]), (5, 137, [.pv (.i v102.strength.low), .pv (.i v102.strength.high), .pv (.i v102.fall.low), .pv (.i v102.fall.high)])], []⟩ : Env) _
     refine W.seq ?_
     obtain ⟨v122, e122, h⟩ := bind_some h
     obtain ⟨v123, e123, h⟩ := bind_some h
     refine W.draw (m := 15) Checked.mixed (Pre.v (GSG.of q (g_move q q q q)) ((Pre.v (GSG.of q (g_move q q q q)) ((Pre.v (GSG.of q (g_fld q q q q fl_27_3)) ((Pre.v (GSG.of q (g_load1 q q q q q q ag_23)) ((Pre.v (GSG.of q (g_move q q q q)) ((Pre.v (GSG.of q (g_idxI (l := v0.adds) (enc := eI) e122 q q q q q el_23 q)) ((Pre.v (GSG.of q (g_loadR1 q q q q q ag_3)) ((Pre.v (GSG.of q (g_add q q q q q)) ((Pre.v (GSG.of q (g_move q q q q)) ((Pre.v (GSG.of q (g_fld q q q q fl_27_3)) ((Pre.v (GSG.of q (g_load1 q q q q q q ag_23)) ((Pre.v (GSG.of q (g_move q q q q)) ((Pre.v (GSG.of q (g_idxI (l := v0.adds) (enc := eI) e123 q q q q q el_23 q)) ((Pre.v (GSG.of q (g_loadR1 q q q q q ag_3)) ((Pre.v (GSG.of q (g_add q q q q q)) (Pre.nil _)))))))))))))))))))))))))))))) (by kernel_rfl) ?_
     obtain ⟨v124, e124, h⟩ := bind_some h
     refine ov (g_call q q q ca_87 q (c_87 _ _ _ _ e124)) q<|ov (g_not q q q q) q<|on0<|Sq.n<|W.cond (b := (!v124)) q (fun hc => ?_) (fun hc => ?_)
     ·have h := bif_t h hc
      refine W.seq<|W.region<|va q q q q q<|on0<|Sq.n<|W.ret<|Bl.r<|Sq.r<|Sq.r<|Bl.r<|Sq.r ?_
      obtain rfl := Option.some.inj h
      exact Fin.r q (.cons (.tmp _ _ q) .nil) q
     ·have h := bif_f h hc
      exact W.skip<|Bl.n<|Sq.n<|W.region<|ov (g_add q q q q q) q<|vm q q q q q<|on0<|Sq.n<|⟨(k1, wr (v110 + 1)), h, Nat.lt_succ_self _, has_mk ⟨q, q, q, q, q, q, trivial⟩ ⟨q, q, q, trivial⟩ trivial q⟩
   ·have h := bif_f h hc
    refine W.exit<|Sq.e<|Sq.e<|Bl.e<|Sq.n<|W.seq<|W.region<|ov (g_fld q q q q fl_27_4) q<|ov (g_load1 q q q q q q ag_24) q<|Ops.conv (Conv.freeze (k := 3) (cs := [.val (.int .i64 v1.acid), .sl (List.map eI v1.strength)]) q)<|ov (g_makeFunc q q q q q) q ?_
    obtain ⟨v125, e125, h⟩ := bind_some h
    refine ov (g_call q q q ca_95 q (c_95 _ _ _ ca_165 (fun _ y e => c_165 _ _ _ e) e125)) q<|ov (g_not q q q q) q<|va q q q q q<|on0<|Sq.n<|W.ret ?_
    obtain rfl := Option.some.inj h
    exact Fin.r q (.cons (.tmp _ _ q) .nil) q
end Go.Proofs.YtohmhlkdgfcaeaaGreatDoor
namespace Go.Proofs.YtohmhlkdgfcaeaaGreatDoor
open Go Go.RowKit
set_option maxRecDepth 4000
attribute [local irreducible] W Ops GS GSG
def s_80_l1 (n : Nat) (v0 : Drum) : Nat → Int → (List Int) → Option ((List Int))
| 0, _, _ => none
| k1 + 1, v107, v108 => bif (decide (v107 < (v0.acids.length : Int))) then ( (s_90 n v0 v107).bind fun v111 => bif v111.2 then ( (app v108 ([v107])).bind fun v112 => (s_80_l1 n v0 k1) (wr (v107 + 1)) v112 ) else ( (s_80_l1 n v0 k1) (wr (v107 + 1)) v108 ) ) else ( some (v108) )
def s_80 (n : Nat) (v0 : Drum) : Option ((List Int)) := s_80_l1 n v0 n 0 []
theorem c_80 (n : Nat) (v0 : Drum) {r : ((List Int))} (h : s_80 n v0 = some r) :
  Fun Tryz.prog 80 [.agg (cDrum v0)] (.ret (.sl (r.map eI))) := by
 unfold s_80 at h
 refine enterW 26 Tryz.func80 q q q ?_
 intro w0 F0
 change W _ _ (Ev [(0, .pv (.agg (cDrum v0)))]) _
 refine W.seq<|W.region<|ob (g_box q q q q q) q q<|va q q q q q<|on0<|Sq.n<|W.seq<|W.region<|va q q q q q<|on0<|Sq.n<|W.seq<|W.seq<|W.region<|va q q q q q<|on0<|Sq.n<|W.block<|W.conv (Conv.nilrow 3 24 3 1 q q)<|W.loop (σ := Nat × Int × (List Int)) (fun s => (⟨[(1, .box 1 0), (3, .row 24), (4, .pv (.i s.2.1))], [(1, 27, [.pv (.sl (List.map cAcid v0.acids)), .pv (.i v0.known), .pv (.i v0.hours), .pv (.sl (List.map eI v0.adds)), .pv (.sl (List.map cStrip v0.strips)), .pv (.sl (List.map cBatch v0.batches))])], [(24, ⟨3, 1, List.map eI s.2.2⟩)]⟩ : Env)) (fun s => s_80_l1 n v0 s.1 s.2.1 s.2.2 = some r) (fun s => s.1) (n, 0, []) h (has_mk ⟨q, q, q, trivial⟩ ⟨q, trivial⟩ ⟨q, trivial⟩ q) ?_
 rintro ⟨k1, v107, v108⟩ h
 change s_80_l1 n v0 k1 v107 v108 = some r at h
 rcases k1 with _ | k1
 ·rw [s_80_l1] at h
  cases h
 ·rw [s_80_l1] at h
  change W _ _ (⟨[(1, .box 1 0), (3, .row 24), (4, .pv (.i v107))], [(1, 27, [.pv (.sl (List.map cAcid v0.acids)), .pv (.i v0.known), .pv (.i v0.hours), .pv (.sl (List.map eI v0.adds)), .pv (.sl (List.map cStrip v0.strips)), .pv (.sl (List.map cBatch v0.batches))])], [(24, ⟨3, 1, List.map eI v108⟩)]⟩ : Env) _
  refine W.seq<|W.seq<|W.region<|vm q q q q q<|ov (g_fld q q q q fl_27_0) q<|ov (g_load1 q q q q q q ag_22) q<|ov (g_lenM (l := v0.acids) (enc := cAcid) q ul_22 q q q) q<|ov (g_lss q q q q q) q<|on0<|Sq.n<|W.cond (b := (decide (v107 < (v0.acids.length : Int)))) q (fun hc => ?_) (fun hc => ?_)
  ·have h := bif_t h hc
   refine W.skip<|Sq.n<|W.seq<|W.block<|W.seq<|W.region<|ov (g_loadA q q q q q ag_27 sz_27 q q) q<|vm q q q q q ?_
   obtain ⟨v111, e111, h⟩ := bind_some h
   refine ov (g_call q q q ca_90 q (c_90 _ _ _ e111)) q<|vm q q q q q<|ov (g_extract q q q q q) q<|ov (g_extract q q q q q) q<|va q q q q q<|va q q q q q<|on0<|Sq.n<|W.seq<|W.region<|vm q q q q q<|on0<|Sq.n<|W.cond (b := v111.2) q (fun hc => ?_) (fun hc => ?_)
   ·have h := bif_t h hc
    refine W.region<|vm q q q q q<|vm q q q q q<|Ops.r (g_buildSlice (cs := [.val (.int .i64 v107)]) (es := List.map eI [v107]) q q q el_23 ⟨_, zr_3⟩ q q q q q q) q q ?_
    obtain ⟨v112, e112, h⟩ := bind_some h
    exact Ops.step q (s_appendR (enc := eI) e112 q q q q q q q q ex_23 (fun _ => q))<|va q q q q q<|on0<|Bl.n<|Sq.n<|W.region<|vm q q q q q<|ov (g_add q q q q q) q<|va q q q q q<|on0<|Sq.n<|⟨(k1, wr (v107 + 1), v112), h, Nat.lt_succ_self _, has_mk ⟨q, q, q, trivial⟩ ⟨q, trivial⟩ ⟨q, trivial⟩ q⟩
   ·have h := bif_f h hc
    exact W.skip<|Bl.n<|Sq.n<|W.region<|vm q q q q q<|ov (g_add q q q q q) q<|va q q q q q<|on0<|Sq.n<|⟨(k1, wr (v107 + 1), v108), h, Nat.lt_succ_self _, has_mk ⟨q, q, q, trivial⟩ ⟨q, trivial⟩ ⟨q, trivial⟩ q⟩
  ·have h := bif_f h hc
   refine W.exit<|Sq.e<|Sq.e<|Bl.e<|Sq.n<|W.seq<|W.region<|vm q q q q q<|va q q q q q<|on0<|Sq.n<|W.share (k := 24) q<|W.ret ?_
   obtain rfl := Option.some.inj h
   exact Fin.r q (.cons (.tmp _ _ q) .nil) q
end Go.Proofs.YtohmhlkdgfcaeaaGreatDoor
namespace Go.Proofs.YtohmhlkdgfcaeaaGreatDoor
open Go Go.RowKit
set_option maxRecDepth 4000
attribute [local irreducible] W Ops GS GSG
def s_89 (n : Nat) (v0 : Drum) : Option (Bool) := (s_80 n v0).bind fun v101 => some ((decide (0 < (v101.length : Int))))
theorem c_89 (n : Nat) (v0 : Drum) {r : (Bool)} (h : s_89 n v0 = some r) :
  Fun Tryz.prog 89 [.agg (cDrum v0)] (.ret (.b r)) := by
 unfold s_89 at h
 refine enterW 7 Tryz.func89 q q q ?_
 intro w0 F0
 change W _ _ (Ev [(0, .pv (.agg (cDrum v0)))]) _
 refine W.seq<|W.region<|ob (g_box q q q q q) q q<|va q q q q q<|on0<|Sq.n<|W.seq<|W.region<|ov (g_loadA q q q q q ag_27 sz_27 q q) q ?_
 obtain ⟨v101, e101, h⟩ := bind_some h
 refine ov (g_call q q q ca_80 q (c_80 _ _ e101)) q<|ov (g_lenM (l := v101) (enc := eI) q ul_23 q q q) q<|ov (g_gtr q q q q q) q<|va q q q q q<|on0<|Sq.n<|W.ret ?_
 obtain rfl := Option.some.inj h
 exact Fin.r q (.cons (.tmp _ _ q) .nil) q
def s_94_j4 (K1 : Int → Bounds → Option (Bounds)) (v111 : Int) (v126 : State) (v129 : State) (v130 : Bounds) : Option (Bounds) := K1 (wr (v111 + 1)) (Bounds.mk (Span.mk (min v130.rough.low v129.rough) (max v130.rough.high v126.rough)) (Span.mk (min v130.thick.low v129.thick) (max v130.thick.high v126.thick)))
def s_94_l1 (n : Nat) (v0 : Drum) (v1 : Int) (v2 : Int) (v101 : (List Int)) : Nat → Int → Bounds → Option (Bounds)
| 0, _, _ => none
| k1 + 1, v111, v112 => bif (decide (v111 < (v101.length : Int))) then ( (ix v101 v111).bind fun v122 => (s_90 n v0 v122).bind fun v123 => (ix v0.batches v1).bind fun v124 => (s_73 n v123.1 false).bind fun v125 => (s_140 n v124 v125 v2).bind fun v126 => (ix v0.batches v1).bind fun v127 => (s_73 n v123.1 true).bind fun v128 => (s_140 n v127 v128 v2).bind fun v129 =>
 bif (decide (v111 = 0)) then ( s_94_j4 (s_94_l1 n v0 v1 v2 v101 k1) v111 v126 v129 (Bounds.mk (Span.mk v129.rough v126.rough) (Span.mk v129.thick v126.thick)) ) else ( s_94_j4 (s_94_l1 n v0 v1 v2 v101 k1) v111 v126 v129 v112 ) ) else ( some (v112) )
def s_94 (n : Nat) (v0 : Drum) (v1 : Int) (v2 : Int) : Option (Bounds) := (s_80 n v0).bind fun v101 => s_94_l1 n v0 v1 v2 v101 n 0 (Bounds.mk (Span.mk 0 0) (Span.mk 0 0))
theorem c_94 (n : Nat) (v0 : Drum) (v1 : Int) (v2 : Int) {r : (Bounds)} (h : s_94 n v0 v1 v2 = some r) :
  Fun Tryz.prog 94 [.agg (cDrum v0), .val (.int .i64 v1), .val (.int .i64 v2)] (.ret (.agg (cBounds r))) := by
 unfold s_94 at h
 refine enterW 91 Tryz.func94 q q q ?_
 intro w0 F0
 change W _ _ (Ev [(0, .pv (.agg (cDrum v0))), (1, .pv (.i v1)), (2, .pv (.i v2))]) _
 refine W.seq<|W.region<|ob (g_box q q q q q) q q<|ob (g_alloc q q q zr_71) q q<|on0<|Sq.n<|W.seq<|W.region<|ob (g_alloc q q q zr_71) q q<|on0<|Sq.n<|W.seq<|W.region<|ov (g_loadA q q q q q ag_27 sz_27 q q) q ?_
 obtain ⟨v101, e101, h⟩ := bind_some h
 refine ov (g_call q q q ca_80 q (c_80 _ _ e101)) q<|va q q q q q<|on0<|Sq.n<|W.seq<|W.seq<|W.region<|va q q q q q<|on0<|Sq.n<|W.block<|W.loop (σ := Nat × Int × Bounds) (fun s => (⟨[(1, .pv (.i v1)), (2, .pv (.i v2)), (3, .box 3 0), (6, .box 6 0), (7, .box 7 0), (8, .pv (.sl (List.map eI v101))), (9, .pv (.i s.2.1))], [(3, 27, [.pv (.sl (List.map cAcid v0.acids)), .pv (.i v0.known), .pv (.i v0.hours), .pv (.sl (List.map eI v0.adds)), .pv (.sl (List.map cStrip v0.strips)), .pv (.sl (List.map cBatch v0.batches))]), (6, 71, [.pv (.i 0), .pv (.i 0), .pv (.i 0), .pv (.i 0)]), (7, 71, [.pv (.i s.2.2.rough.low), .pv (.i s.2.2.rough.high), .pv (.i s.2.2.thick.low), .pv (.i s.2.2.thick.high)])], []⟩ : Env)) (fun s => s_94_l1 n v0 v1 v2 v101 s.1 s.2.1 s.2.2 = some r) (fun s => s.1) (n, 0, (Bounds.mk (Span.mk 0 0) (Span.mk 0 0))) h (has_mk ⟨q, q, q, q, q, q, q, trivial⟩ ⟨q, q, q, trivial⟩ trivial q) ?_
 rintro ⟨k1, v111, v112⟩ h
 change s_94_l1 n v0 v1 v2 v101 k1 v111 v112 = some r at h
 rcases k1 with _ | k1
 ·rw [s_94_l1] at h
  cases h
 ·rw [s_94_l1] at h
  change W _ _ (⟨[(1, .pv (.i v1)), (2, .pv (.i v2)), (3, .box 3 0), (6, .box 6 0), (7, .box 7 0), (8, .pv (.sl (List.map eI v101))), (9, .pv (.i v111))], [(3, 27, [.pv (.sl (List.map cAcid v0.acids)), .pv (.i v0.known), .pv (.i v0.hours), .pv (.sl (List.map eI v0.adds)), .pv (.sl (List.map cStrip v0.strips)), .pv (.sl (List.map cBatch v0.batches))]), (6, 71, [.pv (.i 0), .pv (.i 0), .pv (.i 0), .pv (.i 0)]), (7, 71, [.pv (.i v112.rough.low), .pv (.i v112.rough.high), .pv (.i v112.thick.low), .pv (.i v112.thick.high)])], []⟩ : Env) _
  refine W.seq<|W.seq<|W.region<|vm q q q q q<|vm q q q q q<|ov (g_lenM (l := v101) (enc := eI) q ul_23 q q q) q<|ov (g_lss q q q q q) q<|on0<|Sq.n<|W.cond (b := (decide (v111 < (v101.length : Int)))) q (fun hc => ?_) (fun hc => ?_)
  ·have h := bif_t h hc
   refine W.skip<|Sq.n<|W.seq<|W.block<|W.seq ?_
   obtain ⟨v122, e122, h⟩ := bind_some h
   obtain ⟨v123, e123, h⟩ := bind_some h
   refine W.draw (m := 10) Checked.mixed (Pre.v (GSG.of q (g_loadA q q q q q ag_27 sz_27 q q)) ((Pre.v (GSG.of q (g_move q q q q)) ((Pre.v (GSG.of q (g_move q q q q)) ((Pre.v (GSG.of q (g_idxI (l := v101) (enc := eI) e122 q q q q q el_23 q)) ((Pre.v (GSG.of q (g_loadR1 q q q q q ag_3)) ((Pre.v (GSG.of q (g_call q q q ca_90 q (c_90 _ _ _ e123))) ((Pre.v (GSG.of q (g_move q q q q)) ((Pre.v (GSG.of q (g_extract q q q q q)) ((Pre.v (GSG.of q (g_extract q q q q q)) ((Pre.v (GSG.of q (g_assign q q q q)) (Pre.nil _)))))))))))))))))))) (by kernel_rfl)<|va q q q q q<|on0<|Sq.n<|W.seq ?_
   obtain ⟨v124, e124, h⟩ := bind_some h
   obtain ⟨v125, e125, h⟩ := bind_some h
   obtain ⟨v126, e126, h⟩ := bind_some h
   obtain ⟨v127, e127, h⟩ := bind_some h
   obtain ⟨v128, e128, h⟩ := bind_some h
   obtain ⟨v129, e129, h⟩ := bind_some h
   refine W.draw (m := 20) Checked.mixed (Pre.v (GSG.of q (g_fld q q q q fl_27_5)) ((Pre.v (GSG.of q (g_load1 q q q q q q ag_25)) ((Pre.v (GSG.of q (g_move q q q q)) ((Pre.v (GSG.of q (g_idxI (l := v0.batches) (enc := cBatch) e124 q q q q q el_25 q)) ((Pre.v (GSG.of q (g_loadRA q q q q ag_67 sz_67 q q)) ((Pre.v (GSG.of q (g_move q q q q)) ((Pre.v (GSG.of q (g_call q q q ca_73 q (c_73 _ _ _ e125))) ((Pre.v (GSG.of q (g_move q q q q)) ((Pre.v (GSG.of q (g_call q q q ca_140 q (c_140 _ _ _ _ e126))) ((Pre.v (GSG.of q (g_fld q q q q fl_27_5)) ((Pre.v (GSG.of q (g_load1 q q q q q q ag_25)) ((Pre.v (GSG.of q (g_move q q q q)) ((Pre.v (GSG.of q (g_idxI (l := v0.batches) (enc := cBatch) e127 q q q q q el_25 q)) ((Pre.v (GSG.of q (g_loadRA q q q q ag_67 sz_67 q q)) ((Pre.v (GSG.of q (g_move q q q q)) ((Pre.v (GSG.of q (g_call q q q ca_73 q (c_73 _ _ _ e128))) ((Pre.v (GSG.of q (g_move q q q q)) ((Pre.v (GSG.of q (g_call q q q ca_140 q (c_140 _ _ _ _ e129))) ((Pre.b (GSG.of q (g_alloc q q q zr_69)) q ((Pre.b (GSG.of q (g_alloc q q q zr_69)) q (Pre.nil _)))))))))))))))))))))))))))))))))))))))) (by kernel_rfl)<|Ops.step q (s_storeB q q q q q q sz_69 q q)<|Ops.step q (s_storeB q q q q q q sz_69 q q)<|on0<|Sq.n<|W.seqJ (σ := Bounds) (fun s => (⟨[(1, .pv (.i v1)), (2, .pv (.i v2)), (3, .box 3 0), (6, .box 6 0), (7, .box 7 0), (8, .pv (.sl (List.map eI v101))), (9, .pv (.i v111)), (12, .box 12 0), (13, .box 13 0)], [(3, 27, [.pv (.sl (List.map cAcid v0.acids)), .pv (.i v0.known), .pv (.i v0.hours), .pv (.sl (List.map eI v0.adds)), .pv (.sl (List.map cStrip v0.strips)), .pv (.sl (List.map cBatch v0.batches))]), (6, 71, [.pv (.i 0), .pv (.i 0), .pv (.i 0), .pv (.i 0)]), (7, 71, [.pv (.i s.rough.low), .pv (.i s.rough.high), .pv (.i s.thick.low), .pv (.i s.thick.high)]), (12, 69, [.pv (.i v126.rough), .pv (.i v126.thick)]), (13, 69, [.pv (.i v129.rough), .pv (.i v129.thick)])], []⟩ : Env)) (fun s => s_94_j4 (s_94_l1 n v0 v1 v2 v101 k1) v111 v126 v129 s = some r) ?_ ?_
   ·refine W.seq<|W.region<|vm q q q q q<|ov (g_eql q q q q q) q<|on0<|Sq.n<|W.cond (b := (decide (v111 = 0))) q (fun hc => ?_) (fun hc => ?_)
    ·have h := bif_t h hc
     refine W.region<|ov (g_fld q q q q fl_69_0) q<|ov (g_load1 q q q q q q ag_3) q<|ov (g_fld q q q q fl_69_0) q<|ov (g_load1 q q q q q q ag_3) q<|ov (g_build (cs := (cSpan (Span.mk v129.rough v126.rough))) q q q zr_57 st_57 q q) q<|ov (g_fld q q q q fl_69_1) q<|ov (g_load1 q q q q q q ag_3) q<|ov (g_fld q q q q fl_69_1) q<|ov (g_load1 q q q q q q ag_3) q<|ov (g_build (cs := (cSpan (Span.mk v129.thick v126.thick))) q q q zr_57 st_57 q q) q<|ov (g_build (cs := (cBounds (Bounds.mk (Span.mk v129.rough v126.rough) (Span.mk v129.thick v126.thick)))) q q q zr_71 st_71 q q) q<|Ops.step q (s_storeB q q q q q q sz_71 q q)<|on0<|Sq.n<|⟨(Bounds.mk (Span.mk v129.rough v126.rough) (Span.mk v129.thick v126.thick)), h, has_mk ⟨q, q, q, q, q, q, q, q, q, trivial⟩ ⟨q, q, q, q, q, trivial⟩ trivial q⟩
    ·have h := bif_f h hc
     refine W.skip<|Sq.n<|⟨v112, h, has_mk ⟨q, q, q, q, q, q, q, q, q, trivial⟩ ⟨q, q, q, q, q, trivial⟩ trivial q⟩
   ·rintro v130 h
    change s_94_j4 (s_94_l1 n v0 v1 v2 v101 k1) v111 v126 v129 v130 = some r at h
    unfold s_94_j4 at h
    change W _ _ (⟨[(1, .pv (.i v1)), (2, .pv (.i v2)), (3, .box 3 0), (6, .box 6 0), (7, .box 7 0), (8, .pv (.sl (List.map eI v101))), (9, .pv (.i v111)), (12, .box 12 0), (13, .box 13 0)], [(3, 27, [.pv (.sl (List.map cAcid v0.acids)), .pv (.i v0.known), .pv (.i v0.hours), .pv (.sl (List.map eI v0.adds)), .pv (.sl (List.map cStrip v0.strips)), .pv (.sl (List.map cBatch v0.batches))]), (6, 71, [.pv (.i 0), .pv (.i 0), .pv (.i 0), .pv (.i 0)]), (7, 71, [.pv (.i v130.rough.low), .pv (.i v130.rough.high), .pv (.i v130.thick.low), .pv (.i v130.thick.high)]), (12, 69, [.pv (.i v126.rough), .pv (.i v126.thick)]), (13, 69, [.pv (.i v129.rough), .pv (.i v129.thick)])], []⟩ : Env) _
    exact W.seq<|W.region<|ov (g_fld q q q q fl_71_0) q<|ov (g_fld q q q q fl_57_0) q<|ov (g_load1 q q q q q q ag_3) q<|ov (g_fld q q q q fl_69_0) q<|ov (g_load1 q q q q q q ag_3) q<|ov (g_min q q q q q) q<|ov (g_fld q q q q fl_71_0) q<|ov (g_fld q q q q fl_57_1) q<|ov (g_load1 q q q q q q ag_3) q<|ov (g_fld q q q q fl_69_0) q<|ov (g_load1 q q q q q q ag_3) q<|ov (g_max q q q q q) q<|ov (g_build (cs := (cSpan (Span.mk (min v130.rough.low v129.rough) (max v130.rough.high v126.rough)))) q q q zr_57 st_57 q q) q<|ov (g_fld q q q q fl_71_0) q<|Ops.step q (s_storeB q q q q q q sz_57 q q)<|on0<|Sq.n<|W.region<|ov (g_fld q q q q fl_71_1) q<|ov (g_fld q q q q fl_57_0) q<|ov (g_load1 q q q q q q ag_3) q<|ov (g_fld q q q q fl_69_1) q<|ov (g_load1 q q q q q q ag_3) q<|ov (g_min q q q q q) q<|ov (g_fld q q q q fl_71_1) q<|ov (g_fld q q q q fl_57_1) q<|ov (g_load1 q q q q q q ag_3) q<|ov (g_fld q q q q fl_69_1) q<|ov (g_load1 q q q q q q ag_3) q<|ov (g_max q q q q q) q<|ov (g_build (cs := (cSpan (Span.mk (min v130.thick.low v129.thick) (max v130.thick.high v126.thick)))) q q q zr_57 st_57 q q) q<|ov (g_fld q q q q fl_71_1) q<|Ops.step q (s_storeB q q q q q q sz_57 q q)<|on0<|Bl.n<|Sq.n<|W.region<|vm q q q q q<|ov (g_add q q q q q) q<|va q q q q q<|on0<|Sq.n<|⟨(k1, wr (v111 + 1), (Bounds.mk (Span.mk (min v130.rough.low v129.rough) (max v130.rough.high v126.rough)) (Span.mk (min v130.thick.low v129.thick) (max v130.thick.high v126.thick)))), h, Nat.lt_succ_self _, has_mk ⟨q, q, q, q, q, q, q, trivial⟩ ⟨q, q, q, trivial⟩ trivial q⟩
  ·have h := bif_f h hc
   refine W.exit<|Sq.e<|Sq.e<|Bl.e<|Sq.n<|W.seq<|W.region<|ov (g_loadA q q q q q ag_71 sz_71 q q) q<|Ops.step q (s_storeB q q q q q q sz_71 q q)<|on0<|Sq.n<|W.ret ?_
   obtain rfl := Option.some.inj h
   exact Fin.r q (.cons (.agg _ _ _ _ (cBounds v112) q q ag_71 sz_71) .nil) q
def s_47_l3 (n : Nat) (v0 : Drum) (v1 : Truth) (v2 : Int) : Nat → Int → (List State) → Option ((List State) × Int)
| 0, _, _ => none
| k3 + 1, v117, v118 => bif (decide (v117 < (v0.batches.length : Int))) then ( (ix v0.batches v117).bind fun v122 => (s_118 n v122 v2 (fun z0 => s_119 n z0 v1)).bind fun v123 => (app v118 ([v123])).bind fun v124 => (s_47_l3 n v0 v1 v2 k3) (wr (v117 + 1)) v124 ) else ( some ((v118, 0)) )
def s_47_j1 (n : Nat) (v0 : Drum) (v1 : Truth) (v2 : Int) (v105 : Bool) : Option ((List State) × Int) := bif v105 then ( some (([], 2)) ) else ( s_47_l3 n v0 v1 v2 n 0 [] )
def s_47 (n : Nat) (v0 : Drum) (v1 : Truth) (v2 : Int) : Option ((List State) × Int) := (s_104 n v0).bind fun v101 => bif (!v101) then ( s_47_j1 n v0 v1 v2 true ) else ( (s_116 n v0 v1).bind fun v102 => bif (!v102) then ( s_47_j1 n v0 v1 v2 true ) else ( (s_117 n v0 v1).bind fun v103 => bif (!v103) then ( s_47_j1 n v0 v1 v2 true ) else ( (s_87 n v2 0 v0.hours).bind fun v104 =>
 s_47_j1 n v0 v1 v2 (!v104) ) ) )
theorem c_47 (n : Nat) (v0 : Drum) (v1 : Truth) (v2 : Int) {r : ((List State) × Int)} (h : s_47 n v0 v1 v2 = some r) :
  Fun Tryz.prog 47 [.agg (cDrum v0), .agg (cTruth v1), .val (.int .i64 v2)] (.ret (.tup [.sl (r.1.map cState), .val (.int .i64 r.2)])) := by
 unfold s_47 at h
 refine enterW 51 Tryz.func47 q q q ?_
 intro w0 F0
 change W _ _ (Ev [(0, .pv (.agg (cDrum v0))), (1, .pv (.agg (cTruth v1))), (2, .pv (.i v2))]) _
 refine W.seq<|W.region<|ob (g_box q q q q q) q q<|ob (g_box q q q q q) q q<|va q q q q q<|va q q q q q<|on0<|Sq.n<|W.seq<|W.seqJ (σ := Bool) (fun s => (⟨[(2, .pv (.i v2)), (3, .box 3 0), (4, .box 4 0), (33, .pv (.b s))], [(3, 27, [.pv (.sl (List.map cAcid v0.acids)), .pv (.i v0.known), .pv (.i v0.hours), .pv (.sl (List.map eI v0.adds)), .pv (.sl (List.map cStrip v0.strips)), .pv (.sl (List.map cBatch v0.batches))]), (4, 54, [.pv (.i v1.acid), .pv (.sl (List.map eI v1.strength))])], []⟩ : Env)) (fun s => s_47_j1 n v0 v1 v2 s = some r) ?_ ?_
 ·refine W.region<|ov (g_loadA q q q q q ag_27 sz_27 q q) q ?_
  obtain ⟨v101, e101, h⟩ := bind_some h
  refine ov (g_call q q q ca_104 q (c_104 _ _ e101)) q<|ov (g_not q q q q) q<|vm q q q q q<|Ops.split 15 q (fun hb => ?_) (fun hb => ?_)
  ·have h := bif_t h hb
   refine o2 q q q q q q<|o2 q q q q q q<|o2 q q q q q q<|o2 q q q q q q<|vt q q q q q q<|vm q q q q q<|o2 q q q q q q<|o2 q q q q q q<|o2 q q q q q q<|o2 q q q q q q<|vt q q q q q q<|vm q q q q q<|o2 q q q q q q<|o2 q q q q q q<|o2 q q q q q q<|o2 q q q q q q<|o2 q q q q q q<|vt q q q q q q<|on0<|Sq.n<|⟨true, h, has_mk ⟨q, q, q, q, trivial⟩ ⟨q, q, trivial⟩ trivial q⟩
  ·have h := bif_f h hb
   refine on q q q<|ov (g_loadA q q q q q ag_27 sz_27 q q) q<|on q q q<|ov (g_loadA q q q q q ag_54 sz_54 q q) q<|on q q q ?_
   obtain ⟨v102, e102, h⟩ := bind_some h
   refine ov (g_call q q q ca_116 q (c_116 _ _ _ e102)) q<|on q q q<|ov (g_not q q q q) q<|vf q q q q q q<|vm q q q q q<|Ops.split 21 q (fun hb => ?_) (fun hb => ?_)
   ·have h := bif_t h hb
    refine o2 q q q q q q<|o2 q q q q q q<|o2 q q q q q q<|o2 q q q q q q<|vt q q q q q q<|vm q q q q q<|o2 q q q q q q<|o2 q q q q q q<|o2 q q q q q q<|o2 q q q q q q<|o2 q q q q q q<|vt q q q q q q<|on0<|Sq.n<|⟨true, h, has_mk ⟨q, q, q, q, trivial⟩ ⟨q, q, trivial⟩ trivial q⟩
   ·have h := bif_f h hb
    refine on q q q<|ov (g_loadA q q q q q ag_27 sz_27 q q) q<|on q q q<|ov (g_loadA q q q q q ag_54 sz_54 q q) q<|on q q q ?_
    obtain ⟨v103, e103, h⟩ := bind_some h
    refine ov (g_call q q q ca_117 q (c_117 _ _ _ e103)) q<|on q q q<|ov (g_not q q q q) q<|vf q q q q q q<|vm q q q q q<|Ops.split 27 q (fun hb => ?_) (fun hb => ?_)
    ·have h := bif_t h hb
     refine o2 q q q q q q<|o2 q q q q q q<|o2 q q q q q q<|o2 q q q q q q<|o2 q q q q q q<|vt q q q q q q<|on0<|Sq.n<|⟨true, h, has_mk ⟨q, q, q, q, trivial⟩ ⟨q, q, trivial⟩ trivial q⟩
    ·have h := bif_f h hb
     refine on q q q<|vm q q q q q<|on q q q<|ov (g_fld q q q q fl_27_2) q<|on q q q<|ov (g_load1 q q q q q q ag_3) q<|on q q q ?_
     obtain ⟨v104, e104, h⟩ := bind_some h
     refine ov (g_call q q q ca_87 q (c_87 _ _ _ _ e104)) q<|on q q q<|ov (g_not q q q q) q<|vf q q q q q q<|on0<|Sq.n<|⟨(!v104), h, has_mk ⟨q, q, q, q, trivial⟩ ⟨q, q, trivial⟩ trivial q⟩
 ·rintro v105 h
  change s_47_j1 n v0 v1 v2 v105 = some r at h
  unfold s_47_j1 at h
  change W _ _ (⟨[(2, .pv (.i v2)), (3, .box 3 0), (4, .box 4 0), (33, .pv (.b v105))], [(3, 27, [.pv (.sl (List.map cAcid v0.acids)), .pv (.i v0.known), .pv (.i v0.hours), .pv (.sl (List.map eI v0.adds)), .pv (.sl (List.map cStrip v0.strips)), .pv (.sl (List.map cBatch v0.batches))]), (4, 54, [.pv (.i v1.acid), .pv (.sl (List.map eI v1.strength))])], []⟩ : Env) _
  refine W.cond (b := v105) q (fun hc => ?_) (fun hc => ?_)
  ·have h := bif_t h hc
   refine W.seq<|W.region<|va q q q q q<|va q q q q q<|on0<|Sq.n<|W.conv (Conv.nilsl 6 q)<|W.ret<|Sq.r ?_
   obtain rfl := Option.some.inj h
   exact Fin.r q (.cons (.tmp _ _ q) (.cons (.tmp _ _ q) .nil)) q
  ·have h := bif_f h hc
   refine W.skip<|Sq.n<|W.seq<|W.region<|va q q q q q<|on0<|Sq.n<|W.seq<|W.seq<|W.region<|ov (g_fld q q q q fl_27_5) q<|ov (g_load1 q q q q q q ag_25) q<|ov (g_lenM (l := v0.batches) (enc := cBatch) q ul_25 q q q) q<|vm q q q q q<|on0<|Sq.n<|W.block<|W.conv (Conv.freeze (k := 4) (cs := [.val (.int .i64 v1.acid), .sl (List.map eI v1.strength)]) q)<|W.conv (Conv.nilrow 8 48 69 2 q q)<|W.loop (σ := Nat × Int × (List State)) (fun s => (⟨[(2, .pv (.i v2)), (4, .pv (.ref [.val (.int .i64 v1.acid), .sl (List.map eI v1.strength)])), (8, .row 48), (35, .pv (.sl (List.map cBatch v0.batches))), (36, .pv (.val (.int .i64 (v0.batches.length : Int)))), (37, .pv (.i s.2.1))], [], [(48, ⟨69, 2, List.map cState s.2.2⟩)]⟩ : Env)) (fun s => s_47_l3 n v0 v1 v2 s.1 s.2.1 s.2.2 = some r) (fun s => s.1) (n, 0, []) h (has_mk ⟨q, q, q, q, q, q, trivial⟩ trivial ⟨q, trivial⟩ q) ?_
   rintro ⟨k3, v117, v118⟩ h
   change s_47_l3 n v0 v1 v2 k3 v117 v118 = some r at h
   rcases k3 with _ | k3
   ·rw [s_47_l3] at h
    cases h
   ·rw [s_47_l3] at h
    change W _ _ (⟨[(2, .pv (.i v2)), (4, .pv (.ref [.val (.int .i64 v1.acid), .sl (List.map eI v1.strength)])), (8, .row 48), (35, .pv (.sl (List.map cBatch v0.batches))), (36, .pv (.val (.int .i64 (v0.batches.length : Int)))), (37, .pv (.i v117))], [], [(48, ⟨69, 2, List.map cState v118⟩)]⟩ : Env) _
    refine W.seq<|W.region<|ov (g_lss q q q q q) q<|on0<|Sq.n<|W.seq<|W.cond (b := (decide (v117 < (v0.batches.length : Int)))) q (fun hc => ?_) (fun hc => ?_)
    ·have h := bif_t h hc
     refine W.skip<|Sq.n<|W.seq<|W.block<|W.seq<|W.region ?_
     obtain ⟨v122, e122, h⟩ := bind_some h
     refine ov (g_idxI (l := v0.batches) (enc := cBatch) e122 q q q q q el_25 q) q<|ov (g_loadRA q q q q ag_67 sz_67 q q) q<|ob (g_alloc q q q zr_67) q q<|Ops.step q (s_storeB q q q q q q sz_67 q q)<|on0<|Sq.n<|W.seq<|W.region<|ov (g_loadA q q q q q ag_67 sz_67 q q) q<|vm q q q q q<|ov (g_makeFunc q q q q q) q ?_
     obtain ⟨v123, e123, h⟩ := bind_some h
     refine ov (g_call q q q ca_118 q (c_118 _ _ _ _ ca_119 (fun _ y e => c_119 _ _ _ e) e123)) q<|ob (g_alloc q q q zr_69) q q<|Ops.step q (s_storeB q q q q q q sz_69 q q)<|on0<|Sq.n<|W.region<|vm q q q q q<|ov (g_loadA q q q q q ag_69 sz_69 q q) q<|Ops.r (g_buildSlice (cs := [.val (.int .i64 v123.rough), .val (.int .i64 v123.thick)]) (es := List.map cState [v123]) q q q el_60 ⟨_, zr_69⟩ q q q q q q) q q ?_
     obtain ⟨v124, e124, h⟩ := bind_some h
     exact Ops.step q (s_appendR (enc := cState) e124 q q q q q q q q ex_60 (fun _ => q))<|va q q q q q<|on0<|Bl.n<|Sq.n<|W.region<|ov (g_add q q q q q) q<|vm q q q q q<|on0<|Sq.n<|⟨(k3, wr (v117 + 1), v124), h, Nat.lt_succ_self _, has_mk ⟨q, q, q, q, q, q, trivial⟩ trivial ⟨q, trivial⟩ q⟩
    ·have h := bif_f h hc
     refine W.exit<|Sq.e<|Sq.e<|Bl.e<|Sq.n<|W.seq<|W.region<|vm q q q q q<|va q q q q q<|va q q q q q<|on0<|Sq.n<|W.share (k := 48) q<|W.ret ?_
     obtain rfl := Option.some.inj h
     exact Fin.r q (.cons (.tmp _ _ q) (.cons (.tmp _ _ q) .nil)) q
end Go.Proofs.YtohmhlkdgfcaeaaGreatDoor
namespace Go.Proofs.YtohmhlkdgfcaeaaGreatDoor
open Go Go.RowKit
set_option maxRecDepth 4000
attribute [local irreducible] W Ops GS GSG
def s_27_j1 (n : Nat) (v0 : Drum) (v102 : Bool) : Option (Int) := bif v102 then ( some (2) ) else ( (s_89 n v0).bind fun v103 => bif (!v103) then ( some (7) ) else ( some (0) ) )
def s_27 (n : Nat) (v0 : Drum) (v1 : Bool) : Option (Int) := (s_39 n v0).bind fun v101 => bif (!v101) then ( s_27_j1 n v0 true ) else ( s_27_j1 n v0 (!v1) )
theorem c_27 (n : Nat) (v0 : Drum) (v1 : Bool) {r : (Int)} (h : s_27 n v0 v1 = some r) :
  Fun Tryz.prog 27 [.agg (cDrum v0), .b v1] (.ret (.val (.int .i64 r))) := by
 unfold s_27 at h
 refine enterW 15 Tryz.func27 q q q ?_
 intro w0 F0
 change W _ _ (Ev [(0, .pv (.agg (cDrum v0))), (1, .pv (.b v1))]) _
 refine W.seq<|W.region<|ob (g_box q q q q q) q q<|va q q q q q<|on0<|Sq.n<|W.seq<|W.seqJ (σ := Bool) (fun s => (⟨[(2, .box 2 0), (11, .pv (.b s))], [(2, 27, [.pv (.sl (List.map cAcid v0.acids)), .pv (.i v0.known), .pv (.i v0.hours), .pv (.sl (List.map eI v0.adds)), .pv (.sl (List.map cStrip v0.strips)), .pv (.sl (List.map cBatch v0.batches))])], []⟩ : Env)) (fun s => s_27_j1 n v0 s = some r) ?_ ?_
 ·refine W.region<|ov (g_loadA q q q q q ag_27 sz_27 q q) q ?_
  obtain ⟨v101, e101, h⟩ := bind_some h
  refine ov (g_call q q q ca_39 q (c_39 _ _ e101)) q<|ov (g_not q q q q) q<|vm q q q q q<|Ops.split 8 q (fun hb => ?_) (fun hb => ?_)
  ·have h := bif_t h hb
   refine o2 q q q q q q<|o2 q q q q q q<|vt q q q q q q<|on0<|Sq.n<|⟨true, h, has_mk ⟨q, q, trivial⟩ ⟨q, trivial⟩ trivial q⟩
  ·have h := bif_f h hb
   refine on q q q<|vm q q q q q<|on q q q<|ov (g_not q q q q) q<|vf q q q q q q<|on0<|Sq.n<|⟨(!v1), h, has_mk ⟨q, q, trivial⟩ ⟨q, trivial⟩ trivial q⟩
 ·rintro v102 h
  change s_27_j1 n v0 v102 = some r at h
  unfold s_27_j1 at h
  change W _ _ (⟨[(2, .box 2 0), (11, .pv (.b v102))], [(2, 27, [.pv (.sl (List.map cAcid v0.acids)), .pv (.i v0.known), .pv (.i v0.hours), .pv (.sl (List.map eI v0.adds)), .pv (.sl (List.map cStrip v0.strips)), .pv (.sl (List.map cBatch v0.batches))])], []⟩ : Env) _
  refine W.cond (b := v102) q (fun hc => ?_) (fun hc => ?_)
  ·have h := bif_t h hc
   refine W.seq<|W.region<|va q q q q q<|on0<|Sq.n<|W.ret<|Sq.r ?_
   obtain rfl := Option.some.inj h
   exact Fin.r q (.cons (.tmp _ _ q) .nil) q
  ·have h := bif_f h hc
   refine W.skip<|Sq.n<|W.seq<|W.seq<|W.region<|ov (g_loadA q q q q q ag_27 sz_27 q q) q ?_
   obtain ⟨v103, e103, h⟩ := bind_some h
   refine ov (g_call q q q ca_89 q (c_89 _ _ e103)) q<|ov (g_not q q q q) q<|on0<|Sq.n<|W.cond (b := (!v103)) q (fun hc => ?_) (fun hc => ?_)
   ·have h := bif_t h hc
    refine W.seq<|W.region<|va q q q q q<|on0<|Sq.n<|W.ret<|Sq.r ?_
    obtain rfl := Option.some.inj h
    exact Fin.r q (.cons (.tmp _ _ q) .nil) q
   ·have h := bif_f h hc
    refine W.skip<|Sq.n<|W.seq<|W.region<|va q q q q q<|on0<|Sq.n<|W.ret ?_
    obtain rfl := Option.some.inj h
    exact Fin.r q (.cons (.tmp _ _ q) .nil) q
def s_77_l1 (n : Nat) (v0 : Drum) (v1 : Int) : Nat → Int → (List Bounds) → Option ((List Bounds))
| 0, _, _ => none
| k1 + 1, v107, v108 => bif (decide (v107 < (v0.batches.length : Int))) then ( (s_94 n v0 v107 v1).bind fun v111 => (app v108 ([v111])).bind fun v112 => (s_77_l1 n v0 v1 k1) (wr (v107 + 1)) v112 ) else ( some (v108) )
def s_77 (n : Nat) (v0 : Drum) (v1 : Int) : Option ((List Bounds)) := s_77_l1 n v0 v1 n 0 []
theorem c_77 (n : Nat) (v0 : Drum) (v1 : Int) {r : ((List Bounds))} (h : s_77 n v0 v1 = some r) :
  Fun Tryz.prog 77 [.agg (cDrum v0), .val (.int .i64 v1)] (.ret (.sl (r.map cBounds))) := by
 unfold s_77 at h
 refine enterW 22 Tryz.func77 q q q ?_
 intro w0 F0
 change W _ _ (Ev [(0, .pv (.agg (cDrum v0))), (1, .pv (.i v1))]) _
 refine W.seq<|W.region<|ob (g_box q q q q q) q q<|va q q q q q<|on0<|Sq.n<|W.seq<|W.region<|va q q q q q<|on0<|Sq.n<|W.seq<|W.seq<|W.region<|va q q q q q<|on0<|Sq.n<|W.block<|W.conv (Conv.nilrow 5 20 71 4 q q)<|W.loop (σ := Nat × Int × (List Bounds)) (fun s => (⟨[(1, .pv (.i v1)), (2, .box 2 0), (5, .row 20), (6, .pv (.i s.2.1))], [(2, 27, [.pv (.sl (List.map cAcid v0.acids)), .pv (.i v0.known), .pv (.i v0.hours), .pv (.sl (List.map eI v0.adds)), .pv (.sl (List.map cStrip v0.strips)), .pv (.sl (List.map cBatch v0.batches))])], [(20, ⟨71, 4, List.map cBounds s.2.2⟩)]⟩ : Env)) (fun s => s_77_l1 n v0 v1 s.1 s.2.1 s.2.2 = some r) (fun s => s.1) (n, 0, []) h (has_mk ⟨q, q, q, q, trivial⟩ ⟨q, trivial⟩ ⟨q, trivial⟩ q) ?_
 rintro ⟨k1, v107, v108⟩ h
 change s_77_l1 n v0 v1 k1 v107 v108 = some r at h
 rcases k1 with _ | k1
 ·rw [s_77_l1] at h
  cases h
 ·rw [s_77_l1] at h
  change W _ _ (⟨[(1, .pv (.i v1)), (2, .box 2 0), (5, .row 20), (6, .pv (.i v107))], [(2, 27, [.pv (.sl (List.map cAcid v0.acids)), .pv (.i v0.known), .pv (.i v0.hours), .pv (.sl (List.map eI v0.adds)), .pv (.sl (List.map cStrip v0.strips)), .pv (.sl (List.map cBatch v0.batches))])], [(20, ⟨71, 4, List.map cBounds v108⟩)]⟩ : Env) _
  refine W.seq<|W.seq<|W.region<|vm q q q q q<|ov (g_fld q q q q fl_27_5) q<|ov (g_load1 q q q q q q ag_25) q<|ov (g_lenM (l := v0.batches) (enc := cBatch) q ul_25 q q q) q<|ov (g_lss q q q q q) q<|on0<|Sq.n<|W.cond (b := (decide (v107 < (v0.batches.length : Int)))) q (fun hc => ?_) (fun hc => ?_)
  ·have h := bif_t h hc
   refine W.skip<|Sq.n<|W.seq<|W.block<|W.region<|vm q q q q q<|ov (g_loadA q q q q q ag_27 sz_27 q q) q<|vm q q q q q<|vm q q q q q ?_
   obtain ⟨v111, e111, h⟩ := bind_some h
   refine ov (g_call q q q ca_94 q (c_94 _ _ _ _ e111)) q<|Ops.r (g_buildSlice (cs := [.val (.int .i64 v111.rough.low), .val (.int .i64 v111.rough.high), .val (.int .i64 v111.thick.low), .val (.int .i64 v111.thick.high)]) (es := List.map cBounds [v111]) q q q el_63 ⟨_, zr_71⟩ q q q q q q) q q ?_
   obtain ⟨v112, e112, h⟩ := bind_some h
   exact Ops.step q (s_appendR (enc := cBounds) e112 q q q q q q q q ex_63 (fun _ => q))<|va q q q q q<|on0<|Bl.n<|Sq.n<|W.region<|vm q q q q q<|ov (g_add q q q q q) q<|va q q q q q<|on0<|Sq.n<|⟨(k1, wr (v107 + 1), v112), h, Nat.lt_succ_self _, has_mk ⟨q, q, q, q, trivial⟩ ⟨q, trivial⟩ ⟨q, trivial⟩ q⟩
  ·have h := bif_f h hc
   refine W.exit<|Sq.e<|Sq.e<|Bl.e<|Sq.n<|W.seq<|W.region<|vm q q q q q<|va q q q q q<|on0<|Sq.n<|W.share (k := 20) q<|W.ret ?_
   obtain rfl := Option.some.inj h
   exact Fin.r q (.cons (.tmp _ _ q) .nil) q
end Go.Proofs.YtohmhlkdgfcaeaaGreatDoor
namespace Go.Proofs.YtohmhlkdgfcaeaaGreatDoor
open Go Go.RowKit Go.ChangeShapes Go.WideShapes Go.Deep
set_option maxRecDepth 100000
theorem parT : ∀ t ∈ [3, 9, 23, 27, 54, 92], ParT t := by
 have h : ([3, 9, 23, 27, 54, 92].all fun t => Tryz.prog.readableRec t && decide (t < Tryz.prog.types.size)) = true := by kernel_rfl
 intro t ht
 have := List.all_eq_true.1 h t ht
 rw [Bool.and_eq_true, decide_eq_true_eq] at this
 exact this
end Go.Proofs.YtohmhlkdgfcaeaaGreatDoor
namespace Go.Proofs.YtohmhlkdgfcaeaaGreatDoor
def Span.ok (s : Span) (most : Int) : Prop := 0 ≤ s.low ∧ s.low ≤ s.high ∧ s.high ≤ most
def Span.mem (s : Span) (x : Int) : Prop := s.low ≤ x ∧ x ≤ s.high
def Span.ne (s : Span) : Prop := s.low ≤ s.high
instance (s : Span) (m : Int) : Decidable (s.ok m) := by unfold Span.ok; infer_instance
instance (s : Span) (x : Int) : Decidable (s.mem x) := by unfold Span.mem; infer_instance
instance (s : Span) : Decidable s.ne := by unfold Span.ne; infer_instance
def Batch.ok (b : Batch) : Prop := (0 ≤ b.rough ∧ b.rough ≤ 1000) ∧ (0 ≤ b.goal ∧ b.goal ≤ 1000) ∧ (0 ≤ b.thick ∧ b.thick ≤ 1000) ∧ (0 ≤ b.least ∧ b.least ≤ 1000) ∧ (0 ≤ b.polish ∧ b.polish ≤ 100) ∧ (0 ≤ b.eat ∧ b.eat ≤ 100)
def Strip.ok (s : Strip) (hours : Int) : Prop := (0 ≤ s.hour ∧ s.hour ≤ hours - 1) ∧ (0 ≤ s.seen ∧ s.seen ≤ 2000) ∧ (0 ≤ s.off ∧ s.off ≤ 50)
def Acid.ok (a : Acid) : Prop := a.strength.ok 100 ∧ a.fall.ok 20
instance (b : Batch) : Decidable b.ok := by unfold Batch.ok; infer_instance
instance (s : Strip) (h : Int) : Decidable (s.ok h) := by unfold Strip.ok; infer_instance
instance (a : Acid) : Decidable a.ok := by unfold Acid.ok; infer_instance
structure Drum.ok (d : Drum) : Prop where
 acl : 1 ≤ d.acids.length ∧ d.acids.length ≤ 4
 kn : 1 ≤ d.known ∧ d.known ≤ 2 ^ d.acids.length - 1
 hr : 1 ≤ d.hours ∧ d.hours ≤ 12
 adl : (d.adds.length : Int) = d.hours
 stl : d.strips.length ≤ 6
 btl : 1 ≤ d.batches.length ∧ d.batches.length ≤ 5
 ac : ∀ a ∈ d.acids, a.ok
 ad : ∀ x ∈ d.adds, 0 ≤ x ∧ x ≤ 100
 st : ∀ s ∈ d.strips, s.ok d.hours
 bt : ∀ b ∈ d.batches, b.ok
def cap (a b : Span) : Span := ⟨max a.low b.low, min a.high b.high⟩
def capL (s : Span) (l : List Span) : Span := l.foldl cap s
def Strip.span (s : Strip) : Span := ⟨s.seen - s.off, s.seen + s.off⟩
def stripsAt (l : List Strip) (h : Nat) : List Span := (l.filter fun s => s.hour == (h : Int)).map Strip.span
def addAt (l : List Int) (h : Nat) : Int := l.getD h 0
def aft (a : Acid) (add : Int) (s : Span) : Span := ⟨max 0 (s.low - a.fall.high) + add, max 0 (s.high - a.fall.low) + add⟩
def bef (a : Acid) (add : Int) (s : Span) : Span := ⟨if add < s.low then s.low - add + a.fall.low else 0, s.high - add + a.fall.high⟩
def start (a : Acid) (add : Int) : Span := ⟨a.strength.low + add, a.strength.high + add⟩
def fw (ad : List Int) (st : List Strip) (a : Acid) : Nat → Span
 | 0 => capL (start a (addAt ad 0)) (stripsAt st 0)
 | h + 1 => capL (aft a (addAt ad (h + 1)) (fw ad st a h)) (stripsAt st (h + 1))
def bk (ad : List Int) (st : List Strip) (a : Acid) (H : Nat) : Nat → Span
 | 0 => fw ad st a (H - 1)
 | k + 1 => cap (fw ad st a (H - 1 - (k + 1))) (bef a (addAt ad (H - 1 - k)) (bk ad st a H k))
def Poss (ad : List Int) (st : List Strip) (a : Acid) (H : Nat) : Prop := ∀ h, h < H → (fw ad st a h).ne
theorem mem_cap {a b : Span} {x : Int} : (cap a b).mem x ↔ a.mem x ∧ b.mem x := by simp only [cap, Span.mem]; omega
theorem mem_capL {l : List Span} : ∀ {s : Span} {x : Int}, (capL s l).mem x ↔ s.mem x ∧ ∀ t ∈ l, t.mem x := by
 induction l with
 | nil => intro s x; simp [capL]
 | cons t l ih =>
  intro s x
  have := @ih (cap s t) x
  simp only [capL, List.foldl_cons, List.mem_cons, forall_eq_or_imp] at this ⊢
  rw [this, mem_cap]
  constructor
  ·rintro ⟨⟨h1, h2⟩, h3⟩; exact ⟨h1, h2, h3⟩
  ·rintro ⟨h1, h2, h3⟩; exact ⟨⟨h1, h2⟩, h3⟩
theorem capL_low {l : List Span} : ∀ {s : Span}, s.low ≤ (capL s l).low ∧ (capL s l).high ≤ s.high := by
 induction l with
 | nil => intro s; simp [capL]
 | cons t l ih =>
  intro s
  have := @ih (cap s t)
  simp only [capL, List.foldl_cons] at this ⊢
  simp only [cap] at this ⊢
  omega
theorem ne_mem {s : Span} (h : s.ne) : s.mem s.low ∧ s.mem s.high := by simp only [Span.ne, Span.mem] at *; omega
section
variable {ad : List Int} {st : List Strip} {a : Acid} {H : Nat}
theorem addAt_le (had : ∀ x ∈ ad, 0 ≤ x ∧ x ≤ 100) (h : Nat) : 0 ≤ addAt ad h ∧ addAt ad h ≤ 100 := by
 unfold addAt
 rw [List.getD_eq_getElem?_getD]
 cases hh : ad[h]? with
 | none => simp
 | some x => simpa using had x (List.mem_of_getElem? hh)
theorem fw_low (ha : a.ok) (had : ∀ x ∈ ad, 0 ≤ x ∧ x ≤ 100) : ∀ h, 0 ≤ (fw ad st a h).low ∧ (fw ad st a h).high ≤ 100 + 100 * (h + 1) := by
 intro h
 obtain ⟨h1, h2⟩ := ha
 simp only [Span.ok] at h1 h2
 induction h with
 | zero =>
  have := addAt_le had 0
  have := @capL_low (stripsAt st 0) (start a (addAt ad 0))
  simp only [fw]
  simp only [start] at this ⊢
  omega
 | succ h ih =>
  have := addAt_le had (h + 1)
  have := @capL_low (stripsAt st (h + 1)) (aft a (addAt ad (h + 1)) (fw ad st a h))
  simp only [fw]
  simp only [aft] at this ⊢
  push_cast
  omega
theorem bk_ok (ha : a.ok) (had : ∀ x ∈ ad, 0 ≤ x ∧ x ≤ 100) (hp : Poss ad st a H) : ∀ k, k < H → (bk ad st a H k).ne ∧ (fw ad st a (H - 1 - k)).low ≤ (bk ad st a H k).low ∧ (bk ad st a H k).high ≤ (fw ad st a (H - 1 - k)).high := by
 intro k
 induction k with
 | zero => intro hk; exact ⟨hp _ (by omega), by simp [bk]⟩
 | succ k ih =>
  intro hk
  obtain ⟨i1, i2, i3⟩ := ih (by omega)
  have hn := hp (H - 1 - (k + 1)) (by omega)
  have e : H - 1 - k = H - 1 - (k + 1) + 1 := by omega
  have hl := fw_low (st := st) ha had (H - 1 - (k + 1))
  have hadd := addAt_le had (H - 1 - k)
  have hc := @capL_low (stripsAt st (H - 1 - k)) (aft a (addAt ad (H - 1 - k)) (fw ad st a (H - 1 - (k + 1))))
  have he : fw ad st a (H - 1 - k) = capL (aft a (addAt ad (H - 1 - k)) (fw ad st a (H - 1 - (k + 1)))) (stripsAt st (H - 1 - k)) := by
   rw [e]; rfl
  rw [← he] at hc
  obtain ⟨h1, h2⟩ := ha
  simp only [Span.ok] at h1 h2
  simp only [bk, cap, bef, aft, Span.ne] at *
  split <;> omega
def bd (ad : List Int) (st : List Strip) (a : Acid) (H h : Nat) : Span := bk ad st a H (H - 1 - h)
theorem bd_last (_hH : 0 < H) : bd ad st a H (H - 1) = fw ad st a (H - 1) := by simp [bd, bk]
theorem bd_step {h : Nat} (hh : h + 1 < H) : bd ad st a H h = cap (fw ad st a h) (bef a (addAt ad (h + 1)) (bd ad st a H (h + 1))) := by
 unfold bd
 obtain ⟨k, hk⟩ : ∃ k, H - 1 - h = k + 1 := ⟨H - 1 - h - 1, by omega⟩
 have e1 : H - 1 - (h + 1) = k := by omega
 rw [hk, e1, bk]
 have e2 : H - 1 - (k + 1) = h := by omega
 have e3 : H - 1 - k = h + 1 := by omega
 rw [e2, e3]
theorem bd_ok (ha : a.ok) (had : ∀ x ∈ ad, 0 ≤ x ∧ x ≤ 100) (hp : Poss ad st a H) {h : Nat} (hh : h < H) : (bd ad st a H h).ne ∧ (fw ad st a h).low ≤ (bd ad st a H h).low ∧ (bd ad st a H h).high ≤ (fw ad st a h).high := by
 have := bk_ok ha had hp (H - 1 - h) (by omega)
 have e : H - 1 - (H - 1 - h) = h := by omega
 rw [e] at this
 exact this
end
end Go.Proofs.YtohmhlkdgfcaeaaGreatDoor
namespace Go.Proofs.YtohmhlkdgfcaeaaGreatDoor
open Go Go.RowKit
theorem wr_of {x : Int} (h : -9223372036854775808 ≤ x ∧ x ≤ 9223372036854775807) : wr x = x := by
 show IntKind.i64.wrap x = x
 rw [IntKind.wrap_i64]; omega
theorem ix_at {α : Type} {l : List α} {i : Nat} {x : α} (h : l[i]? = some x) : ix l (i : Int) = some x := by
 simp [ix, h]
def fc {α σ β : Type} (body : Nat → α → σ → (σ → Option β) → Option β) (fin : σ → Option β) : Nat → List α → σ → Option β
 | _, [], s => fin s
 | i, x :: r, s => body i x s (fc body fin (i + 1) r)
theorem loop_list {α σ β : Type} (l : List α) (L : Nat → Int → σ → Option β) (body : Nat → α → σ → (σ → Option β) → Option β) (fin : σ → Option β)
  (h : ∀ (k i : Nat) (s : σ), L (k + 1) (i : Int) s = bif decide ((i : Int) < ((l.length : Nat) : Int)) then (ix l (i : Int)).bind (fun x => body i x s (fun s' => L k (wr ((i : Int) + 1)) s')) else fin s)
  (hl : l.length ≤ 1000000) : ∀ (k i : Nat) (s : σ), l.length < k + i → i ≤ l.length → L k (i : Int) s = fc body fin i (l.drop i) s := by
 intro k
 induction k with
 | zero => intro i s h1 h2; omega
 | succ k ih =>
  intro i s h1 h2
  rw [h]
  by_cases hi : i < l.length
  ·have e1 : decide ((i : Int) < ((l.length : Nat) : Int)) = true := decide_eq_true (by omega)
   rw [e1, cond_true, ix_at (List.getElem?_eq_getElem hi), List.drop_eq_getElem_cons hi]
   simp only [Option.bind_some, fc]
   congr 1
   funext s'
   rw [wr_of (by omega)]
   exact_mod_cast ih (i + 1) s' (by omega) (by omega)
  ·have e1 : decide ((i : Int) < ((l.length : Nat) : Int)) = false := decide_eq_false (by omega)
   rw [e1, cond_false, List.drop_eq_nil_of_le (by omega)]
   rfl
def fn {σ β : Type} (m : Int) (body : Int → σ → (σ → Option β) → Option β) (fin : σ → Option β) : Nat → Int → σ → Option β
 | 0, _, s => fin s
 | r + 1, i, s => body i s (fn m body fin r (i + 1))
theorem loop_nat {σ β : Type} (m : Int) (L : Nat → Int → σ → Option β) (body : Int → σ → (σ → Option β) → Option β) (fin : σ → Option β)
  (h : ∀ (k : Nat) (i : Int) (s : σ), L (k + 1) i s = bif decide (i < m) then body i s (fun s' => L k (wr (i + 1)) s') else fin s)
  (hm : m ≤ 1000000) : ∀ (r k : Nat) (i : Int) (s : σ), 0 ≤ i → i + r = m → r < k → L k i s = fn m body fin r i s := by
 intro r
 induction r with
 | zero =>
  intro k i s h0 h1 h2
  obtain ⟨k, rfl⟩ : ∃ k', k = k' + 1 := ⟨k - 1, by omega⟩
  have e1 : decide (i < m) = false := decide_eq_false (by omega)
  rw [h, e1, cond_false]; rfl
 | succ r ih =>
  intro k i s h0 h1 h2
  obtain ⟨k, rfl⟩ : ∃ k', k = k' + 1 := ⟨k - 1, by omega⟩
  have e1 : decide (i < m) = true := decide_eq_true (by omega)
  rw [h, e1, cond_true]
  simp only [fn]
  congr 1
  funext s'
  rw [wr_of (by omega)]
  exact ih k (i + 1) s' (by omega) (by omega) (by omega)
theorem fc_all {α : Type} (p : α → Bool) (fin : Option Bool) : ∀ (l : List α) (i : Nat), fc (σ := Unit) (fun _ x s K => bif p x then K s else some false) (fun _ => fin) i l () = bif l.all p then fin else some false := by
 intro l
 induction l with
 | nil => intro i; rfl
 | cons x r ih =>
  intro i
  simp only [fc, List.all_cons]
  cases p x
  ·rfl
  ·rw [cond_true, ih]; rfl
theorem loop_all {α : Type} (l : List α) (L : Nat → Int → Option Bool) (p : α → Bool) (fin : Option Bool)
  (h : ∀ (k i : Nat), L (k + 1) (i : Int) = bif decide ((i : Int) < ((l.length : Nat) : Int)) then (ix l (i : Int)).bind (fun x => bif p x then L k (wr ((i : Int) + 1)) else some false) else fin)
  (hl : l.length ≤ 1000000) {k : Nat} (hk : l.length < k) : L k 0 = bif l.all p then fin else some false := by
 have := loop_list l (fun k i (_ : Unit) => L k i) (fun _ x s K => bif p x then K s else some false) (fun _ => fin) (fun k i _ => h k i) hl k 0 () (by omega) (by omega)
 rw [fc_all] at this
 exact this
def firstI {α : Type} (p : α → Bool) : Nat → List α → Int
 | _, [] => -1
 | i, x :: r => bif p x then (i : Int) else firstI p (i + 1) r
theorem firstI_any {α : Type} (p : α → Bool) : ∀ (l : List α) (i : Nat), decide (0 ≤ firstI p i l) = l.any p := by
 intro l
 induction l with
 | nil => intro i; rfl
 | cons x r ih =>
  intro i
  rw [firstI, List.any_cons]
  rcases Bool.eq_false_or_eq_true (p x) with h | h
  ·rw [h, cond_true]; exact decide_eq_true (by omega)
  ·rw [h, cond_false, ih]; rfl
theorem loop_first {α : Type} (l : List α) (f : α → Option Bool) (p : α → Bool) (hf : ∀ x ∈ l, f x = some (p x)) (L : Nat → Int → Option Int)
  (h : ∀ (k i : Nat), L (k + 1) (i : Int) = bif decide ((i : Int) < ((l.length : Nat) : Int)) then (ix l (i : Int)).bind (fun x => (f x).bind fun b => bif b then some (i : Int) else L k (wr ((i : Int) + 1))) else some (-1))
  (hl : l.length ≤ 1000000) {k : Nat} (hk : l.length < k) : L k 0 = some (firstI p 0 l) := by
 have h1 := loop_list l (fun k i (_ : Unit) => L k i) (fun i x s K => (f x).bind fun b => bif b then some (i : Int) else K s) (fun _ => some (-1)) (fun k i _ => h k i) hl k 0 () (by omega) (by omega)
 rw [List.drop_zero] at h1
 have key : ∀ (l' : List α) (i : Nat), (∀ x ∈ l', f x = some (p x)) → fc (σ := Unit) (fun i x s K => (f x).bind fun b => bif b then some (i : Int) else K s) (fun _ => some (-1)) i l' () = some (firstI p i l') := by
  intro l'
  induction l' with
  | nil => intro i _; rfl
  | cons x r ih =>
   intro i hx
   simp only [fc, firstI, hx x List.mem_cons_self, Option.bind_some]
   cases p x
   ·rw [cond_false, cond_false]; exact ih (i + 1) (fun y hy => hx y (List.mem_cons_of_mem _ hy))
   ·rfl
 exact h1.trans (key l 0 hf)
def inb (v a b : Int) : Bool := decide (a ≤ v) && decide (v ≤ b)
theorem p_87 (n : Nat) (v a b : Int) : s_87 n v a b = some (inb v a b) := by unfold s_87 inb; cases decide (a ≤ v) <;> rfl
theorem p_103 (n : Nat) (v a b : Int) : s_103 n v a b = some (inb v a b) := by unfold s_103 inb; cases decide (a ≤ v) <;> rfl
def spb (s : Span) (m : Int) : Bool := decide (0 ≤ s.low) && (decide (s.low ≤ s.high) && decide (s.high ≤ m))
theorem p_107 (n : Nat) (s : Span) (m : Int) : s_107 n s m = some (spb s m) := by unfold s_107 spb; cases decide (0 ≤ s.low) <;> cases decide (s.low ≤ s.high) <;> rfl
theorem p_148 (n : Nat) (s : Span) (m : Int) : s_148 n s m = some (spb s m) := by unfold s_148 spb; cases decide (0 ≤ s.low) <;> cases decide (s.low ≤ s.high) <;> rfl
def okA (a : Acid) : Bool := spb a.strength 100 && spb a.fall 20
def okS (h : Int) (s : Strip) : Bool := inb s.hour 0 (wr (h - 1)) && (inb s.seen 0 2000 && inb s.off 0 50)
def okBt (b : Batch) : Bool := inb b.rough 0 1000 && (inb b.goal 0 1000 && (inb b.thick 0 1000 && (inb b.least 0 1000 && (inb b.polish 0 100 && inb b.eat 0 100))))
def okL (d : Drum) : Bool := d.acids.all okA && (d.adds.all (fun x => inb x 0 100) && (d.strips.all (okS d.hours) && d.batches.all okBt))
def okN (d : Drum) : Bool := inb d.acids.length 1 4 && (inb d.known 1 (2 ^ d.acids.length - 1) && (inb d.hours 1 12 && (decide ((d.adds.length : Int) = d.hours) && (decide ((d.strips.length : Int) ≤ 6) && inb d.batches.length 1 5))))
def okD (d : Drum) : Bool := okN d && okL d
theorem inb_iff {v a b : Int} : inb v a b = true ↔ a ≤ v ∧ v ≤ b := by simp [inb]
theorem spb_iff {s : Span} {m : Int} : spb s m = true ↔ s.ok m := by simp [spb, Span.ok]
theorem okA_iff {a : Acid} : okA a = true ↔ a.ok := by simp [okA, Acid.ok, spb_iff]
theorem okS_iff {h : Int} {s : Strip} (hh : 1 ≤ h ∧ h ≤ 12) : okS h s = true ↔ s.ok h := by
 unfold okS
 rw [wr_of (by omega)]
 simp [Strip.ok, inb_iff]
theorem okBt_iff {b : Batch} : okBt b = true ↔ b.ok := by simp [okBt, Batch.ok, inb_iff]
theorem okD_iff {d : Drum} : okD d = true ↔ d.ok := by
 constructor
 ·intro h
  simp only [okD, okN, okL, Bool.and_eq_true, inb_iff, decide_eq_true_eq, List.all_eq_true] at h
  obtain ⟨⟨h1, h2, h3, h4, h5, h6⟩, h7, h8, h9, h10⟩ := h
  exact ⟨by omega, h2, h3, h4, by omega, by omega, fun a ha => okA_iff.1 (h7 a ha), h8, fun s hs => (okS_iff h3).1 (h9 s hs), fun b hb => okBt_iff.1 (h10 b hb)⟩
 ·intro h
  simp only [okD, okN, okL, Bool.and_eq_true, inb_iff, decide_eq_true_eq, List.all_eq_true]
  have h1 := h.acl
  have h5 := h.stl
  have h6 := h.btl
  exact ⟨⟨by omega, h.kn, h.hr, h.adl, by omega, by omega⟩, fun a ha => okA_iff.2 (h.ac a ha), h.ad, fun s hs => (okS_iff h.hr).2 (h.st s hs), fun b hb => okBt_iff.2 (h.bt b hb)⟩
structure Short (d : Drum) : Prop where
 a : d.acids.length ≤ 6
 b : d.adds.length ≤ 15
 c : d.strips.length ≤ 9
 e : d.batches.length ≤ 7
def shortB (d : Drum) : Bool := decide (((d.acids.length : Nat) : Int) ≤ 6) && (decide (((d.adds.length : Nat) : Int) ≤ 15) && (decide (((d.strips.length : Nat) : Int) ≤ 9) && decide (((d.batches.length : Nat) : Int) ≤ 7)))
theorem shortB_iff {d : Drum} : shortB d = true ↔ Short d := by
 simp only [shortB, Bool.and_eq_true, decide_eq_true_eq]
 exact ⟨fun h => ⟨by omega, by omega, by omega, by omega⟩, fun h => ⟨by have := h.a; omega, by have := h.b; omega, by have := h.c; omega, by have := h.e; omega⟩⟩
theorem p_23 (n : Nat) (d : Drum) : s_23 n d = some (shortB d) := by
 unfold s_23 shortB
 cases decide (((d.acids.length : Nat) : Int) ≤ 6) <;> cases decide (((d.adds.length : Nat) : Int) ≤ 15) <;> cases decide (((d.strips.length : Nat) : Int) ≤ 9) <;> rfl
section
variable {n : Nat} {d : Drum}
theorem p_39_l14 (hn : 100 ≤ n) (hs : Short d) : s_39_l14 n d n 0 = some (d.batches.all okBt) := by
 have := hs.e
 rw [loop_all d.batches (s_39_l14 n d) okBt (some true) (fun k i => ?_) (by omega) (by omega)]
 ·cases d.batches.all okBt <;> rfl
 ·rw [s_39_l14]
  congr 1
  congr 1
  funext x
  simp only [p_103, Option.bind_some, okBt, s_39_j17]
  cases inb x.rough 0 1000 <;> cases inb x.goal 0 1000 <;> cases inb x.thick 0 1000 <;> cases inb x.least 0 1000 <;> cases inb x.polish 0 100 <;> cases inb x.eat 0 100 <;> rfl
theorem p_39_l10 (hn : 100 ≤ n) (hs : Short d) : s_39_l10 n d n 0 = some (d.strips.all (okS d.hours) && d.batches.all okBt) := by
 have := hs.c
 rw [loop_all d.strips (s_39_l10 n d) (okS d.hours) (some (d.batches.all okBt)) (fun k i => ?_) (by omega) (by omega)]
 ·cases d.strips.all (okS d.hours) <;> rfl
 ·rw [s_39_l10, p_39_l14 hn hs]
  congr 1
  congr 1
  funext x
  simp only [p_103, Option.bind_some, okS, s_39_j13]
  cases inb x.hour 0 (wr (d.hours - 1)) <;> cases inb x.seen 0 2000 <;> cases inb x.off 0 50 <;> rfl
theorem p_39_l9 (hn : 100 ≤ n) (hs : Short d) : s_39_l9 n d n 0 = some (d.adds.all (fun x => inb x 0 100) && (d.strips.all (okS d.hours) && d.batches.all okBt)) := by
 have := hs.b
 rw [loop_all d.adds (s_39_l9 n d) (fun x => inb x 0 100) (some (d.strips.all (okS d.hours) && d.batches.all okBt)) (fun k i => ?_) (by omega) (by omega)]
 ·cases d.adds.all (fun x => inb x 0 100) <;> rfl
 ·rw [s_39_l9, p_39_l10 hn hs]
  congr 1
  congr 1
  funext x
  simp only [p_103, Option.bind_some]
  cases inb x 0 100 <;> rfl
theorem p_39_l5 (hn : 100 ≤ n) (hs : Short d) : s_39_l5 n d n 0 = some (okL d) := by
 have := hs.a
 rw [loop_all d.acids (s_39_l5 n d) okA (some (d.adds.all (fun x => inb x 0 100) && (d.strips.all (okS d.hours) && d.batches.all okBt))) (fun k i => ?_) (by omega) (by omega)]
 ·unfold okL; cases d.acids.all okA <;> rfl
 ·rw [s_39_l5, p_39_l9 hn hs]
  by_cases hi : i < d.acids.length
  ·have e := ix_at (List.getElem?_eq_getElem hi)
   simp only [e, Option.bind_some, p_107, okA, s_39_j8]
   cases spb d.acids[i].strength 100 <;> cases spb d.acids[i].fall 20 <;> rfl
  ·have e1 : decide ((i : Int) < ((d.acids.length : Nat) : Int)) = false := decide_eq_false (by omega)
   rw [e1, cond_false, cond_false]
theorem p_106 (hn : 100 ≤ n) {m : Nat} (hm : m ≤ 40) : s_106 n (m : Int) = some (2 ^ m) := by
 have h1 : ∀ (r k : Nat) (i : Nat), i + r = m → r < k → s_106_l1 (m : Int) k (2 ^ i) (i : Int) = some (2 ^ m) := by
  intro r
  induction r with
  | zero =>
   intro k i hi hk
   obtain ⟨k, rfl⟩ : ∃ k', k = k' + 1 := ⟨k - 1, by omega⟩
   have e1 : decide ((i : Int) < (m : Int)) = false := decide_eq_false (by omega)
   have : i = m := by omega
   subst this
   rw [s_106_l1, e1, cond_false]
  | succ r ih =>
   intro k i hi hk
   obtain ⟨k, rfl⟩ : ∃ k', k = k' + 1 := ⟨k - 1, by omega⟩
   have e1 : decide ((i : Int) < (m : Int)) = true := decide_eq_true (by omega)
   have h6 : -9223372036854775808 ≤ (2 : Int) * 2 ^ i ∧ (2 : Int) * 2 ^ i ≤ 9223372036854775807 := by
    obtain ⟨p, hp, hp2⟩ : ∃ p : Nat, (2 : Int) ^ i = (p : Int) ∧ p ≤ 2 ^ 40 := ⟨2 ^ i, by push_cast; rfl, Nat.pow_le_pow_right (by omega) (by omega)⟩
    rw [hp]
    omega
   rw [s_106_l1, e1, cond_true, wr_of (x := 2 * 2 ^ i) h6, wr_of (x := (i : Int) + 1) (by omega)]
   have := ih k (i + 1) (by omega) (by omega)
   rw [show (2 : Int) * 2 ^ i = 2 ^ (i + 1) by rw [Int.pow_succ]; omega]
   exact_mod_cast this
 have := h1 m n 0 (by omega) (by omega)
 simpa [s_106] using this
theorem p_39 (hn : 100 ≤ n) (hs : Short d) : s_39 n d = some (okD d) := by
 have h1 := hs.a
 unfold s_39
 rw [p_106 hn (by omega)]
 simp only [p_103, Option.bind_some, s_39_j4, p_39_l5 hn hs]
 have h3 : (2 : Int) ^ d.acids.length ≤ 64 := by
  have : (2 : Nat) ^ d.acids.length ≤ 2 ^ 6 := Nat.pow_le_pow_right (by omega) h1
  exact_mod_cast this
 have h4 : (0 : Int) < 2 ^ d.acids.length := by
  have : (0 : Nat) < 2 ^ d.acids.length := Nat.pow_pos (by omega)
  exact_mod_cast this
 rw [wr_of (by omega)]
 have h5 : decide (6 < ((d.strips.length : Nat) : Int)) = !decide (((d.strips.length : Nat) : Int) ≤ 6) := by
  by_cases h : ((d.strips.length : Nat) : Int) ≤ 6
  ·simp [h]
  ·simp [h]; omega
 rw [h5]
 unfold okD okN
 cases inb d.acids.length 1 4 <;> cases inb d.known 1 (2 ^ d.acids.length - 1) <;> cases inb d.hours 1 12 <;> cases decide (((d.adds.length : Nat) : Int) = d.hours) <;> cases decide (((d.strips.length : Nat) : Int) ≤ 6) <;> cases inb d.batches.length 1 5 <;> rfl
end
end Go.Proofs.YtohmhlkdgfcaeaaGreatDoor
namespace Go.Proofs.YtohmhlkdgfcaeaaGreatDoor
open Go Go.RowKit
section
variable {n : Nat} {d : Drum}
theorem p_121 (hn : 100 ≤ n) (l : List Int) (hl : l.length ≤ 50) (f : Int → Option Bool) (p : Int → Bool) (hf : ∀ x ∈ l, f x = some (p x)) : s_121 n l f = some (l.any p) := by
 unfold s_121 s_167
 rw [loop_first l f p hf (s_167_l1 f l) (fun k i => by rw [s_167_l1]) (by omega) (by omega), Option.bind_some, firstI_any]
theorem p_146 (hn : 100 ≤ n) (l : List Acid) (hl : l.length ≤ 50) (f : Acid → Option Bool) (p : Acid → Bool) (hf : ∀ x ∈ l, f x = some (p x)) : s_146 n l f = some (l.any p) := by
 unfold s_146 s_174
 rw [loop_first l f p hf (s_174_l1 f l) (fun k i => by rw [s_174_l1]) (by omega) (by omega), Option.bind_some, firstI_any]
theorem p_95 (hn : 100 ≤ n) (l : List Strip) (hl : l.length ≤ 50) (f : Strip → Option Bool) (p : Strip → Bool) (hf : ∀ x ∈ l, f x = some (p x)) : s_95 n l f = some (l.any p) := by
 unfold s_95 s_143
 rw [loop_first l f p hf (s_143_l1 f l) (fun k i => by rw [s_143_l1]) (by omega) (by omega), Option.bind_some, firstI_any]
theorem p_151 (hn : 100 ≤ n) (l : List Batch) (hl : l.length ≤ 50) (f : Batch → Option Bool) (p : Batch → Bool) (hf : ∀ x ∈ l, f x = some (p x)) : s_151 n l f = some (l.any p) := by
 unfold s_151 s_175
 rw [loop_first l f p hf (s_175_l1 f l) (fun k i => by rw [s_175_l1]) (by omega) (by omega), Option.bind_some, firstI_any]
theorem any_not {α : Type} (l : List α) (p : α → Bool) : l.any (fun x => !p x) = !l.all p := by
 induction l with
 | nil => rfl
 | cons x r ih => simp only [List.any_cons, List.all_cons, ih, Bool.not_and]
theorem p_147 (a : Acid) : s_147 n a = some (!okA a) := by
 unfold s_147 okA
 simp only [p_148, Option.bind_some]
 cases spb a.strength 100 <;> cases spb a.fall 20 <;> rfl
theorem p_149 (x : Int) : s_149 n x = some (!inb x 0 100) := by
 unfold s_149
 simp only [p_87, Option.bind_some]
theorem p_150 (s : Strip) : s_150 n s d = some (!okS d.hours s) := by
 unfold s_150 okS
 simp only [p_87, Option.bind_some]
 cases inb s.hour 0 (wr (d.hours - 1)) <;> cases inb s.seen 0 2000 <;> cases inb s.off 0 50 <;> rfl
theorem p_152 (b : Batch) : s_152 n b = some (!okBt b) := by
 unfold s_152 s_153 okBt
 simp only [p_87, Option.bind_some]
 cases inb b.rough 0 1000 <;> cases inb b.goal 0 1000 <;> cases inb b.thick 0 1000 <;> cases inb b.least 0 1000 <;> cases inb b.polish 0 100 <;> cases inb b.eat 0 100 <;> rfl
theorem p_104 (hn : 100 ≤ n) (hs : Short d) : s_104 n d = some (okD d) := by
 have h1 := hs.a
 have h2 := hs.b
 have h7 := hs.c
 have h8 := hs.e
 have h3 : (2 : Int) ^ d.acids.length ≤ 64 := by
  have : (2 : Nat) ^ d.acids.length ≤ 2 ^ 6 := Nat.pow_le_pow_right (by omega) h1
  exact_mod_cast this
 have h4 : (0 : Int) < 2 ^ d.acids.length := by
  have : (0 : Nat) < 2 ^ d.acids.length := Nat.pow_pos (by omega)
  exact_mod_cast this
 have hsh : shl .i64 1 ((List.length d.acids : Nat) : Int) = some (2 ^ d.acids.length) := by
  unfold shl
  rw [show decide ((0 : Int) ≤ ((List.length d.acids : Nat) : Int)) = true from decide_eq_true (by omega), cond_true]
  have hm : min ((List.length d.acids : Nat) : Int).toNat IntKind.i64.bits = d.acids.length := by
   show min d.acids.length 64 = d.acids.length
   omega
  rw [hm, Int.one_mul]
  exact congrArg some (wr_of (by omega))
 unfold s_104
 rw [hsh]
 simp only [p_87, Option.bind_some, p_146 hn d.acids (by omega) _ _ (fun x _ => p_147 x), p_121 hn d.adds (by omega) _ _ (fun x _ => p_149 x), p_95 hn d.strips (by omega) _ _ (fun x _ => p_150 x), p_151 hn d.batches (by omega) _ _ (fun x _ => p_152 x), any_not]
 rw [wr_of (by omega)]
 unfold okD okN okL
 cases inb d.acids.length 1 4 <;> cases inb d.known 1 (2 ^ d.acids.length - 1) <;> cases inb d.hours 1 12 <;> cases decide (((d.adds.length : Nat) : Int) = d.hours) <;> cases decide (((d.strips.length : Nat) : Int) ≤ 6) <;> cases inb d.batches.length 1 5 <;>
  cases d.acids.all okA <;> cases d.adds.all (fun x => inb x 0 100) <;> cases d.strips.all (okS d.hours) <;> cases d.batches.all okBt <;> rfl
def hasB (set : Int) (i : Nat) : Bool := decide (set / 2 ^ i % 2 = 1)
theorem pow_bound {i : Nat} (h : i ≤ 6) : (1 : Int) ≤ 2 ^ i ∧ (2 : Int) ^ i ≤ 64 := by
 obtain ⟨p, hp, hp1, hp2⟩ : ∃ p : Nat, (2 : Int) ^ i = (p : Int) ∧ 1 ≤ p ∧ p ≤ 2 ^ 6 := ⟨2 ^ i, by push_cast; rfl, Nat.pow_pos (by omega), Nat.pow_le_pow_right (by omega) h⟩
 omega
theorem p_72 (hn : 100 ≤ n) {set : Int} {i : Nat} (hi : i ≤ 6) (h0 : 0 ≤ set) (h1 : set ≤ 1000) : s_72 n set i = some (hasB set i) := by
 unfold s_72
 have hp := pow_bound hi
 rw [p_106 hn (by omega), Option.bind_some]
 generalize hq : (2 : Int) ^ i = p at hp
 have e1 : quo .i64 set p = some (set / p) := by
  unfold quo
  rw [show decide (p = 0) = false from decide_eq_false (by omega), cond_false, Int.tdiv_eq_ediv_of_nonneg h0]
  have h3 : 0 ≤ set / p := Int.ediv_nonneg h0 (by omega)
  have h4 : set / p ≤ set := Int.ediv_le_self _ h0
  exact congrArg some (wr_of (by omega))
 have h3 : 0 ≤ set / p := Int.ediv_nonneg h0 (by omega)
 rw [e1, Option.bind_some]
 have e2 : rem .i64 (set / p) 2 = some (set / p % 2) := by
  unfold rem
  rw [show decide ((2 : Int) = 0) = false from rfl, cond_false, Int.tmod_eq_emod_of_nonneg h3]
 rw [e2, Option.bind_some, hasB, hq]
theorem and_one : ∀ x : Nat, x < 16 → bits .and .i64 (x : Int) 1 = (x : Int) % 2 := by decide
theorem p_145 {set : Int} {i : Nat} (hi : i ≤ 6) (h0 : 0 ≤ set) (h1 : set ≤ 15) : s_145 n set i = some (hasB set i) := by
 unfold s_145
 have hp := pow_bound hi
 have e1 : shr .i64 set (i : Int) = some (set / 2 ^ i) := by
  unfold shr
  rw [show decide ((0 : Int) ≤ (i : Int)) = true from decide_eq_true (by omega), cond_true]
  have hm : min ((i : Nat) : Int).toNat IntKind.i64.bits = i := by
   show min i 64 = i
   omega
  rw [hm, Int.fdiv_eq_ediv_of_nonneg _ (by omega)]
 rw [e1, Option.bind_some, hasB]
 have h3 : 0 ≤ set / 2 ^ i := Int.ediv_nonneg h0 (by omega)
 have h4 : set / 2 ^ i ≤ set := Int.ediv_le_self _ h0
 obtain ⟨x, hx⟩ := Int.eq_ofNat_of_zero_le h3
 rw [hx, and_one x (by omega)]
end
end Go.Proofs.YtohmhlkdgfcaeaaGreatDoor
