/- What law 9 asks besides, part 1. -/
import Derived.Test.YtohmhlkdgfcaeaaGreatDoorProg
import Derived.KernelRfl
import Derived.Laws.Cover3
import Derived.Laws.IdiomStrings
import Derived.Test.YtohmhlkdgfcaeaaGreatDoorK8
set_option linter.unusedVariables false
set_option linter.unusedSimpArgs false
namespace Go.Proofs.YtohmhlkdgfcaeaaGreatDoor
open Go Go.RowKit
def PV.soft : PV → PV
 | .agg cs => .agg (cs.map PV.soft0)
 | x => x.soft0
theorem Rd.soft {w : World} {F : Foot} {x : PV} {v : Value} (h : Rd w F x v) : Rd w F x.soft v := by
 cases x with
 | agg cs =>
  cases h with
  | agg _ us hl hr =>
   refine .agg _ us (by simpa using hl) ?_
   intro j c u hc hu
   rw [List.getElem?_map] at hc
   obtain ⟨c', hc', rfl⟩ := Option.map_eq_some_iff.1 hc
   exact (hr j c' u hc' hu).soft0
 | _ => exact h.soft0
theorem Fun.soft {P : Program} {f : FuncId} {args args' : List PV} {r : Res} (h : Fun P f args' r) (e : args' = args.map PV.soft) : Fun P f args r := by
 subst e
 intro w F vs hok hv
 refine h w F vs hok ⟨by simpa using hv.1, ?_⟩
 intro j x v hx hj
 rw [List.getElem?_map] at hx
 obtain ⟨x', hx', rfl⟩ := Option.map_eq_some_iff.1 hx
 exact (hv.2 j x' v hx' hj).soft
def TV.soft : TV → TV
 | .pv x => .pv x.soft
 | x => x
theorem Conv.soft {ts : List (Nat × TV)} {bs : List (Nat × TypeId × List TV)} {rs : List (Nat × RowS)} (t : Nat) {v v' : TV} (hv : lk ts t = some v) (e : v.soft = v') : Conv ⟨ts, bs, rs⟩ ⟨(t, v') :: ts, bs, rs⟩ := fun w0 F0 nt g F a w hr => by
 subst e
 refine ⟨g, F, ⟨hr.dfr, hr.sz, ?_, hr.bs, hr.bd, hr.bi, hr.rs, hr.rd, hr.ri, hr.rb, hr.ok, hr.ext, hr.le⟩⟩
 intro t' x hx
 simp only [lk_cons] at hx
 by_cases ht : t = t'
 ·rw [if_pos ht] at hx; cases hx; subst ht
  obtain ⟨u, h1, h2⟩ := hr.ts t v hv
  refine ⟨u, h1, ?_⟩
  cases v with
  | pv y => exact Rd.soft h2
  | _ => exact h2
 ·rw [if_neg ht] at hx; exact hr.ts t' x hx
end Go.Proofs.YtohmhlkdgfcaeaaGreatDoor
namespace Go.Proofs.YtohmhlkdgfcaeaaGreatDoor
open Go Go.RowKit
theorem ca_23 : Callable Tryz.prog 23 := by unfold Callable; kernel_rfl
theorem ca_24 : Callable Tryz.prog 24 := by unfold Callable; kernel_rfl
theorem ca_38 : Callable Tryz.prog 38 := by unfold Callable; kernel_rfl
theorem ca_39 : Callable Tryz.prog 39 := by unfold Callable; kernel_rfl
theorem ca_42 : Callable Tryz.prog 42 := by unfold Callable; kernel_rfl
end Go.Proofs.YtohmhlkdgfcaeaaGreatDoor
namespace Go.Proofs.YtohmhlkdgfcaeaaGreatDoor
open Go Go.RowKit
theorem ut_92 : Tryz.prog.underlying 92 = some (.struct #[⟨ "Hour", 3, 0, false, "", "", 0⟩, ⟨ "Seen", 3, 1, false, "", "", 8⟩, ⟨ "Off", 3, 2, false, "", "", 16⟩]) := by kernel_rfl
theorem eqIn_92 {w : World} (d : Nat) (a0 a1 a2 b0 b1 b2 : Int) : (Op.equalIn (d + 2) 92 (.agg #[.int .i64 a0, .int .i64 a1, .int .i64 a2]) (.agg #[.int .i64 b0, .int .i64 b1, .int .i64 b2])).run Tryz.prog w = .ok (([a0 == b0, a1 == b1, a2 == b2]).all id) w := by
 refine run_equalIn_struct (d + 1) 92 ut_92 (by kernel_rfl) ⟨rfl, ?_⟩
 intro i f b hf hb
 match i with
 | 0 =>
  simp at hf hb
  subst hf hb
  refine ⟨by decide, fun w => ?_⟩
  simp only [Sem.run_bind]
  rw [run_part1 ag3 rfl, Result.andThen_ok, run_part1 ag3 rfl, Result.andThen_ok]
  exact run_equalIn_int d 3 .i64 _ _ ui3
 | 1 =>
  simp at hf hb
  subst hf hb
  refine ⟨by decide, fun w => ?_⟩
  simp only [Sem.run_bind]
  rw [run_part1 ag3 rfl, Result.andThen_ok, run_part1 ag3 rfl, Result.andThen_ok]
  exact run_equalIn_int d 3 .i64 _ _ ui3
 | 2 =>
  simp at hf hb
  subst hf hb
  refine ⟨by decide, fun w => ?_⟩
  simp only [Sem.run_bind]
  rw [run_part1 ag3 rfl, Result.andThen_ok, run_part1 ag3 rfl, Result.andThen_ok]
  exact run_equalIn_int d 3 .i64 _ _ ui3
 | j + 3 => simp at hf
theorem ut_67 : Tryz.prog.underlying 67 = some (.struct #[⟨ "Rough", 3, 0, false, "", "", 0⟩, ⟨ "Goal", 3, 1, false, "", "", 8⟩, ⟨ "Thick", 3, 2, false, "", "", 16⟩, ⟨ "Least", 3, 3, false, "", "", 24⟩, ⟨ "Polish", 3, 4, false, "", "", 32⟩, ⟨ "Eat", 3, 5, false, "", "", 40⟩]) := by kernel_rfl
theorem eqIn_67 {w : World} (d : Nat) (a0 a1 a2 a3 a4 a5 b0 b1 b2 b3 b4 b5 : Int) : (Op.equalIn (d + 2) 67 (.agg #[.int .i64 a0, .int .i64 a1, .int .i64 a2, .int .i64 a3, .int .i64 a4, .int .i64 a5]) (.agg #[.int .i64 b0, .int .i64 b1, .int .i64 b2, .int .i64 b3, .int .i64 b4, .int .i64 b5])).run Tryz.prog w = .ok (([a0 == b0, a1 == b1, a2 == b2, a3 == b3, a4 == b4, a5 == b5]).all id) w := by
 refine run_equalIn_struct (d + 1) 67 ut_67 (by kernel_rfl) ⟨rfl, ?_⟩
 intro i f b hf hb
 match i with
 | 0 =>
  simp at hf hb
  subst hf hb
  refine ⟨by decide, fun w => ?_⟩
  simp only [Sem.run_bind]
  rw [run_part1 ag3 rfl, Result.andThen_ok, run_part1 ag3 rfl, Result.andThen_ok]
  exact run_equalIn_int d 3 .i64 _ _ ui3
 | 1 =>
  simp at hf hb
  subst hf hb
  refine ⟨by decide, fun w => ?_⟩
  simp only [Sem.run_bind]
  rw [run_part1 ag3 rfl, Result.andThen_ok, run_part1 ag3 rfl, Result.andThen_ok]
  exact run_equalIn_int d 3 .i64 _ _ ui3
 | 2 =>
  simp at hf hb
  subst hf hb
  refine ⟨by decide, fun w => ?_⟩
  simp only [Sem.run_bind]
  rw [run_part1 ag3 rfl, Result.andThen_ok, run_part1 ag3 rfl, Result.andThen_ok]
  exact run_equalIn_int d 3 .i64 _ _ ui3
 | 3 =>
  simp at hf hb
  subst hf hb
  refine ⟨by decide, fun w => ?_⟩
  simp only [Sem.run_bind]
  rw [run_part1 ag3 rfl, Result.andThen_ok, run_part1 ag3 rfl, Result.andThen_ok]
  exact run_equalIn_int d 3 .i64 _ _ ui3
 | 4 =>
  simp at hf hb
  subst hf hb
  refine ⟨by decide, fun w => ?_⟩
  simp only [Sem.run_bind]
  rw [run_part1 ag3 rfl, Result.andThen_ok, run_part1 ag3 rfl, Result.andThen_ok]
  exact run_equalIn_int d 3 .i64 _ _ ui3
 | 5 =>
  simp at hf hb
  subst hf hb
  refine ⟨by decide, fun w => ?_⟩
  simp only [Sem.run_bind]
  rw [run_part1 ag3 rfl, Result.andThen_ok, run_part1 ag3 rfl, Result.andThen_ok]
  exact run_equalIn_int d 3 .i64 _ _ ui3
 | j + 6 => simp at hf
theorem ut_137 : Tryz.prog.underlying 137 = some (.struct #[⟨ "Strength", 57, 0, false, "", "", 0⟩, ⟨ "Fall", 57, 2, false, "", "", 16⟩]) := by kernel_rfl
theorem eqIn_137 {w : World} (d : Nat) (a0 a1 a2 a3 b0 b1 b2 b3 : Int) : (Op.equalIn (d + 3) 137 (.agg #[.int .i64 a0, .int .i64 a1, .int .i64 a2, .int .i64 a3]) (.agg #[.int .i64 b0, .int .i64 b1, .int .i64 b2, .int .i64 b3])).run Tryz.prog w = .ok (([([a0 == b0, a1 == b1].all id), ([a2 == b2, a3 == b3].all id)]).all id) w := by
 refine run_equalIn_struct (d + 2) 137 ut_137 (by kernel_rfl) ⟨rfl, ?_⟩
 intro i f b hf hb
 match i with
 | 0 =>
  simp at hf hb
  subst hf
  refine ⟨by decide, fun w => ?_⟩
  simp only [Sem.run_bind]
  rw [run_partA ag57 sz57 (us := #[.int .i64 (a0), .int .i64 (a1)]) rfl, Result.andThen_ok, run_partA ag57 sz57 (us := #[.int .i64 (b0), .int .i64 (b1)]) rfl, Result.andThen_ok]
  rw [eqIn_57]
  simp [← hb]
 | 1 =>
  simp at hf hb
  subst hf
  refine ⟨by decide, fun w => ?_⟩
  simp only [Sem.run_bind]
  rw [run_partA ag57 sz57 (us := #[.int .i64 (a2), .int .i64 (a3)]) rfl, Result.andThen_ok, run_partA ag57 sz57 (us := #[.int .i64 (b2), .int .i64 (b3)]) rfl, Result.andThen_ok]
  rw [eqIn_57]
  simp [← hb]
 | j + 2 => simp at hf
section
variable {w0 : World} {F0 : Foot} {nt : Nat} {E : Env} {o : Oper} {d : Nat} {x y : Operand} {T' : TypeId}
theorem g_neq_92 {a b : Strip} (ho : o.op = .binOp .neq 92 x y T') (hd : o.dst = some d) (hdn : Nat.ble (d + 1) nt = true) (hx : evT E x = some (.pv (.agg (cStrip a)))) (hy : evT E y = some (.pv (.agg (cStrip b)))) :
  GS ⟨Tryz.prog, w0, F0, nt⟩ o E ⟨opT x ++ opT y, [], []⟩ ⟨some d, .pv (.b (!decide (a = b))), none, none⟩ :=
 g_beq (X := ⟨Tryz.prog, w0, F0, nt⟩) (us := [.int .i64 a.hour, .int .i64 a.seen, .int .i64 a.off]) (vs := [.int .i64 b.hour, .int .i64 b.seen, .int .i64 b.off]) ho hd hdn hx hy rfl rfl (fun w => by
  have hg : Tryz.prog.eqGuardType Tryz.prog.depth 92 = false := by kernel_rfl
  have he := eqIn_92 (w := w) 9998 a.hour a.seen a.off b.hour b.seen b.off
  have e : ([a.hour == b.hour, a.seen == b.seen, a.off == b.off]).all id = decide (a = b) := by rw [Bool.eq_iff_iff]; simp [Strip.ext_iff, and_assoc]
  rw [e] at he
  simp [eqGuard, binOp, Op.equal, Op.maxDepth, hg, he])
theorem g_neq_67 {a b : Batch} (ho : o.op = .binOp .neq 67 x y T') (hd : o.dst = some d) (hdn : Nat.ble (d + 1) nt = true) (hx : evT E x = some (.pv (.agg (cBatch a)))) (hy : evT E y = some (.pv (.agg (cBatch b)))) :
  GS ⟨Tryz.prog, w0, F0, nt⟩ o E ⟨opT x ++ opT y, [], []⟩ ⟨some d, .pv (.b (!decide (a = b))), none, none⟩ :=
 g_beq (X := ⟨Tryz.prog, w0, F0, nt⟩) (us := [.int .i64 a.rough, .int .i64 a.goal, .int .i64 a.thick, .int .i64 a.least, .int .i64 a.polish, .int .i64 a.eat]) (vs := [.int .i64 b.rough, .int .i64 b.goal, .int .i64 b.thick, .int .i64 b.least, .int .i64 b.polish, .int .i64 b.eat]) ho hd hdn hx hy rfl rfl (fun w => by
  have hg : Tryz.prog.eqGuardType Tryz.prog.depth 67 = false := by kernel_rfl
  have he := eqIn_67 (w := w) 9998 a.rough a.goal a.thick a.least a.polish a.eat b.rough b.goal b.thick b.least b.polish b.eat
  have e : ([a.rough == b.rough, a.goal == b.goal, a.thick == b.thick, a.least == b.least, a.polish == b.polish, a.eat == b.eat]).all id = decide (a = b) := by rw [Bool.eq_iff_iff]; simp [Batch.ext_iff, and_assoc]
  rw [e] at he
  simp [eqGuard, binOp, Op.equal, Op.maxDepth, hg, he])
theorem g_neq_137 {a b : Acid} (ho : o.op = .binOp .neq 137 x y T') (hd : o.dst = some d) (hdn : Nat.ble (d + 1) nt = true) (hx : evT E x = some (.pv (.agg (cAcid a)))) (hy : evT E y = some (.pv (.agg (cAcid b)))) :
  GS ⟨Tryz.prog, w0, F0, nt⟩ o E ⟨opT x ++ opT y, [], []⟩ ⟨some d, .pv (.b (!decide (a = b))), none, none⟩ :=
 g_beq (X := ⟨Tryz.prog, w0, F0, nt⟩) (us := [.int .i64 a.strength.low, .int .i64 a.strength.high, .int .i64 a.fall.low, .int .i64 a.fall.high]) (vs := [.int .i64 b.strength.low, .int .i64 b.strength.high, .int .i64 b.fall.low, .int .i64 b.fall.high]) ho hd hdn hx hy rfl rfl (fun w => by
  have hg : Tryz.prog.eqGuardType Tryz.prog.depth 137 = false := by kernel_rfl
  have he := eqIn_137 (w := w) 9997 a.strength.low a.strength.high a.fall.low a.fall.high b.strength.low b.strength.high b.fall.low b.fall.high
  have e : ([([a.strength.low == b.strength.low, a.strength.high == b.strength.high].all id), ([a.fall.low == b.fall.low, a.fall.high == b.fall.high].all id)]).all id = decide (a = b) := by rw [Bool.eq_iff_iff]; simp [Acid.ext_iff, Span.ext_iff, and_assoc]
  rw [e] at he
  simp [eqGuard, binOp, Op.equal, Op.maxDepth, hg, he])
end
end Go.Proofs.YtohmhlkdgfcaeaaGreatDoor
namespace Go.Proofs.YtohmhlkdgfcaeaaGreatDoor
open Go Go.RowKit
set_option maxRecDepth 4000
attribute [local irreducible] W Ops GS GSG
def s_42_l4 (v0 : Drum) (v1 : Drum) : Nat → Int → Option (Bool)
| 0, _ => none
| k4 + 1, v119 => bif (decide (v119 < (v0.batches.length : Int))) then ( (ix v0.batches v119).bind fun v122 => (ix v1.batches v119).bind fun v123 => bif (!decide (v122 = v123)) then ( some (false) ) else ( (s_42_l4 v0 v1 k4) (wr (v119 + 1)) ) ) else ( some (true) )
def s_42_l3 (n : Nat) (v0 : Drum) (v1 : Drum) : Nat → Int → Option (Bool)
| 0, _ => none
| k3 + 1, v112 => bif (decide (v112 < (v0.strips.length : Int))) then ( (ix v0.strips v112).bind fun v115 => (ix v1.strips v112).bind fun v116 => bif (!decide (v115 = v116)) then ( some (false) ) else ( (s_42_l3 n v0 v1 k3) (wr (v112 + 1)) ) ) else ( s_42_l4 v0 v1 n 0 )
def s_42_l2 (n : Nat) (v0 : Drum) (v1 : Drum) : Nat → Int → Option (Bool)
| 0, _ => none
| k2 + 1, v105 => bif (decide (v105 < (v0.acids.length : Int))) then ( (ix v0.acids v105).bind fun v108 => (ix v1.acids v105).bind fun v109 => bif (!decide (v108 = v109)) then ( some (false) ) else ( (s_42_l2 n v0 v1 k2) (wr (v105 + 1)) ) ) else ( s_42_l3 n v0 v1 n 0 )
def s_42_j1 (n : Nat) (v0 : Drum) (v1 : Drum) (v102 : Bool) : Option (Bool) := bif v102 then ( some (false) ) else ( s_42_l2 n v0 v1 n 0 )
def s_42 (n : Nat) (v0 : Drum) (v1 : Drum) : Option (Bool) := bif (!decide ((v0.acids.length : Int) = (v1.acids.length : Int))) then ( s_42_j1 n v0 v1 true ) else ( bif (!decide (v0.known = v1.known)) then ( s_42_j1 n v0 v1 true ) else ( bif (!decide (v0.hours = v1.hours)) then ( s_42_j1 n v0 v1 true ) else ( (s_58 n v0.adds v1.adds).bind fun v101 => bif (!v101) then (
 s_42_j1 n v0 v1 true ) else ( bif (!decide ((v0.strips.length : Int) = (v1.strips.length : Int))) then ( s_42_j1 n v0 v1 true ) else ( s_42_j1 n v0 v1 (!decide ((v0.batches.length : Int) = (v1.batches.length : Int))) ) ) ) ) )
theorem c_42 (n : Nat) (v0 : Drum) (v1 : Drum) {r : (Bool)} (h : s_42 n v0 v1 = some r) :
  Fun Tryz.prog 42 [.agg (cDrum v0), .agg (cDrum v1)] (.ret (.b r)) := by
 unfold s_42 at h
 refine enterW 109 Tryz.func42 q q q ?_
 intro w0 F0
 change W _ _ (Ev [(0, .pv (.agg (cDrum v0))), (1, .pv (.agg (cDrum v1)))]) _
 refine W.seq<|W.region<|ob (g_box q q q q q) q q<|ob (g_box q q q q q) q q<|va q q q q q<|on0<|Sq.n<|W.seq<|W.seqJ (σ := Bool) (fun s => (⟨[(2, .box 2 0), (3, .box 3 0), (54, .pv (.b s))], [(2, 27, [.pv (.sl (List.map cAcid v0.acids)), .pv (.i v0.known), .pv (.i v0.hours), .pv (.sl (List.map eI v0.adds)), .pv (.sl (List.map cStrip v0.strips)), .pv (.sl (List.map cBatch v0.batches))]), (3, 27, [.pv (.sl (List.map cAcid v1.acids)), .pv (.i v1.known), .pv (.i v1.hours), .pv (.sl (List.map eI v1.adds)), .pv (.sl (List.map cStrip v1.strips)), .pv (.sl (List.map cBatch v1.batches))])], []⟩ : Env)) (fun s => s_42_j1 n v0 v1 s = some r) ?_ ?_
 ·refine W.region<|ov (g_fld q q q q fl_27_0) q<|ov (g_load1 q q q q q q ag_22) q<|ov (g_lenM (l := v0.acids) (enc := cAcid) q ul_22 q q q) q<|ov (g_fld q q q q fl_27_0) q<|ov (g_load1 q q q q q q ag_22) q<|ov (g_lenM (l := v1.acids) (enc := cAcid) q ul_22 q q q) q<|ov (g_neq q q q q q) q<|vm q q q q q<|Ops.split 15 q (fun hb => ?_) (fun hb => ?_)
  ·have h := bif_t h hb
   refine o2 q q q q q q<|o2 q q q q q q<|o2 q q q q q q<|o2 q q q q q q<|o2 q q q q q q<|vt q q q q q q<|vm q q q q q<|o2 q q q q q q<|o2 q q q q q q<|o2 q q q q q q<|o2 q q q q q q<|o2 q q q q q q<|vt q q q q q q<|vm q q q q q<|o2 q q q q q q<|o2 q q q q q q<|o2 q q q q q q<|o2 q q q q q q<|o2 q q q q q q<|o2 q q q q q q<|vt q q q q q q<|vm q q q q q<|o2 q q q q q q<|o2 q q q q q q<|o2 q q q q q q<|o2 q q q q q q<|o2 q q q q q q<|o2 q q q q q q<|o2 q q q q q q<|vt q q q q q q<|vm q q q q q<|o2 q q q q q q<|o2 q q q q q q<|o2 q q q q q q<|o2 q q q q q q<|o2 q q q q q q<|o2 q q q q q q<|o2 q q q q q q<|vt q q q q q q<|on0<|Sq.n<|⟨true, h, has_mk ⟨q, q, q, trivial⟩ ⟨q, q, trivial⟩ trivial q⟩
  ·have h := bif_f h hb
   refine on q q q<|ov (g_fld q q q q fl_27_1) q<|on q q q<|ov (g_load1 q q q q q q ag_3) q<|on q q q<|ov (g_fld q q q q fl_27_1) q<|on q q q<|ov (g_load1 q q q q q q ag_3) q<|on q q q<|ov (g_neq q q q q q) q<|vf q q q q q q<|vm q q q q q<|Ops.split 22 q (fun hb => ?_) (fun hb => ?_)
   ·have h := bif_t h hb
    refine o2 q q q q q q<|o2 q q q q q q<|o2 q q q q q q<|o2 q q q q q q<|o2 q q q q q q<|vt q q q q q q<|vm q q q q q<|o2 q q q q q q<|o2 q q q q q q<|o2 q q q q q q<|o2 q q q q q q<|o2 q q q q q q<|o2 q q q q q q<|vt q q q q q q<|vm q q q q q<|o2 q q q q q q<|o2 q q q q q q<|o2 q q q q q q<|o2 q q q q q q<|o2 q q q q q q<|o2 q q q q q q<|o2 q q q q q q<|vt q q q q q q<|vm q q q q q<|o2 q q q q q q<|o2 q q q q q q<|o2 q q q q q q<|o2 q q q q q q<|o2 q q q q q q<|o2 q q q q q q<|o2 q q q q q q<|vt q q q q q q<|on0<|Sq.n<|⟨true, h, has_mk ⟨q, q, q, trivial⟩ ⟨q, q, trivial⟩ trivial q⟩
   ·have h := bif_f h hb
    refine on q q q<|ov (g_fld q q q q fl_27_2) q<|on q q q<|ov (g_load1 q q q q q q ag_3) q<|on q q q<|ov (g_fld q q q q fl_27_2) q<|on q q q<|ov (g_load1 q q q q q q ag_3) q<|on q q q<|ov (g_neq q q q q q) q<|vf q q q q q q<|vm q q q q q<|Ops.split 29 q (fun hb => ?_) (fun hb => ?_)
    ·have h := bif_t h hb
     refine o2 q q q q q q<|o2 q q q q q q<|o2 q q q q q q<|o2 q q q q q q<|o2 q q q q q q<|o2 q q q q q q<|vt q q q q q q<|vm q q q q q<|o2 q q q q q q<|o2 q q q q q q<|o2 q q q q q q<|o2 q q q q q q<|o2 q q q q q q<|o2 q q q q q q<|o2 q q q q q q<|vt q q q q q q<|vm q q q q q<|o2 q q q q q q<|o2 q q q q q q<|o2 q q q q q q<|o2 q q q q q q<|o2 q q q q q q<|o2 q q q q q q<|o2 q q q q q q<|vt q q q q q q<|on0<|Sq.n<|⟨true, h, has_mk ⟨q, q, q, trivial⟩ ⟨q, q, trivial⟩ trivial q⟩
    ·have h := bif_f h hb
     refine on q q q<|ov (g_fld q q q q fl_27_3) q<|on q q q<|ov (g_load1 q q q q q q ag_23) q<|on q q q<|ov (g_fld q q q q fl_27_3) q<|on q q q<|ov (g_load1 q q q q q q ag_23) q<|on q q q ?_
     obtain ⟨v101, e101, h⟩ := bind_some h
     refine ov (g_call q q q ca_58 q (c_58 _ _ _ e101)) q<|on q q q<|ov (g_not q q q q) q<|vf q q q q q q<|vm q q q q q<|Ops.split 37 q (fun hb => ?_) (fun hb => ?_)
     ·have h := bif_t h hb
      refine o2 q q q q q q<|o2 q q q q q q<|o2 q q q q q q<|o2 q q q q q q<|o2 q q q q q q<|o2 q q q q q q<|o2 q q q q q q<|vt q q q q q q<|vm q q q q q<|o2 q q q q q q<|o2 q q q q q q<|o2 q q q q q q<|o2 q q q q q q<|o2 q q q q q q<|o2 q q q q q q<|o2 q q q q q q<|vt q q q q q q<|on0<|Sq.n<|⟨true, h, has_mk ⟨q, q, q, trivial⟩ ⟨q, q, trivial⟩ trivial q⟩
     ·have h := bif_f h hb
      refine on q q q<|ov (g_fld q q q q fl_27_4) q<|on q q q<|ov (g_load1 q q q q q q ag_24) q<|on q q q<|ov (g_lenM (l := v0.strips) (enc := cStrip) q ul_24 q q q) q<|on q q q<|ov (g_fld q q q q fl_27_4) q<|on q q q<|ov (g_load1 q q q q q q ag_24) q<|on q q q<|ov (g_lenM (l := v1.strips) (enc := cStrip) q ul_24 q q q) q<|on q q q<|ov (g_neq q q q q q) q<|vf q q q q q q<|vm q q q q q<|Ops.split 46 q (fun hb => ?_) (fun hb => ?_)
      ·have h := bif_t h hb
       refine o2 q q q q q q<|o2 q q q q q q<|o2 q q q q q q<|o2 q q q q q q<|o2 q q q q q q<|o2 q q q q q q<|o2 q q q q q q<|vt q q q q q q<|on0<|Sq.n<|⟨true, h, has_mk ⟨q, q, q, trivial⟩ ⟨q, q, trivial⟩ trivial q⟩
      ·have h := bif_f h hb
       refine on q q q<|ov (g_fld q q q q fl_27_5) q<|on q q q<|ov (g_load1 q q q q q q ag_25) q<|on q q q<|ov (g_lenM (l := v0.batches) (enc := cBatch) q ul_25 q q q) q<|on q q q<|ov (g_fld q q q q fl_27_5) q<|on q q q<|ov (g_load1 q q q q q q ag_25) q<|on q q q<|ov (g_lenM (l := v1.batches) (enc := cBatch) q ul_25 q q q) q<|on q q q<|ov (g_neq q q q q q) q<|vf q q q q q q<|on0<|Sq.n<|⟨(!decide ((v0.batches.length : Int) = (v1.batches.length : Int))), h, has_mk ⟨q, q, q, trivial⟩ ⟨q, q, trivial⟩ trivial q⟩
 ·rintro v102 h
  change s_42_j1 n v0 v1 v102 = some r at h
  unfold s_42_j1 at h
  change W _ _ (⟨[(2, .box 2 0), (3, .box 3 0), (54, .pv (.b v102))], [(2, 27, [.pv (.sl (List.map cAcid v0.acids)), .pv (.i v0.known), .pv (.i v0.hours), .pv (.sl (List.map eI v0.adds)), .pv (.sl (List.map cStrip v0.strips)), .pv (.sl (List.map cBatch v0.batches))]), (3, 27, [.pv (.sl (List.map cAcid v1.acids)), .pv (.i v1.known), .pv (.i v1.hours), .pv (.sl (List.map eI v1.adds)), .pv (.sl (List.map cStrip v1.strips)), .pv (.sl (List.map cBatch v1.batches))])], []⟩ : Env) _
  refine W.cond (b := v102) q (fun hc => ?_) (fun hc => ?_)
  ·have h := bif_t h hc
   refine W.seq<|W.region<|va q q q q q<|on0<|Sq.n<|W.ret<|Sq.r ?_
   obtain rfl := Option.some.inj h
   exact Fin.r q (.cons (.tmp _ _ q) .nil) q
  ·have h := bif_f h hc
   refine W.skip<|Sq.n<|W.seq<|W.seq<|W.region<|va q q q q q<|on0<|Sq.n<|W.block<|W.loop (σ := Nat × Int) (fun s => (⟨[(2, .box 2 0), (3, .box 3 0), (5, .pv (.i s.2))], [(2, 27, [.pv (.sl (List.map cAcid v0.acids)), .pv (.i v0.known), .pv (.i v0.hours), .pv (.sl (List.map eI v0.adds)), .pv (.sl (List.map cStrip v0.strips)), .pv (.sl (List.map cBatch v0.batches))]), (3, 27, [.pv (.sl (List.map cAcid v1.acids)), .pv (.i v1.known), .pv (.i v1.hours), .pv (.sl (List.map eI v1.adds)), .pv (.sl (List.map cStrip v1.strips)), .pv (.sl (List.map cBatch v1.batches))])], []⟩ : Env)) (fun s => s_42_l2 n v0 v1 s.1 s.2 = some r) (fun s => s.1) (n, 0) h (has_mk ⟨q, q, q, trivial⟩ ⟨q, q, trivial⟩ trivial q) ?_
   rintro ⟨k2, v105⟩ h
   change s_42_l2 n v0 v1 k2 v105 = some r at h
   rcases k2 with _ | k2
   ·rw [s_42_l2] at h
    cases h
   ·rw [s_42_l2] at h
    change W _ _ (⟨[(2, .box 2 0), (3, .box 3 0), (5, .pv (.i v105))], [(2, 27, [.pv (.sl (List.map cAcid v0.acids)), .pv (.i v0.known), .pv (.i v0.hours), .pv (.sl (List.map eI v0.adds)), .pv (.sl (List.map cStrip v0.strips)), .pv (.sl (List.map cBatch v0.batches))]), (3, 27, [.pv (.sl (List.map cAcid v1.acids)), .pv (.i v1.known), .pv (.i v1.hours), .pv (.sl (List.map eI v1.adds)), .pv (.sl (List.map cStrip v1.strips)), .pv (.sl (List.map cBatch v1.batches))])], []⟩ : Env) _
    refine W.seq<|W.seq<|W.region<|vm q q q q q<|ov (g_fld q q q q fl_27_0) q<|ov (g_load1 q q q q q q ag_22) q<|ov (g_lenM (l := v0.acids) (enc := cAcid) q ul_22 q q q) q<|ov (g_lss q q q q q) q<|on0<|Sq.n<|W.cond (b := (decide (v105 < (v0.acids.length : Int)))) q (fun hc => ?_) (fun hc => ?_)
    ·have h := bif_t h hc
     refine W.skip<|Sq.n<|W.seq<|W.block<|W.seq ?_
     obtain ⟨v108, e108, h⟩ := bind_some h
     obtain ⟨v109, e109, h⟩ := bind_some h
     refine W.draw (m := 10) Checked.mixed (Pre.v (GSG.of q (g_fld q q q q fl_27_0)) ((Pre.v (GSG.of q (g_load1 q q q q q q ag_22)) ((Pre.v (GSG.of q (g_move q q q q)) ((Pre.v (GSG.of q (g_idxI (l := v0.acids) (enc := cAcid) e108 q q q q q el_22 q)) ((Pre.v (GSG.of q (g_loadRA q q q q ag_137 sz_137 q q)) ((Pre.v (GSG.of q (g_fld q q q q fl_27_0)) ((Pre.v (GSG.of q (g_load1 q q q q q q ag_22)) ((Pre.v (GSG.of q (g_move q q q q)) ((Pre.v (GSG.of q (g_idxI (l := v1.acids) (enc := cAcid) e109 q q q q q el_22 q)) ((Pre.v (GSG.of q (g_loadRA q q q q ag_137 sz_137 q q)) (Pre.nil _)))))))))))))))))))) (by kernel_rfl)<|ov (g_neq_137 (a := v108) (b := v109) q q q q q) q<|on0<|Sq.n<|W.cond (b := (!decide (v108 = v109))) q (fun hc => ?_) (fun hc => ?_)
     ·have h := bif_t h hc
      refine W.seq<|W.region<|va q q q q q<|on0<|Sq.n<|W.ret<|Bl.r<|Sq.r<|Sq.r<|Bl.r<|Sq.r ?_
      obtain rfl := Option.some.inj h
      exact Fin.r q (.cons (.tmp _ _ q) .nil) q
     ·have h := bif_f h hc
      exact W.skip<|Bl.n<|Sq.n<|W.region<|vm q q q q q<|ov (g_add q q q q q) q<|va q q q q q<|on0<|Sq.n<|⟨(k2, wr (v105 + 1)), h, Nat.lt_succ_self _, has_mk ⟨q, q, q, trivial⟩ ⟨q, q, trivial⟩ trivial q⟩
    ·have h := bif_f h hc
     refine W.exit<|Sq.e<|Sq.e<|Bl.e<|Sq.n<|W.seq<|W.seq<|W.region<|va q q q q q<|on0<|Sq.n<|W.block<|W.loop (σ := Nat × Int) (fun s => (⟨[(2, .box 2 0), (3, .box 3 0), (6, .pv (.i s.2))], [(2, 27, [.pv (.sl (List.map cAcid v0.acids)), .pv (.i v0.known), .pv (.i v0.hours), .pv (.sl (List.map eI v0.adds)), .pv (.sl (List.map cStrip v0.strips)), .pv (.sl (List.map cBatch v0.batches))]), (3, 27, [.pv (.sl (List.map cAcid v1.acids)), .pv (.i v1.known), .pv (.i v1.hours), .pv (.sl (List.map eI v1.adds)), .pv (.sl (List.map cStrip v1.strips)), .pv (.sl (List.map cBatch v1.batches))])], []⟩ : Env)) (fun s => s_42_l3 n v0 v1 s.1 s.2 = some r) (fun s => s.1) (n, 0) h (has_mk ⟨q, q, q, trivial⟩ ⟨q, q, trivial⟩ trivial q) ?_
     rintro ⟨k3, v112⟩ h
     change s_42_l3 n v0 v1 k3 v112 = some r at h
     rcases k3 with _ | k3
     ·rw [s_42_l3] at h
      cases h
     ·rw [s_42_l3] at h
      change W _ _ (⟨[(2, .box 2 0), (3, .box 3 0), (6, .pv (.i v112))], [(2, 27, [.pv (.sl (List.map cAcid v0.acids)), .pv (.i v0.known), .pv (.i v0.hours), .pv (.sl (List.map eI v0.adds)), .pv (.sl (List.map cStrip v0.strips)), .pv (.sl (List.map cBatch v0.batches))]), (3, 27, [.pv (.sl (List.map cAcid v1.acids)), .pv (.i v1.known), .pv (.i v1.hours), .pv (.sl (List.map eI v1.adds)), .pv (.sl (List.map cStrip v1.strips)), .pv (.sl (List.map cBatch v1.batches))])], []⟩ : Env) _
      refine W.seq<|W.seq<|W.region<|vm q q q q q<|ov (g_fld q q q q fl_27_4) q<|ov (g_load1 q q q q q q ag_24) q<|ov (g_lenM (l := v0.strips) (enc := cStrip) q ul_24 q q q) q<|ov (g_lss q q q q q) q<|on0<|Sq.n<|W.cond (b := (decide (v112 < (v0.strips.length : Int)))) q (fun hc => ?_) (fun hc => ?_)
      ·have h := bif_t h hc
       refine W.skip<|Sq.n<|W.seq<|W.block<|W.seq ?_
       obtain ⟨v115, e115, h⟩ := bind_some h
       obtain ⟨v116, e116, h⟩ := bind_some h
       refine W.draw (m := 10) Checked.mixed (Pre.v (GSG.of q (g_fld q q q q fl_27_4)) ((Pre.v (GSG.of q (g_load1 q q q q q q ag_24)) ((Pre.v (GSG.of q (g_move q q q q)) ((Pre.v (GSG.of q (g_idxI (l := v0.strips) (enc := cStrip) e115 q q q q q el_24 q)) ((Pre.v (GSG.of q (g_loadRA q q q q ag_92 sz_92 q q)) ((Pre.v (GSG.of q (g_fld q q q q fl_27_4)) ((Pre.v (GSG.of q (g_load1 q q q q q q ag_24)) ((Pre.v (GSG.of q (g_move q q q q)) ((Pre.v (GSG.of q (g_idxI (l := v1.strips) (enc := cStrip) e116 q q q q q el_24 q)) ((Pre.v (GSG.of q (g_loadRA q q q q ag_92 sz_92 q q)) (Pre.nil _)))))))))))))))))))) (by kernel_rfl)<|ov (g_neq_92 (a := v115) (b := v116) q q q q q) q<|on0<|Sq.n<|W.cond (b := (!decide (v115 = v116))) q (fun hc => ?_) (fun hc => ?_)
       ·have h := bif_t h hc
        refine W.seq<|W.region<|va q q q q q<|on0<|Sq.n<|W.ret<|Bl.r<|Sq.r<|Sq.r<|Bl.r<|Sq.r ?_
        obtain rfl := Option.some.inj h
        exact Fin.r q (.cons (.tmp _ _ q) .nil) q
       ·have h := bif_f h hc
        exact W.skip<|Bl.n<|Sq.n<|W.region<|vm q q q q q<|ov (g_add q q q q q) q<|va q q q q q<|on0<|Sq.n<|⟨(k3, wr (v112 + 1)), h, Nat.lt_succ_self _, has_mk ⟨q, q, q, trivial⟩ ⟨q, q, trivial⟩ trivial q⟩
      ·have h := bif_f h hc
       refine W.exit<|Sq.e<|Sq.e<|Bl.e<|Sq.n<|W.seq<|W.seq<|W.region<|va q q q q q<|on0<|Sq.n<|W.block<|W.loop (σ := Nat × Int) (fun s => (⟨[(2, .box 2 0), (3, .box 3 0), (7, .pv (.i s.2))], [(2, 27, [.pv (.sl (List.map cAcid v0.acids)), .pv (.i v0.known), .pv (.i v0.hours), .pv (.sl (List.map eI v0.adds)), .pv (.sl (List.map cStrip v0.strips)), .pv (.sl (List.map cBatch v0.batches))]), (3, 27, [.pv (.sl (List.map cAcid v1.acids)), .pv (.i v1.known), .pv (.i v1.hours), .pv (.sl (List.map eI v1.adds)), .pv (.sl (List.map cStrip v1.strips)), .pv (.sl (List.map cBatch v1.batches))])], []⟩ : Env)) (fun s => s_42_l4 v0 v1 s.1 s.2 = some r) (fun s => s.1) (n, 0) h (has_mk ⟨q, q, q, trivial⟩ ⟨q, q, trivial⟩ trivial q) ?_
       rintro ⟨k4, v119⟩ h
       change s_42_l4 v0 v1 k4 v119 = some r at h
       rcases k4 with _ | k4
       ·rw [s_42_l4] at h
        cases h
       ·rw [s_42_l4] at h
        change W _ _ (⟨[(2, .box 2 0), (3, .box 3 0), (7, .pv (.i v119))], [(2, 27, [.pv (.sl (List.map cAcid v0.acids)), .pv (.i v0.known), .pv (.i v0.hours), .pv (.sl (List.map eI v0.adds)), .pv (.sl (List.map cStrip v0.strips)), .pv (.sl (List.map cBatch v0.batches))]), (3, 27, [.pv (.sl (List.map cAcid v1.acids)), .pv (.i v1.known), .pv (.i v1.hours), .pv (.sl (List.map eI v1.adds)), .pv (.sl (List.map cStrip v1.strips)), .pv (.sl (List.map cBatch v1.batches))])], []⟩ : Env) _
        refine W.seq<|W.seq<|W.region<|vm q q q q q<|ov (g_fld q q q q fl_27_5) q<|ov (g_load1 q q q q q q ag_25) q<|ov (g_lenM (l := v0.batches) (enc := cBatch) q ul_25 q q q) q<|ov (g_lss q q q q q) q<|on0<|Sq.n<|W.cond (b := (decide (v119 < (v0.batches.length : Int)))) q (fun hc => ?_) (fun hc => ?_)
        ·have h := bif_t h hc
         refine W.skip<|Sq.n<|W.seq<|W.block<|W.seq ?_
         obtain ⟨v122, e122, h⟩ := bind_some h
         obtain ⟨v123, e123, h⟩ := bind_some h
         refine W.draw (m := 10) Checked.mixed (Pre.v (GSG.of q (g_fld q q q q fl_27_5)) ((Pre.v (GSG.of q (g_load1 q q q q q q ag_25)) ((Pre.v (GSG.of q (g_move q q q q)) ((Pre.v (GSG.of q (g_idxI (l := v0.batches) (enc := cBatch) e122 q q q q q el_25 q)) ((Pre.v (GSG.of q (g_loadRA q q q q ag_67 sz_67 q q)) ((Pre.v (GSG.of q (g_fld q q q q fl_27_5)) ((Pre.v (GSG.of q (g_load1 q q q q q q ag_25)) ((Pre.v (GSG.of q (g_move q q q q)) ((Pre.v (GSG.of q (g_idxI (l := v1.batches) (enc := cBatch) e123 q q q q q el_25 q)) ((Pre.v (GSG.of q (g_loadRA q q q q ag_67 sz_67 q q)) (Pre.nil _)))))))))))))))))))) (by kernel_rfl)<|ov (g_neq_67 (a := v122) (b := v123) q q q q q) q<|on0<|Sq.n<|W.cond (b := (!decide (v122 = v123))) q (fun hc => ?_) (fun hc => ?_)
         ·have h := bif_t h hc
          refine W.seq<|W.region<|va q q q q q<|on0<|Sq.n<|W.ret<|Bl.r<|Sq.r<|Sq.r<|Bl.r<|Sq.r ?_
          obtain rfl := Option.some.inj h
          exact Fin.r q (.cons (.tmp _ _ q) .nil) q
         ·have h := bif_f h hc
          exact W.skip<|Bl.n<|Sq.n<|W.region<|vm q q q q q<|ov (g_add q q q q q) q<|va q q q q q<|on0<|Sq.n<|⟨(k4, wr (v119 + 1)), h, Nat.lt_succ_self _, has_mk ⟨q, q, q, trivial⟩ ⟨q, q, trivial⟩ trivial q⟩
        ·have h := bif_f h hc
         refine W.exit<|Sq.e<|Sq.e<|Bl.e<|Sq.n<|W.seq<|W.region<|va q q q q q<|on0<|Sq.n<|W.ret ?_
         obtain rfl := Option.some.inj h
         exact Fin.r q (.cons (.tmp _ _ q) .nil) q
end Go.Proofs.YtohmhlkdgfcaeaaGreatDoor
namespace Go.Proofs.YtohmhlkdgfcaeaaGreatDoor
open Go Go.RowKit
set_option maxRecDepth 4000
attribute [local irreducible] W Ops GS GSG
def s_38 (n : Nat) (v0 : Drum) : Option (ByteArray × Int) := (s_104 n v0).bind fun v101 => bif (!v101) then ( some (((ByteArray.mk #[]), 2)) ) else ( (s_105 n v0).bind fun v102 => some ((v102, 0)) )
theorem c_38 (n : Nat) (v0 : Drum) {r : (ByteArray × Int)} (h : s_38 n v0 = some r) :
  Fun Tryz.prog 38 [.agg (cDrum v0)] (.ret (.tup [.s r.1, .val (.int .i64 r.2)])) := by
 unfold s_38 at h
 refine enterW 9 Tryz.func38 q q q ?_
 intro w0 F0
 change W _ _ (Ev [(0, .pv (.agg (cDrum v0)))]) _
 refine W.seq<|W.region<|ob (g_box q q q q q) q q<|va q q q q q<|va q q q q q<|on0<|Sq.n<|W.seq<|W.seq<|W.region<|ov (g_loadA q q q q q ag_27 sz_27 q q) q ?_
 obtain ⟨v101, e101, h⟩ := bind_some h
 refine ov (g_call q q q ca_104 q (c_104 _ _ e101)) q<|ov (g_not q q q q) q<|on0<|Sq.n<|W.cond (b := (!v101)) q (fun hc => ?_) (fun hc => ?_)
 ·have h := bif_t h hc
  refine W.seq<|W.region<|va q q q q q<|va q q q q q<|on0<|Sq.n<|W.ret<|Sq.r ?_
  obtain rfl := Option.some.inj h
  exact Fin.r q (.cons (.tmp _ _ q) (.cons (.tmp _ _ q) .nil)) q
 ·have h := bif_f h hc
  refine W.skip<|Sq.n<|W.seq<|W.region<|ov (g_loadA q q q q q ag_27 sz_27 q q) q ?_
  obtain ⟨v102, e102, h⟩ := bind_some h
  refine ov (g_call q q q ca_105 q (c_105 _ _ e102)) q<|va q q q q q<|va q q q q q<|on0<|Sq.n<|W.ret ?_
  obtain rfl := Option.some.inj h
  exact Fin.r q (.cons (.tmp _ _ q) (.cons (.tmp _ _ q) .nil)) q
end Go.Proofs.YtohmhlkdgfcaeaaGreatDoor
namespace Go.Proofs.YtohmhlkdgfcaeaaGreatDoor
open Go Go.RowKit
theorem W.seq_here {X : Cx} {x y : Code} {Q : Exit → Env → Prop} {a : Act} {w : World} (h : x.wp X.P (QQ X (Sq (fun E' => W X y E' Q) Q)) a w) : (Code.seq x y).wp X.P (QQ X Q) a w :=
 wp_seq (wp_mono h (fun e a' w' hq => by
  obtain ⟨g', F', E', hr', hq'⟩ := hq
  cases e with
  | normal => exact hq' g' F' a' w' hr'
  | exit id => exact ⟨g', F', E', hr', hq'⟩
  | goto l => exact ⟨g', F', E', hr', hq'⟩
  | ret => exact ⟨g', F', E', hr', hq'⟩
  | panic ch => exact ⟨g', F', E', hr', hq'⟩
  | outgrown => exact ⟨g', F', E', hr', hq'⟩))
theorem Ops.here {X : Cx} {ops : Array Oper} {rest : List Oper} {E : Env} {Q : Exit → Env → Prop} {g : Ghost} {F : Foot} {a : Act} {w : World} (hr : Rel X.w0 X.F0 X.nt g F E a w) (h : Ops X ops rest E Q) : wpList X.P ops (QQ X Q) rest a w := h g F a w hr
theorem run_store_at {P : Program} {T : TypeId} {o : Oper} {a : Act} {x y : Operand} {v u : Value} (hs : SzIs P T 1) (w : World) (b j : Nat) (cur : Array Value) (T' : TypeId) (fz : Nat × Nat) (hb : w.heap[b]? = some (.cells cur T' fz)) (hj : j < cur.size) (hf : (decide (fz.1 ≤ j) && decide (j < fz.2)) = false) (hx : a.eval x = .pointer (some ⟨b, j, none⟩)) (hy : a.eval y = v) (ho : o.op = .store T x y := by rfl) (h1 : v.cells = #[u] := by rfl) (h2 : u.oneCell' = true := by rfl) :
  (execOp a.eval o).run P w = .ok .skip (w.setRow b (cur.setIfInBounds j u)) := by
 have hadd : (⟨b, j, none⟩ : Addr).add 0 = ⟨b, j, none⟩ := by unfold Addr.add; split <;> simp_all
 have hcell : w.cell? ⟨b, j, none⟩ = some cur[j] := by simp [World.cell?, hb, hj]
 have hfro : w.frozen? ⟨b, j, none⟩ = false := by simp only [World.frozen?, hb]; exact hf
 have hst : (store ((⟨b, j, none⟩ : Addr).add 0) u).run P w = .ok () (w.setRow b (cur.setIfInBounds j u)) := by
  rw [hadd, run_store P w _ u _ h2, hcell]
  simp [hfro, setCell_eq_setRow w b j cur T' fz u hb]
 simp only [execOp, ho, hx, hy, Sem.run_bind, Instr.storeAt, Instr.sureAddr, storeVar, Sem.run_pure, Result.andThen_ok, hs.run, h1]
 simp [storeCells, hst]
theorem Rel.freeF {w0 : World} {F0 : Foot} {nt : Nat} {g : Ghost} {F : Foot} {a : Act} {w : World} {ts : List (Nat × TV)} (hr : Rel w0 F0 nt g F ⟨ts, [], []⟩ a w) {b : Nat} (us : Array Value) (h0 : w0.heap.size ≤ b) (hF : ∀ o, ¬ F.c b o) (hm : ¬ F.m b) : Rel w0 F0 nt g F ⟨ts, [], []⟩ a (w.setRow b us) := by
 have ht : Turns w0 F (fun x => x = b) w (w.setRow b us) := ⟨rfl, rfl, rfl, by simp [World.setRow], fun k hk hs => heap_setRow_ne w us hs, fun k hs => by subst hs; exact ⟨h0, hF, hm⟩⟩
 exact hr.still ht (fun k b' hb' => by rw [hr.bd k rfl] at hb'; cases hb') (fun k v b' hv => by rw [hr.rd k rfl] at hv; cases hv)
end Go.Proofs.YtohmhlkdgfcaeaaGreatDoor
namespace Go.Proofs.YtohmhlkdgfcaeaaGreatDoor
open Go Go.RowKit Go.ChangeShapes Go.WideShapes Go.Deep
set_option maxRecDepth 100000
theorem parT : ∀ t ∈ [3, 9, 23, 27, 54, 92], ParT t := by
 have h : ([3, 9, 23, 27, 54, 92].all fun t => Tryz.prog.readableRec t && decide (t < Tryz.prog.types.size)) = true := by kernel_rfl
 intro t ht
 have := List.all_eq_true.1 h t ht
 rw [Bool.and_eq_true, decide_eq_true_eq] at this
 exact this
end Go.Proofs.YtohmhlkdgfcaeaaGreatDoor
namespace Go.Proofs.YtohmhlkdgfcaeaaGreatDoor
open Go Go.RowKit
set_option maxRecDepth 4000
attribute [local irreducible] W GS GSG
theorem sz5 : SzIs Tryz.prog 5 1 := SzIs.mk (by kernel_rfl)
def bytesOf (s : ByteArray) : List Int := s.data.toList.map fun c => (c.toNat : Int)
def s_9_j2 (n : Nat) (v1 : Int) (v2 : Int) (v105 : (ByteArray × Int)) (v109 : Bool) : Option (Bool) :=
 bif v109 then (
 (s_24 n ).bind fun v110 =>
 some (v110)
 ) else (
 (ix (bytesOf v105.1) v1).bind fun v111 =>
 (s_40 n (strOfNums (sts (bytesOf v105.1) v1 (IntKind.u8.wrap (wr (48 + v2)))))).bind fun v112 =>
 bif (decide (v112.2 = 4)) then (
 (s_42 n v112.1 (Drum.mk [] 0 0 [] [] [])).bind fun v113 =>
 bif v113 then (
 (s_24 n ).bind fun v114 =>
 some (v114)
 ) else (
 some (false)
 )
 ) else (
 some (false)
 )
 )
def s_9_j1 (n : Nat) (v0 : Drum) (v1 : Int) (v2 : Int) (v103 : Bool) : Option (Bool) :=
 bif v103 then (
 (s_24 n ).bind fun v104 =>
 some (v104)
 ) else (
 (s_38 n v0).bind fun v105 =>
 bif (!decide (v105.2 = 0)) then (
 some (false)
 ) else (
 bif (decide (v1 < 0)) then (
 s_9_j2 n v1 v2 v105 true
 ) else (
 bif (decide (((ByteArray.size v105.1 : Nat) : Int) ≤ v1)) then (
 s_9_j2 n v1 v2 v105 true
 ) else (
 (ixs v105.1 v1).bind fun v106 =>
 bif (decide (v106 < 48)) then (
 s_9_j2 n v1 v2 v105 true
 ) else (
 (ixs v105.1 v1).bind fun v107 =>
 bif (decide (57 < v107)) then (
 s_9_j2 n v1 v2 v105 true
 ) else (
 (ixs v105.1 v1).bind fun v108 =>
 s_9_j2 n v1 v2 v105 (decide ((wr (IntKind.u8.wrap (v108 - 48))) = v2))
 )
 )
 )
 )
 )
 )
def s_9 (n : Nat) (v0 : Drum) (v1 : Int) (v2 : Int) : Option (Bool) :=
 (s_23 n v0).bind fun v101 =>
 bif (!v101) then (
 s_9_j1 n v0 v1 v2 true
 ) else (
 (s_39 n v0).bind fun v102 =>
 bif (!v102) then (
 s_9_j1 n v0 v1 v2 true
 ) else (
 bif (decide (v2 < 0)) then (
 s_9_j1 n v0 v1 v2 true
 ) else (
 s_9_j1 n v0 v1 v2 (decide (9 < v2))
 )
 )
 )
theorem c_9 (n : Nat) (v0 : Drum) (v1 : Int) (v2 : Int) {r : (Bool)} (h : s_9 n v0 v1 v2 = some r) :
  Fun Tryz.prog 9 [.agg (cDrum v0), .val (.int .i64 v1), .val (.int .i64 v2)] (.ret (.b r)) := by
 unfold s_9 at h
 refine enterW 90 Tryz.func9 rfl rfl rfl ?_
 intro w0 F0
 change W _ _ (⟨[(0, .pv (.agg (cDrum v0))), (1, .pv (.val (.int .i64 v1))), (2, .pv (.val (.int .i64 v2)))], [], []⟩ : Env) _
 refine W.seq ?_
 refine W.region ?_
 refine Ops.b (g_box rfl rfl rfl rfl rfl) rfl rfl ?_
 refine Ops.v (g_assign rfl rfl rfl rfl) rfl ?_
 refine Ops.nil ?_
 refine Sq.n ?_
 refine W.seq ?_
 refine W.seqJ (σ := Bool) (fun s => (⟨[(1, .pv (.val (.int .i64 v1))), (2, .pv (.val (.int .i64 v2))), (3, .box 3 0), (27, .pv (.b s))], [(3, 27, [.pv (.sl (List.map cAcid v0.acids)), .pv (.val (.int .i64 v0.known)), .pv (.val (.int .i64 v0.hours)), .pv (.sl (List.map eI v0.adds)), .pv (.sl (List.map cStrip v0.strips)), .pv (.sl (List.map cBatch v0.batches))])], []⟩ : Env)) (fun s => s_9_j1 n v0 v1 v2 s = some r) ?_ ?_
 ·refine W.region ?_
  refine Ops.v (g_loadA rfl rfl rfl rfl rfl ag_27 sz_27 rfl rfl) rfl ?_
  obtain ⟨v101, e101, h⟩ := bind_some h
  refine Ops.v (g_call rfl rfl rfl ca_23 rfl (c_23 _ _ e101)) rfl ?_
  refine Ops.v (g_not rfl rfl rfl rfl) rfl ?_
  refine Ops.v (g_move rfl rfl rfl rfl) rfl ?_
  refine Ops.split 15 rfl (fun hb => ?_) (fun hb => ?_)
  ·have h := bif_t h hb
   refine Ops.off2 rfl rfl rfl rfl rfl rfl ?_
   refine Ops.off2 rfl rfl rfl rfl rfl rfl ?_
   refine Ops.off2 rfl rfl rfl rfl rfl rfl ?_
   refine Ops.v (g_pickT rfl rfl rfl rfl rfl) rfl ?_
   refine Ops.v (g_move rfl rfl rfl rfl) rfl ?_
   refine Ops.off2 rfl rfl rfl rfl rfl rfl ?_
   refine Ops.off2 rfl rfl rfl rfl rfl rfl ?_
   refine Ops.v (g_pickT rfl rfl rfl rfl rfl) rfl ?_
   refine Ops.v (g_move rfl rfl rfl rfl) rfl ?_
   refine Ops.off2 rfl rfl rfl rfl rfl rfl ?_
   refine Ops.off2 rfl rfl rfl rfl rfl rfl ?_
   refine Ops.v (g_pickT rfl rfl rfl rfl rfl) rfl ?_
   refine Ops.nil ?_
   refine Sq.n ?_
   refine ⟨true, h, has_mk ⟨rfl, rfl, rfl, rfl, trivial⟩ ⟨rfl, trivial⟩ trivial rfl⟩
  ·have h := bif_f h hb
   refine Ops.on rfl rfl rfl ?_
   refine Ops.v (g_loadA rfl rfl rfl rfl rfl ag_27 sz_27 rfl rfl) rfl ?_
   refine Ops.on rfl rfl rfl ?_
   obtain ⟨v102, e102, h⟩ := bind_some h
   refine Ops.v (g_call rfl rfl rfl ca_39 rfl (c_39 _ _ e102)) rfl ?_
   refine Ops.on rfl rfl rfl ?_
   refine Ops.v (g_not rfl rfl rfl rfl) rfl ?_
   refine Ops.v (g_pickF rfl rfl rfl rfl rfl) rfl ?_
   refine Ops.v (g_move rfl rfl rfl rfl) rfl ?_
   refine Ops.split 20 rfl (fun hb => ?_) (fun hb => ?_)
   ·have h := bif_t h hb
    refine Ops.off2 rfl rfl rfl rfl rfl rfl ?_
    refine Ops.off2 rfl rfl rfl rfl rfl rfl ?_
    refine Ops.v (g_pickT rfl rfl rfl rfl rfl) rfl ?_
    refine Ops.v (g_move rfl rfl rfl rfl) rfl ?_
    refine Ops.off2 rfl rfl rfl rfl rfl rfl ?_
    refine Ops.off2 rfl rfl rfl rfl rfl rfl ?_
    refine Ops.v (g_pickT rfl rfl rfl rfl rfl) rfl ?_
    refine Ops.nil ?_
    refine Sq.n ?_
    refine ⟨true, h, has_mk ⟨rfl, rfl, rfl, rfl, trivial⟩ ⟨rfl, trivial⟩ trivial rfl⟩
   ·have h := bif_f h hb
    refine Ops.on rfl rfl rfl ?_
    refine Ops.v (g_move rfl rfl rfl rfl) rfl ?_
    refine Ops.on rfl rfl rfl ?_
    refine Ops.v (g_lss rfl rfl rfl rfl rfl) rfl ?_
    refine Ops.v (g_pickF rfl rfl rfl rfl rfl) rfl ?_
    refine Ops.v (g_move rfl rfl rfl rfl) rfl ?_
    refine Ops.split 24 rfl (fun hb => ?_) (fun hb => ?_)
    ·have h := bif_t h hb
     refine Ops.off2 rfl rfl rfl rfl rfl rfl ?_
     refine Ops.off2 rfl rfl rfl rfl rfl rfl ?_
     refine Ops.v (g_pickT rfl rfl rfl rfl rfl) rfl ?_
     refine Ops.nil ?_
     refine Sq.n ?_
     refine ⟨true, h, has_mk ⟨rfl, rfl, rfl, rfl, trivial⟩ ⟨rfl, trivial⟩ trivial rfl⟩
    ·have h := bif_f h hb
     refine Ops.on rfl rfl rfl ?_
     refine Ops.v (g_move rfl rfl rfl rfl) rfl ?_
     refine Ops.on rfl rfl rfl ?_
     refine Ops.v (g_gtr rfl rfl rfl rfl rfl) rfl ?_
     refine Ops.v (g_pickF rfl rfl rfl rfl rfl) rfl ?_
     refine Ops.nil ?_
     refine Sq.n ?_
     refine ⟨(decide (9 < v2)), h, has_mk ⟨rfl, rfl, rfl, rfl, trivial⟩ ⟨rfl, trivial⟩ trivial rfl⟩
 ·rintro v103 h
  change s_9_j1 n v0 v1 v2 v103 = some r at h
  unfold s_9_j1 at h
  change W _ _ (⟨[(1, .pv (.val (.int .i64 v1))), (2, .pv (.val (.int .i64 v2))), (3, .box 3 0), (27, .pv (.b v103))], [(3, 27, [.pv (.sl (List.map cAcid v0.acids)), .pv (.val (.int .i64 v0.known)), .pv (.val (.int .i64 v0.hours)), .pv (.sl (List.map eI v0.adds)), .pv (.sl (List.map cStrip v0.strips)), .pv (.sl (List.map cBatch v0.batches))])], []⟩ : Env) _
  refine W.cond (b := v103) rfl (fun hc => ?_) (fun hc => ?_)
  ·have h := bif_t h hc
   refine W.seq ?_
   refine W.region ?_
   obtain ⟨v104, e104, h⟩ := bind_some h
   refine Ops.v (g_call rfl rfl rfl ca_24 rfl (c_24 _  e104)) rfl ?_
   refine Ops.v (g_assign rfl rfl rfl rfl) rfl ?_
   refine Ops.nil ?_
   refine Sq.n ?_
   refine W.ret ?_
   refine Sq.r ?_
   obtain rfl := Option.some.inj h
   exact Fin.r rfl (.cons (.tmp _ _ rfl) .nil) rfl
  ·have h := bif_f h hc
   refine W.skip ?_
   refine Sq.n ?_
   refine W.seq ?_
   refine W.region ?_
   refine Ops.v (g_loadA rfl rfl rfl rfl rfl ag_27 sz_27 rfl rfl) rfl ?_
   obtain ⟨v105, e105, h⟩ := bind_some h
   refine Ops.v (g_call rfl rfl rfl ca_38 rfl (c_38 _ _ e105)) rfl ?_
   refine Ops.v (g_move rfl rfl rfl rfl) rfl ?_
   refine Ops.v (g_extract rfl rfl rfl rfl rfl) rfl ?_
   refine Ops.v (g_extract rfl rfl rfl rfl rfl) rfl ?_
   refine Ops.v (g_assign rfl rfl rfl rfl) rfl ?_
   refine Ops.v (g_assign rfl rfl rfl rfl) rfl ?_
   refine Ops.nil ?_
   refine Sq.n ?_
   refine W.seq ?_
   refine W.seq ?_
   refine W.region ?_
   refine Ops.v (g_move rfl rfl rfl rfl) rfl ?_
   refine Ops.v (g_neq rfl rfl rfl rfl rfl) rfl ?_
   refine Ops.nil ?_
   refine Sq.n ?_
   refine W.cond (b := (!decide (v105.2 = 0))) rfl (fun hc => ?_) (fun hc => ?_)
   ·have h := bif_t h hc
    refine W.seq ?_
    refine W.region ?_
    refine Ops.v (g_assign rfl rfl rfl rfl) rfl ?_
    refine Ops.nil ?_
    refine Sq.n ?_
    refine W.ret ?_
    refine Sq.r ?_
    obtain rfl := Option.some.inj h
    exact Fin.r rfl (.cons (.tmp _ _ rfl) .nil) rfl
   ·have h := bif_f h hc
    refine W.skip ?_
    refine Sq.n ?_
    refine W.seq ?_
    refine W.seqJ (σ := Bool) (fun s => (⟨[(1, .pv (.val (.int .i64 v1))), (2, .pv (.val (.int .i64 v2))), (7, .pv (.s v105.1)), (64, .pv (.b s))], [], []⟩ : Env)) (fun s => s_9_j2 n v1 v2 v105 s = some r) ?_ ?_
    ·refine W.region ?_
     refine Ops.v (g_move rfl rfl rfl rfl) rfl ?_
     refine Ops.v (g_lss rfl rfl rfl rfl rfl) rfl ?_
     refine Ops.v (g_move rfl rfl rfl rfl) rfl ?_
     refine Ops.split 38 rfl (fun hb => ?_) (fun hb => ?_)
     ·have h := bif_t h hb
      refine Ops.off2 rfl rfl rfl rfl rfl rfl ?_
      refine Ops.off2 rfl rfl rfl rfl rfl rfl ?_
      refine Ops.off2 rfl rfl rfl rfl rfl rfl ?_
      refine Ops.off2 rfl rfl rfl rfl rfl rfl ?_
      refine Ops.v (g_pickT rfl rfl rfl rfl rfl) rfl ?_
      refine Ops.v (g_move rfl rfl rfl rfl) rfl ?_
      refine Ops.off2 rfl rfl rfl rfl rfl rfl ?_
      refine Ops.off2 rfl rfl rfl rfl rfl rfl ?_
      refine Ops.off2 rfl rfl rfl rfl rfl rfl ?_
      refine Ops.off2 rfl rfl rfl rfl rfl rfl ?_
      refine Ops.v (g_pickT rfl rfl rfl rfl rfl) rfl ?_
      refine Ops.v (g_move rfl rfl rfl rfl) rfl ?_
      refine Ops.off2 rfl rfl rfl rfl rfl rfl ?_
      refine Ops.off2 rfl rfl rfl rfl rfl rfl ?_
      refine Ops.off2 rfl rfl rfl rfl rfl rfl ?_
      refine Ops.off2 rfl rfl rfl rfl rfl rfl ?_
      refine Ops.v (g_pickT rfl rfl rfl rfl rfl) rfl ?_
      refine Ops.v (g_move rfl rfl rfl rfl) rfl ?_
      refine Ops.off2 rfl rfl rfl rfl rfl rfl ?_
      refine Ops.off2 rfl rfl rfl rfl rfl rfl ?_
      refine Ops.off2 rfl rfl rfl rfl rfl rfl ?_
      refine Ops.off2 rfl rfl rfl rfl rfl rfl ?_
      refine Ops.off2 rfl rfl rfl rfl rfl rfl ?_
      refine Ops.off2 rfl rfl rfl rfl rfl rfl ?_
      refine Ops.off2 rfl rfl rfl rfl rfl rfl ?_
      refine Ops.v (g_pickT rfl rfl rfl rfl rfl) rfl ?_
      refine Ops.nil ?_
      refine Sq.n ?_
      refine ⟨true, h, has_mk ⟨rfl, rfl, rfl, rfl, trivial⟩ trivial trivial rfl⟩
     ·have h := bif_f h hb
      refine Ops.on rfl rfl rfl ?_
      refine Ops.v (g_move rfl rfl rfl rfl) rfl ?_
      refine Ops.on rfl rfl rfl ?_
      refine Ops.v (g_move rfl rfl rfl rfl) rfl ?_
      refine Ops.on rfl rfl rfl ?_
      refine Ops.v (g_len_s (c := { callee := .builtin .len, args := #[], argTypes := #[] }) rfl us_9 rfl rfl rfl) rfl ?_
      refine Ops.on rfl rfl rfl ?_
      refine Ops.v (g_geq rfl rfl rfl rfl rfl) rfl ?_
      refine Ops.v (g_pickF rfl rfl rfl rfl rfl) rfl ?_
      refine Ops.v (g_move rfl rfl rfl rfl) rfl ?_
      refine Ops.split 44 rfl (fun hb => ?_) (fun hb => ?_)
      ·have h := bif_t h hb
       refine Ops.off2 rfl rfl rfl rfl rfl rfl ?_
       refine Ops.off2 rfl rfl rfl rfl rfl rfl ?_
       refine Ops.off2 rfl rfl rfl rfl rfl rfl ?_
       refine Ops.off2 rfl rfl rfl rfl rfl rfl ?_
       refine Ops.v (g_pickT rfl rfl rfl rfl rfl) rfl ?_
       refine Ops.v (g_move rfl rfl rfl rfl) rfl ?_
       refine Ops.off2 rfl rfl rfl rfl rfl rfl ?_
       refine Ops.off2 rfl rfl rfl rfl rfl rfl ?_
       refine Ops.off2 rfl rfl rfl rfl rfl rfl ?_
       refine Ops.off2 rfl rfl rfl rfl rfl rfl ?_
       refine Ops.v (g_pickT rfl rfl rfl rfl rfl) rfl ?_
       refine Ops.v (g_move rfl rfl rfl rfl) rfl ?_
       refine Ops.off2 rfl rfl rfl rfl rfl rfl ?_
       refine Ops.off2 rfl rfl rfl rfl rfl rfl ?_
       refine Ops.off2 rfl rfl rfl rfl rfl rfl ?_
       refine Ops.off2 rfl rfl rfl rfl rfl rfl ?_
       refine Ops.off2 rfl rfl rfl rfl rfl rfl ?_
       refine Ops.off2 rfl rfl rfl rfl rfl rfl ?_
       refine Ops.off2 rfl rfl rfl rfl rfl rfl ?_
       refine Ops.v (g_pickT rfl rfl rfl rfl rfl) rfl ?_
       refine Ops.nil ?_
       refine Sq.n ?_
       refine ⟨true, h, has_mk ⟨rfl, rfl, rfl, rfl, trivial⟩ trivial trivial rfl⟩
      ·have h := bif_f h hb
       refine Ops.on rfl rfl rfl ?_
       refine Ops.v (g_move rfl rfl rfl rfl) rfl ?_
       refine Ops.on rfl rfl rfl ?_
       refine Ops.v (g_move rfl rfl rfl rfl) rfl ?_
       refine Ops.on rfl rfl rfl ?_
       obtain ⟨v106, e106, h⟩ := bind_some h
       refine Ops.v (g_index_sI e106 rfl rfl rfl rfl rfl us_9) rfl ?_
       refine Ops.on rfl rfl rfl ?_
       refine Ops.v (g_lss rfl rfl rfl rfl rfl) rfl ?_
       refine Ops.v (g_pickF rfl rfl rfl rfl rfl) rfl ?_
       refine Ops.v (g_move rfl rfl rfl rfl) rfl ?_
       refine Ops.split 50 rfl (fun hb => ?_) (fun hb => ?_)
       ·have h := bif_t h hb
        refine Ops.off2 rfl rfl rfl rfl rfl rfl ?_
        refine Ops.off2 rfl rfl rfl rfl rfl rfl ?_
        refine Ops.off2 rfl rfl rfl rfl rfl rfl ?_
        refine Ops.off2 rfl rfl rfl rfl rfl rfl ?_
        refine Ops.v (g_pickT rfl rfl rfl rfl rfl) rfl ?_
        refine Ops.v (g_move rfl rfl rfl rfl) rfl ?_
        refine Ops.off2 rfl rfl rfl rfl rfl rfl ?_
        refine Ops.off2 rfl rfl rfl rfl rfl rfl ?_
        refine Ops.off2 rfl rfl rfl rfl rfl rfl ?_
        refine Ops.off2 rfl rfl rfl rfl rfl rfl ?_
        refine Ops.off2 rfl rfl rfl rfl rfl rfl ?_
        refine Ops.off2 rfl rfl rfl rfl rfl rfl ?_
        refine Ops.off2 rfl rfl rfl rfl rfl rfl ?_
        refine Ops.v (g_pickT rfl rfl rfl rfl rfl) rfl ?_
        refine Ops.nil ?_
        refine Sq.n ?_
        refine ⟨true, h, has_mk ⟨rfl, rfl, rfl, rfl, trivial⟩ trivial trivial rfl⟩
       ·have h := bif_f h hb
        refine Ops.on rfl rfl rfl ?_
        refine Ops.v (g_move rfl rfl rfl rfl) rfl ?_
        refine Ops.on rfl rfl rfl ?_
        refine Ops.v (g_move rfl rfl rfl rfl) rfl ?_
        refine Ops.on rfl rfl rfl ?_
        obtain ⟨v107, e107, h⟩ := bind_some h
        refine Ops.v (g_index_sI e107 rfl rfl rfl rfl rfl us_9) rfl ?_
        refine Ops.on rfl rfl rfl ?_
        refine Ops.v (g_gtr rfl rfl rfl rfl rfl) rfl ?_
        refine Ops.v (g_pickF rfl rfl rfl rfl rfl) rfl ?_
        refine Ops.v (g_move rfl rfl rfl rfl) rfl ?_
        refine Ops.split 56 rfl (fun hb => ?_) (fun hb => ?_)
        ·have h := bif_t h hb
         refine Ops.off2 rfl rfl rfl rfl rfl rfl ?_
         refine Ops.off2 rfl rfl rfl rfl rfl rfl ?_
         refine Ops.off2 rfl rfl rfl rfl rfl rfl ?_
         refine Ops.off2 rfl rfl rfl rfl rfl rfl ?_
         refine Ops.off2 rfl rfl rfl rfl rfl rfl ?_
         refine Ops.off2 rfl rfl rfl rfl rfl rfl ?_
         refine Ops.off2 rfl rfl rfl rfl rfl rfl ?_
         refine Ops.v (g_pickT rfl rfl rfl rfl rfl) rfl ?_
         refine Ops.nil ?_
         refine Sq.n ?_
         refine ⟨true, h, has_mk ⟨rfl, rfl, rfl, rfl, trivial⟩ trivial trivial rfl⟩
        ·have h := bif_f h hb
         refine Ops.on rfl rfl rfl ?_
         refine Ops.v (g_move rfl rfl rfl rfl) rfl ?_
         refine Ops.on rfl rfl rfl ?_
         refine Ops.v (g_move rfl rfl rfl rfl) rfl ?_
         refine Ops.on rfl rfl rfl ?_
         obtain ⟨v108, e108, h⟩ := bind_some h
         refine Ops.v (g_index_sI e108 rfl rfl rfl rfl rfl us_9) rfl ?_
         refine Ops.on rfl rfl rfl ?_
         refine Ops.v (g_sub rfl rfl rfl rfl rfl) rfl ?_
         refine Ops.on rfl rfl rfl ?_
         refine Ops.v (g_conv rfl rfl rfl rfl ⟨_, ui_5⟩ ui_3) rfl ?_
         refine Ops.on rfl rfl rfl ?_
         refine Ops.v (g_move rfl rfl rfl rfl) rfl ?_
         refine Ops.on rfl rfl rfl ?_
         refine Ops.v (g_eql rfl rfl rfl rfl rfl) rfl ?_
         refine Ops.v (g_pickF rfl rfl rfl rfl rfl) rfl ?_
         refine Ops.nil ?_
         refine Sq.n ?_
         refine ⟨(decide ((wr (IntKind.u8.wrap (v108 - 48))) = v2)), h, has_mk ⟨rfl, rfl, rfl, rfl, trivial⟩ trivial trivial rfl⟩
    ·rintro v109 h
     change s_9_j2 n v1 v2 v105 v109 = some r at h
     unfold s_9_j2 at h
     change W _ _ (⟨[(1, .pv (.val (.int .i64 v1))), (2, .pv (.val (.int .i64 v2))), (7, .pv (.s v105.1)), (64, .pv (.b v109))], [], []⟩ : Env) _
     refine W.cond (b := v109) rfl (fun hc => ?_) (fun hc => ?_)
     ·have h := bif_t h hc
      refine W.seq ?_
      refine W.region ?_
      obtain ⟨v110, e110, h⟩ := bind_some h
      refine Ops.v (g_call rfl rfl rfl ca_24 rfl (c_24 _  e110)) rfl ?_
      refine Ops.v (g_assign rfl rfl rfl rfl) rfl ?_
      refine Ops.nil ?_
      refine Sq.n ?_
      refine W.ret ?_
      refine Sq.r ?_
      obtain rfl := Option.some.inj h
      exact Fin.r rfl (.cons (.tmp _ _ rfl) .nil) rfl
     ·have h := bif_f h hc
      refine W.skip ?_
      refine Sq.n ?_
      obtain ⟨v111, e111, h⟩ := bind_some h
      obtain ⟨v112, e112, h⟩ := bind_some h
      refine W.raw ?_
      intro g F a w hr
      have s1 := rel_val hr (t := 1) rfl
      have s2 := rel_val hr (t := 2) rfl
      have s7 := rel_val hr (t := 7) rfl
      have hs : a.tmps.size = 90 := hr.sz
      have hdf := hr.dfr
      obtain ⟨g0, hr0⟩ := hr.weaken (E' := ⟨[], [], []⟩) (has_mk trivial trivial trivial rfl)
      obtain ⟨i0, i1⟩ := ix_get e111
      have ilt := ix_lt e111
      have ilen : (bytesOf v105.1).length = v105.1.size := by unfold bytesOf; rw [List.length_map, Array.length_toList]; rfl
      have i2 : v1.toNat < v105.1.size := by omega
      generalize hcap : grownCap w v105.1.size 0 5 = cap
      generalize hfz : ((bytesRow v105.1 cap).size, (bytesRow v105.1 cap).size + 1) = fz
      have hsz : v105.1.size ≤ (bytesRow v105.1 cap).size := by unfold bytesRow; rw [Array.size_append, Array.size_map]; exact Nat.le_add_right _ _
      have hff : (decide (fz.1 ≤ v1.toNat) && decide (v1.toNat < fz.2)) = false := by
       subst hfz
       have h9 : ¬ ((bytesRow v105.1 cap).size ≤ v1.toNat) := by omega
       simp [h9]
      have hr1 := hr0.drew.alloc (.cells (bytesRow v105.1 cap) 5 fz)
      have hh1 : (w.drew.alloc (.cells (bytesRow v105.1 cap) 5 fz)).heap[w.heap.size]? = some (.cells (bytesRow v105.1 cap) 5 fz) := heap_alloc_new w.drew _
      have hF1 : ∀ o, ¬ F.c w.heap.size o := fun o hc => by have := hr.ok.lt _ _ hc; omega
      have hr2 := hr1.freeF (b := w.heap.size) ((bytesRow v105.1 cap).setIfInBounds v1.toNat (.int .u8 (IntKind.u8.wrap (wr (48 + v2))))) hr.ext.size hF1 (no_m hr.ok (Nat.le_refl _))
      have hh2 := setRow_heap (w.drew.alloc (.cells (bytesRow v105.1 cap) 5 fz)) w.heap.size _ ((bytesRow v105.1 cap).setIfInBounds v1.toNat (.int .u8 (IntKind.u8.wrap (wr (48 + v2))))) 5 fz hh1
      refine wp_seq (wp_region_lit ?_)
      refine wpList_val (v := .string v105.1) (w' := w) rfl rfl ?_ ?_
      ·have e : a.eval (.tmp 7) = .string v105.1 := by simp [Act.eval, Array.getD_eq_getD_getElem?, s7]
       simp only [execOp, e]
       rfl
      refine wpList_val (v := .slice (some ⟨w.heap.size, 0, none⟩) v105.1.size cap) (w' := w.drew.alloc (.cells (bytesRow v105.1 cap) 5 fz)) rfl rfl ?_ ?_
      ·have e : (a.put (some 66) (.string v105.1)).eval (.tmp 66) = .string v105.1 := ev_same (by omega)
       have hrun := run_bytes_of_string (P := Tryz.prog) w 9 73 5 v105.1 us_9 ul_73 ui_5
       rw [hcap, hfz] at hrun
       simp only [execOp, e, Sem.run_bind, hrun, Result.andThen_ok]
       rfl
      refine wpList_val (v := .slice (some ⟨w.heap.size, 0, none⟩) v105.1.size cap) (w' := w.drew.alloc (.cells (bytesRow v105.1 cap) 5 fz)) rfl rfl ?_ ?_
      ·have e : ((a.put (some 66) (.string v105.1)).put (some 67) (.slice (some ⟨w.heap.size, 0, none⟩) v105.1.size cap)).eval (.tmp 67) = .slice (some ⟨w.heap.size, 0, none⟩) v105.1.size cap := ev_same (by simp [Act.put]; omega)
       simp only [execOp, e]
       rfl
      generalize ha1 : (((a.put (some 66) (.string v105.1)).put (some 67) (.slice (some ⟨w.heap.size, 0, none⟩) v105.1.size cap)).put (some 9) (.slice (some ⟨w.heap.size, 0, none⟩) v105.1.size cap)) = a1
      have hs1 : a1.tmps.size = 90 := by subst ha1; simp [Act.put, hs]
      have hd1 : a1.defers = [] := by subst ha1; exact hdf
      have f9 : a1.eval (.tmp 9) = .slice (some ⟨w.heap.size, 0, none⟩) v105.1.size cap := by subst ha1; exact ev_same (by simp [Act.put]; omega)
      have f1 : a1.eval (.tmp 1) = .int .i64 v1 := by subst ha1; rw [ev_ne (by decide), ev_ne (by decide), ev_ne (by decide)]; simp [Act.eval, Array.getD_eq_getD_getElem?, s1]
      have f2 : a1.eval (.tmp 2) = .int .i64 v2 := by subst ha1; rw [ev_ne (by decide), ev_ne (by decide), ev_ne (by decide)]; simp [Act.eval, Array.getD_eq_getD_getElem?, s2]
      clear ha1
      refine wp_seq (wp_region_lit ?_)
      refine wpList_val (v := .slice (some ⟨w.heap.size, 0, none⟩) v105.1.size cap) (w' := w.drew.alloc (.cells (bytesRow v105.1 cap) 5 fz)) rfl rfl (by simp only [execOp, f9]; rfl) ?_
      refine wpList_val (v := .int .i64 v1) (w' := w.drew.alloc (.cells (bytesRow v105.1 cap) 5 fz)) rfl rfl ?_ ?_
      ·have e : (a1.put (some 68) (.slice (some ⟨w.heap.size, 0, none⟩) v105.1.size cap)).eval (.tmp 1) = .int .i64 v1 := by rw [ev_ne (by decide)]; exact f1
       simp only [execOp, e]
       rfl
      refine wpList_val (v := .int .i64 v2) (w' := w.drew.alloc (.cells (bytesRow v105.1 cap) 5 fz)) rfl rfl ?_ ?_
      ·have e : ((a1.put (some 68) (.slice (some ⟨w.heap.size, 0, none⟩) v105.1.size cap)).put (some 69) (.int .i64 v1)).eval (.tmp 2) = .int .i64 v2 := by rw [ev_ne (by decide), ev_ne (by decide)]; exact f2
       simp only [execOp, e]
       rfl
      generalize ha2 : (((a1.put (some 68) (.slice (some ⟨w.heap.size, 0, none⟩) v105.1.size cap)).put (some 69) (.int .i64 v1)).put (some 70) (.int .i64 v2)) = a2
      have hs2 : a2.tmps.size = 90 := by subst ha2; simp [Act.put, hs1]
      have hd2 : a2.defers = [] := by subst ha2; exact hd1
      have k9 : a2.eval (.tmp 9) = .slice (some ⟨w.heap.size, 0, none⟩) v105.1.size cap := by subst ha2; rw [ev_ne (by decide), ev_ne (by decide), ev_ne (by decide)]; exact f9
      have k68 : a2.eval (.tmp 68) = .slice (some ⟨w.heap.size, 0, none⟩) v105.1.size cap := by subst ha2; rw [ev_ne (by decide), ev_ne (by decide)]; exact ev_same (by omega)
      have k69 : a2.eval (.tmp 69) = .int .i64 v1 := by subst ha2; rw [ev_ne (by decide)]; exact ev_same (by simp [Act.put]; omega)
      have k70 : a2.eval (.tmp 70) = .int .i64 v2 := by subst ha2; exact ev_same (by simp [Act.put]; omega)
      clear ha2
      refine wpList_val (v := .int .i64 (wr (48 + v2))) (w' := w.drew.alloc (.cells (bytesRow v105.1 cap) 5 fz)) rfl rfl ?_ ?_
      ·simp only [execOp, k70, show ∀ a : Act, a.eval (.const (.int .i64 48)) = .int .i64 48 from fun _ => rfl]
       rw [Sem.run_bind, noGuard]
       simp [binOp, Op.intArith, wr]
      refine wpList_val (v := .int .u8 (IntKind.u8.wrap (wr (48 + v2)))) (w' := w.drew.alloc (.cells (bytesRow v105.1 cap) 5 fz)) rfl rfl ?_ ?_
      ·have e : (a2.put (some 71) (.int .i64 (wr (48 + v2)))).eval (.tmp 71) = .int .i64 (wr (48 + v2)) := ev_same (by omega)
       simp only [execOp, e, convert]
       simp [run_underlying ui_3, run_underlying ui_5, Conv.intToInt]
      refine wpList_val (v := .pointer (some ⟨w.heap.size, v1.toNat, none⟩)) (w' := w.drew.alloc (.cells (bytesRow v105.1 cap) 5 fz)) rfl rfl ?_ ?_
      ·have e1 : ((a2.put (some 71) (.int .i64 (wr (48 + v2)))).put (some 72) (.int .u8 (IntKind.u8.wrap (wr (48 + v2))))).eval (.tmp 68) = .slice (some ⟨w.heap.size, 0, none⟩) v105.1.size cap := by rw [ev_ne (by decide), ev_ne (by decide)]; exact k68
       have e2 : ((a2.put (some 71) (.int .i64 (wr (48 + v2)))).put (some 72) (.int .u8 (IntKind.u8.wrap (wr (48 + v2))))).eval (.tmp 69) = .int .i64 v1 := by rw [ev_ne (by decide), ev_ne (by decide)]; exact k69
       have hrun := run_index_slice el_73 .i64 v1 ⟨w.heap.size, 0, none⟩ v105.1.size cap i0 (by omega) (w.drew.alloc (.cells (bytesRow v105.1 cap) 5 fz))
       rw [Nat.mul_one, addr_block] at hrun
       simp only [execOp, e1, e2, Sem.run_bind, hrun, Result.andThen_ok]
       rfl
      refine wpList_none (w' := (w.drew.alloc (.cells (bytesRow v105.1 cap) 5 fz)).setRow w.heap.size ((bytesRow v105.1 cap).setIfInBounds v1.toNat (.int .u8 (IntKind.u8.wrap (wr (48 + v2)))))) rfl rfl
       (run_store_at (v := .int .u8 (IntKind.u8.wrap (wr (48 + v2)))) (u := .int .u8 (IntKind.u8.wrap (wr (48 + v2)))) (x := .tmp 73) (y := .tmp 72) sz5 _ w.heap.size v1.toNat _ 5 fz hh1 (by omega) hff (ev_same (by simp [Act.put]; omega)) (by rw [ev_ne (by decide)]; exact ev_same (by simp [Act.put]; omega))) ?_
      refine W.seq_here (X := ⟨Tryz.prog, w0, F0, 90⟩) (wp_region_lit ?_)
      refine wpList_val (v := .slice (some ⟨w.heap.size, 0, none⟩) v105.1.size cap) (w' := (w.drew.alloc (.cells (bytesRow v105.1 cap) 5 fz)).setRow w.heap.size ((bytesRow v105.1 cap).setIfInBounds v1.toNat (.int .u8 (IntKind.u8.wrap (wr (48 + v2)))))) rfl rfl ?_ ?_
      ·have e : (((a2.put (some 71) (.int .i64 (wr (48 + v2)))).put (some 72) (.int .u8 (IntKind.u8.wrap (wr (48 + v2))))).put (some 73) (.pointer (some ⟨w.heap.size, v1.toNat, none⟩))).eval (.tmp 9) = .slice (some ⟨w.heap.size, 0, none⟩) v105.1.size cap := by rw [ev_ne (by decide), ev_ne (by decide), ev_ne (by decide)]; exact k9
       simp only [execOp, e]
       rfl
      refine wpList_val (v := .string (strOfNums (sts (bytesOf v105.1) v1 (IntKind.u8.wrap (wr (48 + v2)))))) (w' := (w.drew.alloc (.cells (bytesRow v105.1 cap) 5 fz)).setRow w.heap.size ((bytesRow v105.1 cap).setIfInBounds v1.toNat (.int .u8 (IntKind.u8.wrap (wr (48 + v2)))))) rfl rfl ?_ ?_
      ·have e : ((((a2.put (some 71) (.int .i64 (wr (48 + v2)))).put (some 72) (.int .u8 (IntKind.u8.wrap (wr (48 + v2))))).put (some 73) (.pointer (some ⟨w.heap.size, v1.toNat, none⟩))).put (some 75) (.slice (some ⟨w.heap.size, 0, none⟩) v105.1.size cap)).eval (.tmp 75) = .slice (some ⟨w.heap.size, 0, none⟩) v105.1.size cap := ev_same (by simp [Act.put]; omega)
       have hrun := run_convert_bytes_arg (P := Tryz.prog) (w := (w.drew.alloc (.cells (bytesRow v105.1 cap) 5 fz)).setRow w.heap.size ((bytesRow v105.1 cap).setIfInBounds v1.toNat (.int .u8 (IntKind.u8.wrap (wr (48 + v2)))))) 73 5 ul_73 ui_5 w.heap.size 0 v105.1.size cap (sts (bytesOf v105.1) v1 (IntKind.u8.wrap (wr (48 + v2)))) (by simp only [sts, List.length_set]; exact ilen) (fun i hi => by
        have hib : i < v105.1.data.size := hi
        simp only [World.cell?, hh2, Nat.zero_add]
        by_cases hiv : v1.toNat = i
        ·subst hiv
         have hl : v1.toNat < (bytesRow v105.1 cap).size := by omega
         have hl2 : v1.toNat < (bytesOf v105.1).length := by omega
         simp [sts, List.getD_eq_getElem?_getD, hl, hl2]
        ·have h1 := bytesRow_at v105.1 cap i hib
         rw [Array.getElem?_setIfInBounds_ne hiv, h1]
         simp [sts, List.getD_eq_getElem?_getD, List.getElem?_set_ne hiv, bytesOf, Array.getElem?_eq_getElem hib]) 9 us_9
       simp only [execOp, e, Sem.run_bind, hrun, Result.andThen_ok]
       rfl
      refine Ops.here (X := ⟨Tryz.prog, w0, F0, 90⟩) (E := ⟨[(76, .pv (.s (strOfNums (sts (bytesOf v105.1) v1 (IntKind.u8.wrap (wr (48 + v2)))))))], [], []⟩) (hr2.slots hd2 (by simp [Act.put, hs2]) (slots_ok (fun q hq => by
       rcases List.mem_singleton.1 hq with rfl
       exact ⟨_, by simp [Act.put, hs2], Rd.val _⟩))) ?_
      refine Ops.v (g_call rfl rfl rfl ca_40 rfl (c_40 _ _ e112)) rfl ?_
      refine Ops.v (g_move rfl rfl rfl rfl) rfl ?_
      refine Ops.v (g_extract rfl rfl rfl rfl rfl) rfl ?_
      refine Ops.v (g_extract rfl rfl rfl rfl rfl) rfl ?_
      refine Ops.b (g_alloc rfl rfl rfl zr_27) rfl rfl ?_
      refine Ops.step rfl (s_storeB rfl rfl rfl rfl rfl rfl sz_27 rfl rfl) ?_
      refine Ops.v (g_assign rfl rfl rfl rfl) rfl ?_
      refine Ops.nil ?_
      refine Sq.n ?_
      refine W.seq ?_
      refine W.region ?_
      refine Ops.v (g_move rfl rfl rfl rfl) rfl ?_
      refine Ops.v (g_eql rfl rfl rfl rfl rfl) rfl ?_
      refine Ops.v (g_move rfl rfl rfl rfl) rfl ?_
      refine Ops.split 82 rfl (fun hb => ?_) (fun hb => ?_)
      ·have h := bif_t h hb
       refine Ops.on rfl rfl rfl ?_
       refine Ops.v (g_loadA rfl rfl rfl rfl rfl ag_27 sz_27 rfl rfl) rfl ?_
       refine Ops.on rfl rfl rfl ?_
       refine Ops.v (g_build (cs := [.val (.slice none 0 0), .val (.int .i64 0), .val (.int .i64 0), .val (.slice none 0 0), .val (.slice none 0 0), .val (.slice none 0 0)]) rfl rfl rfl zr_27 st_27 rfl rfl) rfl ?_
       refine Ops.on rfl rfl rfl ?_
       obtain ⟨v113, e113, h⟩ := bind_some h
       refine Ops.v (g_call rfl rfl rfl ca_42 rfl (Fun.soft (c_42 _ _ _ e113) rfl)) rfl ?_
       refine Ops.v (g_pickT rfl rfl rfl rfl rfl) rfl ?_
       refine Ops.v (g_move rfl rfl rfl rfl) rfl ?_
       refine Ops.split 87 rfl (fun hb => ?_) (fun hb => ?_)
       ·have h := bif_t h hb
        refine Ops.on rfl rfl rfl ?_
        obtain ⟨v114, e114, h⟩ := bind_some h
        refine Ops.v (g_call rfl rfl rfl ca_24 rfl (c_24 _  e114)) rfl ?_
        refine Ops.v (g_pickT rfl rfl rfl rfl rfl) rfl ?_
        refine Ops.v (g_assign rfl rfl rfl rfl) rfl ?_
        refine Ops.nil ?_
        refine Sq.n ?_
        refine W.ret ?_
        obtain rfl := Option.some.inj h
        exact Fin.r rfl (.cons (.tmp _ _ rfl) .nil) rfl
       ·have h := bif_f h hb
        refine Ops.off2 rfl rfl rfl rfl rfl rfl ?_
        refine Ops.v (g_pickF rfl rfl rfl rfl rfl) rfl ?_
        refine Ops.v (g_assign rfl rfl rfl rfl) rfl ?_
        refine Ops.nil ?_
        refine Sq.n ?_
        refine W.ret ?_
        obtain rfl := Option.some.inj h
        exact Fin.r rfl (.cons (.tmp _ _ rfl) .nil) rfl
      ·have h := bif_f h hb
       refine Ops.off2 rfl rfl rfl rfl rfl rfl ?_
       refine Ops.off2 rfl rfl rfl rfl rfl rfl ?_
       refine Ops.off2 rfl rfl rfl rfl rfl rfl ?_
       refine Ops.v (g_pickF rfl rfl rfl rfl rfl) rfl ?_
       refine Ops.v (g_move rfl rfl rfl rfl) rfl ?_
       refine Ops.off2 rfl rfl rfl rfl rfl rfl ?_
       refine Ops.v (g_pickF rfl rfl rfl rfl rfl) rfl ?_
       refine Ops.v (g_assign rfl rfl rfl rfl) rfl ?_
       refine Ops.nil ?_
       refine Sq.n ?_
       refine W.ret ?_
       obtain rfl := Option.some.inj h
       exact Fin.r rfl (.cons (.tmp _ _ rfl) .nil) rfl
end Go.Proofs.YtohmhlkdgfcaeaaGreatDoor
namespace Go.Proofs.YtohmhlkdgfcaeaaGreatDoor
def Span.ok (s : Span) (most : Int) : Prop := 0 ≤ s.low ∧ s.low ≤ s.high ∧ s.high ≤ most
def Span.mem (s : Span) (x : Int) : Prop := s.low ≤ x ∧ x ≤ s.high
def Span.ne (s : Span) : Prop := s.low ≤ s.high
instance (s : Span) (m : Int) : Decidable (s.ok m) := by unfold Span.ok; infer_instance
instance (s : Span) (x : Int) : Decidable (s.mem x) := by unfold Span.mem; infer_instance
instance (s : Span) : Decidable s.ne := by unfold Span.ne; infer_instance
def Batch.ok (b : Batch) : Prop := (0 ≤ b.rough ∧ b.rough ≤ 1000) ∧ (0 ≤ b.goal ∧ b.goal ≤ 1000) ∧ (0 ≤ b.thick ∧ b.thick ≤ 1000) ∧ (0 ≤ b.least ∧ b.least ≤ 1000) ∧ (0 ≤ b.polish ∧ b.polish ≤ 100) ∧ (0 ≤ b.eat ∧ b.eat ≤ 100)
def Strip.ok (s : Strip) (hours : Int) : Prop := (0 ≤ s.hour ∧ s.hour ≤ hours - 1) ∧ (0 ≤ s.seen ∧ s.seen ≤ 2000) ∧ (0 ≤ s.off ∧ s.off ≤ 50)
def Acid.ok (a : Acid) : Prop := a.strength.ok 100 ∧ a.fall.ok 20
instance (b : Batch) : Decidable b.ok := by unfold Batch.ok; infer_instance
instance (s : Strip) (h : Int) : Decidable (s.ok h) := by unfold Strip.ok; infer_instance
instance (a : Acid) : Decidable a.ok := by unfold Acid.ok; infer_instance
structure Drum.ok (d : Drum) : Prop where
 acl : 1 ≤ d.acids.length ∧ d.acids.length ≤ 4
 kn : 1 ≤ d.known ∧ d.known ≤ 2 ^ d.acids.length - 1
 hr : 1 ≤ d.hours ∧ d.hours ≤ 12
 adl : (d.adds.length : Int) = d.hours
 stl : d.strips.length ≤ 6
 btl : 1 ≤ d.batches.length ∧ d.batches.length ≤ 5
 ac : ∀ a ∈ d.acids, a.ok
 ad : ∀ x ∈ d.adds, 0 ≤ x ∧ x ≤ 100
 st : ∀ s ∈ d.strips, s.ok d.hours
 bt : ∀ b ∈ d.batches, b.ok
def cap (a b : Span) : Span := ⟨max a.low b.low, min a.high b.high⟩
def capL (s : Span) (l : List Span) : Span := l.foldl cap s
def Strip.span (s : Strip) : Span := ⟨s.seen - s.off, s.seen + s.off⟩
def stripsAt (l : List Strip) (h : Nat) : List Span := (l.filter fun s => s.hour == (h : Int)).map Strip.span
def addAt (l : List Int) (h : Nat) : Int := l.getD h 0
def aft (a : Acid) (add : Int) (s : Span) : Span := ⟨max 0 (s.low - a.fall.high) + add, max 0 (s.high - a.fall.low) + add⟩
def bef (a : Acid) (add : Int) (s : Span) : Span := ⟨if add < s.low then s.low - add + a.fall.low else 0, s.high - add + a.fall.high⟩
def start (a : Acid) (add : Int) : Span := ⟨a.strength.low + add, a.strength.high + add⟩
def fw (ad : List Int) (st : List Strip) (a : Acid) : Nat → Span
 | 0 => capL (start a (addAt ad 0)) (stripsAt st 0)
 | h + 1 => capL (aft a (addAt ad (h + 1)) (fw ad st a h)) (stripsAt st (h + 1))
def bk (ad : List Int) (st : List Strip) (a : Acid) (H : Nat) : Nat → Span
 | 0 => fw ad st a (H - 1)
 | k + 1 => cap (fw ad st a (H - 1 - (k + 1))) (bef a (addAt ad (H - 1 - k)) (bk ad st a H k))
def Poss (ad : List Int) (st : List Strip) (a : Acid) (H : Nat) : Prop := ∀ h, h < H → (fw ad st a h).ne
theorem mem_cap {a b : Span} {x : Int} : (cap a b).mem x ↔ a.mem x ∧ b.mem x := by simp only [cap, Span.mem]; omega
theorem mem_capL {l : List Span} : ∀ {s : Span} {x : Int}, (capL s l).mem x ↔ s.mem x ∧ ∀ t ∈ l, t.mem x := by
 induction l with
 | nil => intro s x; simp [capL]
 | cons t l ih =>
  intro s x
  have := @ih (cap s t) x
  simp only [capL, List.foldl_cons, List.mem_cons, forall_eq_or_imp] at this ⊢
  rw [this, mem_cap]
  constructor
  ·rintro ⟨⟨h1, h2⟩, h3⟩; exact ⟨h1, h2, h3⟩
  ·rintro ⟨h1, h2, h3⟩; exact ⟨⟨h1, h2⟩, h3⟩
theorem ne_mem {s : Span} (h : s.ne) : s.mem s.low ∧ s.mem s.high := by simp only [Span.ne, Span.mem] at *; omega
section
variable {ad : List Int} {st : List Strip} {a : Acid} {H : Nat}
def bd (ad : List Int) (st : List Strip) (a : Acid) (H h : Nat) : Span := bk ad st a H (H - 1 - h)
end
end Go.Proofs.YtohmhlkdgfcaeaaGreatDoor
namespace Go.Proofs.YtohmhlkdgfcaeaaGreatDoor
open Go Go.RowKit
theorem wr_of {x : Int} (h : -9223372036854775808 ≤ x ∧ x ≤ 9223372036854775807) : wr x = x := by
 show IntKind.i64.wrap x = x
 rw [IntKind.wrap_i64]; omega
theorem ix_at {α : Type} {l : List α} {i : Nat} {x : α} (h : l[i]? = some x) : ix l (i : Int) = some x := by
 simp [ix, h]
def fc {α σ β : Type} (body : Nat → α → σ → (σ → Option β) → Option β) (fin : σ → Option β) : Nat → List α → σ → Option β
 | _, [], s => fin s
 | i, x :: r, s => body i x s (fc body fin (i + 1) r)
theorem loop_list {α σ β : Type} (l : List α) (L : Nat → Int → σ → Option β) (body : Nat → α → σ → (σ → Option β) → Option β) (fin : σ → Option β)
  (h : ∀ (k i : Nat) (s : σ), L (k + 1) (i : Int) s = bif decide ((i : Int) < ((l.length : Nat) : Int)) then (ix l (i : Int)).bind (fun x => body i x s (fun s' => L k (wr ((i : Int) + 1)) s')) else fin s)
  (hl : l.length ≤ 1000000) : ∀ (k i : Nat) (s : σ), l.length < k + i → i ≤ l.length → L k (i : Int) s = fc body fin i (l.drop i) s := by
 intro k
 induction k with
 | zero => intro i s h1 h2; omega
 | succ k ih =>
  intro i s h1 h2
  rw [h]
  by_cases hi : i < l.length
  ·have e1 : decide ((i : Int) < ((l.length : Nat) : Int)) = true := decide_eq_true (by omega)
   rw [e1, cond_true, ix_at (List.getElem?_eq_getElem hi), List.drop_eq_getElem_cons hi]
   simp only [Option.bind_some, fc]
   congr 1
   funext s'
   rw [wr_of (by omega)]
   exact_mod_cast ih (i + 1) s' (by omega) (by omega)
  ·have e1 : decide ((i : Int) < ((l.length : Nat) : Int)) = false := decide_eq_false (by omega)
   rw [e1, cond_false, List.drop_eq_nil_of_le (by omega)]
   rfl
def fn {σ β : Type} (m : Int) (body : Int → σ → (σ → Option β) → Option β) (fin : σ → Option β) : Nat → Int → σ → Option β
 | 0, _, s => fin s
 | r + 1, i, s => body i s (fn m body fin r (i + 1))
theorem fc_all {α : Type} (p : α → Bool) (fin : Option Bool) : ∀ (l : List α) (i : Nat), fc (σ := Unit) (fun _ x s K => bif p x then K s else some false) (fun _ => fin) i l () = bif l.all p then fin else some false := by
 intro l
 induction l with
 | nil => intro i; rfl
 | cons x r ih =>
  intro i
  simp only [fc, List.all_cons]
  cases p x
  ·rfl
  ·rw [cond_true, ih]; rfl
theorem loop_all {α : Type} (l : List α) (L : Nat → Int → Option Bool) (p : α → Bool) (fin : Option Bool)
  (h : ∀ (k i : Nat), L (k + 1) (i : Int) = bif decide ((i : Int) < ((l.length : Nat) : Int)) then (ix l (i : Int)).bind (fun x => bif p x then L k (wr ((i : Int) + 1)) else some false) else fin)
  (hl : l.length ≤ 1000000) {k : Nat} (hk : l.length < k) : L k 0 = bif l.all p then fin else some false := by
 have := loop_list l (fun k i (_ : Unit) => L k i) (fun _ x s K => bif p x then K s else some false) (fun _ => fin) (fun k i _ => h k i) hl k 0 () (by omega) (by omega)
 rw [fc_all] at this
 exact this
def firstI {α : Type} (p : α → Bool) : Nat → List α → Int
 | _, [] => -1
 | i, x :: r => bif p x then (i : Int) else firstI p (i + 1) r
theorem firstI_any {α : Type} (p : α → Bool) : ∀ (l : List α) (i : Nat), decide (0 ≤ firstI p i l) = l.any p := by
 intro l
 induction l with
 | nil => intro i; rfl
 | cons x r ih =>
  intro i
  rw [firstI, List.any_cons]
  rcases Bool.eq_false_or_eq_true (p x) with h | h
  ·rw [h, cond_true]; exact decide_eq_true (by omega)
  ·rw [h, cond_false, ih]; rfl
theorem loop_first {α : Type} (l : List α) (f : α → Option Bool) (p : α → Bool) (hf : ∀ x ∈ l, f x = some (p x)) (L : Nat → Int → Option Int)
  (h : ∀ (k i : Nat), L (k + 1) (i : Int) = bif decide ((i : Int) < ((l.length : Nat) : Int)) then (ix l (i : Int)).bind (fun x => (f x).bind fun b => bif b then some (i : Int) else L k (wr ((i : Int) + 1))) else some (-1))
  (hl : l.length ≤ 1000000) {k : Nat} (hk : l.length < k) : L k 0 = some (firstI p 0 l) := by
 have h1 := loop_list l (fun k i (_ : Unit) => L k i) (fun i x s K => (f x).bind fun b => bif b then some (i : Int) else K s) (fun _ => some (-1)) (fun k i _ => h k i) hl k 0 () (by omega) (by omega)
 rw [List.drop_zero] at h1
 have key : ∀ (l' : List α) (i : Nat), (∀ x ∈ l', f x = some (p x)) → fc (σ := Unit) (fun i x s K => (f x).bind fun b => bif b then some (i : Int) else K s) (fun _ => some (-1)) i l' () = some (firstI p i l') := by
  intro l'
  induction l' with
  | nil => intro i _; rfl
  | cons x r ih =>
   intro i hx
   simp only [fc, firstI, hx x List.mem_cons_self, Option.bind_some]
   cases p x
   ·rw [cond_false, cond_false]; exact ih (i + 1) (fun y hy => hx y (List.mem_cons_of_mem _ hy))
   ·rfl
 exact h1.trans (key l 0 hf)
def inb (v a b : Int) : Bool := decide (a ≤ v) && decide (v ≤ b)
theorem p_87 (n : Nat) (v a b : Int) : s_87 n v a b = some (inb v a b) := by unfold s_87 inb; cases decide (a ≤ v) <;> rfl
theorem p_103 (n : Nat) (v a b : Int) : s_103 n v a b = some (inb v a b) := by unfold s_103 inb; cases decide (a ≤ v) <;> rfl
def spb (s : Span) (m : Int) : Bool := decide (0 ≤ s.low) && (decide (s.low ≤ s.high) && decide (s.high ≤ m))
theorem p_107 (n : Nat) (s : Span) (m : Int) : s_107 n s m = some (spb s m) := by unfold s_107 spb; cases decide (0 ≤ s.low) <;> cases decide (s.low ≤ s.high) <;> rfl
theorem p_148 (n : Nat) (s : Span) (m : Int) : s_148 n s m = some (spb s m) := by unfold s_148 spb; cases decide (0 ≤ s.low) <;> cases decide (s.low ≤ s.high) <;> rfl
def okA (a : Acid) : Bool := spb a.strength 100 && spb a.fall 20
def okS (h : Int) (s : Strip) : Bool := inb s.hour 0 (wr (h - 1)) && (inb s.seen 0 2000 && inb s.off 0 50)
def okBt (b : Batch) : Bool := inb b.rough 0 1000 && (inb b.goal 0 1000 && (inb b.thick 0 1000 && (inb b.least 0 1000 && (inb b.polish 0 100 && inb b.eat 0 100))))
def okL (d : Drum) : Bool := d.acids.all okA && (d.adds.all (fun x => inb x 0 100) && (d.strips.all (okS d.hours) && d.batches.all okBt))
def okN (d : Drum) : Bool := inb d.acids.length 1 4 && (inb d.known 1 (2 ^ d.acids.length - 1) && (inb d.hours 1 12 && (decide ((d.adds.length : Int) = d.hours) && (decide ((d.strips.length : Int) ≤ 6) && inb d.batches.length 1 5))))
def okD (d : Drum) : Bool := okN d && okL d
theorem inb_iff {v a b : Int} : inb v a b = true ↔ a ≤ v ∧ v ≤ b := by simp [inb]
theorem spb_iff {s : Span} {m : Int} : spb s m = true ↔ s.ok m := by simp [spb, Span.ok]
theorem okA_iff {a : Acid} : okA a = true ↔ a.ok := by simp [okA, Acid.ok, spb_iff]
theorem okS_iff {h : Int} {s : Strip} (hh : 1 ≤ h ∧ h ≤ 12) : okS h s = true ↔ s.ok h := by
 unfold okS
 rw [wr_of (by omega)]
 simp [Strip.ok, inb_iff]
theorem okBt_iff {b : Batch} : okBt b = true ↔ b.ok := by simp [okBt, Batch.ok, inb_iff]
theorem okD_iff {d : Drum} : okD d = true ↔ d.ok := by
 constructor
 ·intro h
  simp only [okD, okN, okL, Bool.and_eq_true, inb_iff, decide_eq_true_eq, List.all_eq_true] at h
  obtain ⟨⟨h1, h2, h3, h4, h5, h6⟩, h7, h8, h9, h10⟩ := h
  exact ⟨by omega, h2, h3, h4, by omega, by omega, fun a ha => okA_iff.1 (h7 a ha), h8, fun s hs => (okS_iff h3).1 (h9 s hs), fun b hb => okBt_iff.1 (h10 b hb)⟩
 ·intro h
  simp only [okD, okN, okL, Bool.and_eq_true, inb_iff, decide_eq_true_eq, List.all_eq_true]
  have h1 := h.acl
  have h5 := h.stl
  have h6 := h.btl
  exact ⟨⟨by omega, h.kn, h.hr, h.adl, by omega, by omega⟩, fun a ha => okA_iff.2 (h.ac a ha), h.ad, fun s hs => (okS_iff h.hr).2 (h.st s hs), fun b hb => okBt_iff.2 (h.bt b hb)⟩
structure Short (d : Drum) : Prop where
 a : d.acids.length ≤ 6
 b : d.adds.length ≤ 15
 c : d.strips.length ≤ 9
 e : d.batches.length ≤ 7
def shortB (d : Drum) : Bool := decide (((d.acids.length : Nat) : Int) ≤ 6) && (decide (((d.adds.length : Nat) : Int) ≤ 15) && (decide (((d.strips.length : Nat) : Int) ≤ 9) && decide (((d.batches.length : Nat) : Int) ≤ 7)))
theorem p_23 (n : Nat) (d : Drum) : s_23 n d = some (shortB d) := by
 unfold s_23 shortB
 cases decide (((d.acids.length : Nat) : Int) ≤ 6) <;> cases decide (((d.adds.length : Nat) : Int) ≤ 15) <;> cases decide (((d.strips.length : Nat) : Int) ≤ 9) <;> rfl
section
variable {n : Nat} {d : Drum}
theorem p_39_l14 (hn : 100 ≤ n) (hs : Short d) : s_39_l14 n d n 0 = some (d.batches.all okBt) := by
 have := hs.e
 rw [loop_all d.batches (s_39_l14 n d) okBt (some true) (fun k i => ?_) (by omega) (by omega)]
 ·cases d.batches.all okBt <;> rfl
 ·rw [s_39_l14]
  congr 1
  congr 1
  funext x
  simp only [p_103, Option.bind_some, okBt, s_39_j17]
  cases inb x.rough 0 1000 <;> cases inb x.goal 0 1000 <;> cases inb x.thick 0 1000 <;> cases inb x.least 0 1000 <;> cases inb x.polish 0 100 <;> cases inb x.eat 0 100 <;> rfl
theorem p_39_l10 (hn : 100 ≤ n) (hs : Short d) : s_39_l10 n d n 0 = some (d.strips.all (okS d.hours) && d.batches.all okBt) := by
 have := hs.c
 rw [loop_all d.strips (s_39_l10 n d) (okS d.hours) (some (d.batches.all okBt)) (fun k i => ?_) (by omega) (by omega)]
 ·cases d.strips.all (okS d.hours) <;> rfl
 ·rw [s_39_l10, p_39_l14 hn hs]
  congr 1
  congr 1
  funext x
  simp only [p_103, Option.bind_some, okS, s_39_j13]
  cases inb x.hour 0 (wr (d.hours - 1)) <;> cases inb x.seen 0 2000 <;> cases inb x.off 0 50 <;> rfl
theorem p_39_l9 (hn : 100 ≤ n) (hs : Short d) : s_39_l9 n d n 0 = some (d.adds.all (fun x => inb x 0 100) && (d.strips.all (okS d.hours) && d.batches.all okBt)) := by
 have := hs.b
 rw [loop_all d.adds (s_39_l9 n d) (fun x => inb x 0 100) (some (d.strips.all (okS d.hours) && d.batches.all okBt)) (fun k i => ?_) (by omega) (by omega)]
 ·cases d.adds.all (fun x => inb x 0 100) <;> rfl
 ·rw [s_39_l9, p_39_l10 hn hs]
  congr 1
  congr 1
  funext x
  simp only [p_103, Option.bind_some]
  cases inb x 0 100 <;> rfl
theorem p_39_l5 (hn : 100 ≤ n) (hs : Short d) : s_39_l5 n d n 0 = some (okL d) := by
 have := hs.a
 rw [loop_all d.acids (s_39_l5 n d) okA (some (d.adds.all (fun x => inb x 0 100) && (d.strips.all (okS d.hours) && d.batches.all okBt))) (fun k i => ?_) (by omega) (by omega)]
 ·unfold okL; cases d.acids.all okA <;> rfl
 ·rw [s_39_l5, p_39_l9 hn hs]
  by_cases hi : i < d.acids.length
  ·have e := ix_at (List.getElem?_eq_getElem hi)
   simp only [e, Option.bind_some, p_107, okA, s_39_j8]
   cases spb d.acids[i].strength 100 <;> cases spb d.acids[i].fall 20 <;> rfl
  ·have e1 : decide ((i : Int) < ((d.acids.length : Nat) : Int)) = false := decide_eq_false (by omega)
   rw [e1, cond_false, cond_false]
theorem p_106 (hn : 100 ≤ n) {m : Nat} (hm : m ≤ 40) : s_106 n (m : Int) = some (2 ^ m) := by
 have h1 : ∀ (r k : Nat) (i : Nat), i + r = m → r < k → s_106_l1 (m : Int) k (2 ^ i) (i : Int) = some (2 ^ m) := by
  intro r
  induction r with
  | zero =>
   intro k i hi hk
   obtain ⟨k, rfl⟩ : ∃ k', k = k' + 1 := ⟨k - 1, by omega⟩
   have e1 : decide ((i : Int) < (m : Int)) = false := decide_eq_false (by omega)
   have : i = m := by omega
   subst this
   rw [s_106_l1, e1, cond_false]
  | succ r ih =>
   intro k i hi hk
   obtain ⟨k, rfl⟩ : ∃ k', k = k' + 1 := ⟨k - 1, by omega⟩
   have e1 : decide ((i : Int) < (m : Int)) = true := decide_eq_true (by omega)
   have h6 : -9223372036854775808 ≤ (2 : Int) * 2 ^ i ∧ (2 : Int) * 2 ^ i ≤ 9223372036854775807 := by
    obtain ⟨p, hp, hp2⟩ : ∃ p : Nat, (2 : Int) ^ i = (p : Int) ∧ p ≤ 2 ^ 40 := ⟨2 ^ i, by push_cast; rfl, Nat.pow_le_pow_right (by omega) (by omega)⟩
    rw [hp]
    omega
   rw [s_106_l1, e1, cond_true, wr_of (x := 2 * 2 ^ i) h6, wr_of (x := (i : Int) + 1) (by omega)]
   have := ih k (i + 1) (by omega) (by omega)
   rw [show (2 : Int) * 2 ^ i = 2 ^ (i + 1) by rw [Int.pow_succ]; omega]
   exact_mod_cast this
 have := h1 m n 0 (by omega) (by omega)
 simpa [s_106] using this
theorem p_39 (hn : 100 ≤ n) (hs : Short d) : s_39 n d = some (okD d) := by
 have h1 := hs.a
 unfold s_39
 rw [p_106 hn (by omega)]
 simp only [p_103, Option.bind_some, s_39_j4, p_39_l5 hn hs]
 have h3 : (2 : Int) ^ d.acids.length ≤ 64 := by
  have : (2 : Nat) ^ d.acids.length ≤ 2 ^ 6 := Nat.pow_le_pow_right (by omega) h1
  exact_mod_cast this
 have h4 : (0 : Int) < 2 ^ d.acids.length := by
  have : (0 : Nat) < 2 ^ d.acids.length := Nat.pow_pos (by omega)
  exact_mod_cast this
 rw [wr_of (by omega)]
 have h5 : decide (6 < ((d.strips.length : Nat) : Int)) = !decide (((d.strips.length : Nat) : Int) ≤ 6) := by
  by_cases h : ((d.strips.length : Nat) : Int) ≤ 6
  ·simp [h]
  ·simp [h]; omega
 rw [h5]
 unfold okD okN
 cases inb d.acids.length 1 4 <;> cases inb d.known 1 (2 ^ d.acids.length - 1) <;> cases inb d.hours 1 12 <;> cases decide (((d.adds.length : Nat) : Int) = d.hours) <;> cases decide (((d.strips.length : Nat) : Int) ≤ 6) <;> cases inb d.batches.length 1 5 <;> rfl
end
end Go.Proofs.YtohmhlkdgfcaeaaGreatDoor
namespace Go.Proofs.YtohmhlkdgfcaeaaGreatDoor
open Go Go.RowKit
section
variable {n : Nat} {d : Drum}
theorem p_121 (hn : 100 ≤ n) (l : List Int) (hl : l.length ≤ 50) (f : Int → Option Bool) (p : Int → Bool) (hf : ∀ x ∈ l, f x = some (p x)) : s_121 n l f = some (l.any p) := by
 unfold s_121 s_167
 rw [loop_first l f p hf (s_167_l1 f l) (fun k i => by rw [s_167_l1]) (by omega) (by omega), Option.bind_some, firstI_any]
theorem p_146 (hn : 100 ≤ n) (l : List Acid) (hl : l.length ≤ 50) (f : Acid → Option Bool) (p : Acid → Bool) (hf : ∀ x ∈ l, f x = some (p x)) : s_146 n l f = some (l.any p) := by
 unfold s_146 s_174
 rw [loop_first l f p hf (s_174_l1 f l) (fun k i => by rw [s_174_l1]) (by omega) (by omega), Option.bind_some, firstI_any]
theorem p_95 (hn : 100 ≤ n) (l : List Strip) (hl : l.length ≤ 50) (f : Strip → Option Bool) (p : Strip → Bool) (hf : ∀ x ∈ l, f x = some (p x)) : s_95 n l f = some (l.any p) := by
 unfold s_95 s_143
 rw [loop_first l f p hf (s_143_l1 f l) (fun k i => by rw [s_143_l1]) (by omega) (by omega), Option.bind_some, firstI_any]
theorem p_151 (hn : 100 ≤ n) (l : List Batch) (hl : l.length ≤ 50) (f : Batch → Option Bool) (p : Batch → Bool) (hf : ∀ x ∈ l, f x = some (p x)) : s_151 n l f = some (l.any p) := by
 unfold s_151 s_175
 rw [loop_first l f p hf (s_175_l1 f l) (fun k i => by rw [s_175_l1]) (by omega) (by omega), Option.bind_some, firstI_any]
theorem any_not {α : Type} (l : List α) (p : α → Bool) : l.any (fun x => !p x) = !l.all p := by
 induction l with
 | nil => rfl
 | cons x r ih => simp only [List.any_cons, List.all_cons, ih, Bool.not_and]
theorem p_147 (a : Acid) : s_147 n a = some (!okA a) := by
 unfold s_147 okA
 simp only [p_148, Option.bind_some]
 cases spb a.strength 100 <;> cases spb a.fall 20 <;> rfl
theorem p_149 (x : Int) : s_149 n x = some (!inb x 0 100) := by
 unfold s_149
 simp only [p_87, Option.bind_some]
theorem p_150 (s : Strip) : s_150 n s d = some (!okS d.hours s) := by
 unfold s_150 okS
 simp only [p_87, Option.bind_some]
 cases inb s.hour 0 (wr (d.hours - 1)) <;> cases inb s.seen 0 2000 <;> cases inb s.off 0 50 <;> rfl
theorem p_152 (b : Batch) : s_152 n b = some (!okBt b) := by
 unfold s_152 s_153 okBt
 simp only [p_87, Option.bind_some]
 cases inb b.rough 0 1000 <;> cases inb b.goal 0 1000 <;> cases inb b.thick 0 1000 <;> cases inb b.least 0 1000 <;> cases inb b.polish 0 100 <;> cases inb b.eat 0 100 <;> rfl
theorem p_104 (hn : 100 ≤ n) (hs : Short d) : s_104 n d = some (okD d) := by
 have h1 := hs.a
 have h2 := hs.b
 have h7 := hs.c
 have h8 := hs.e
 have h3 : (2 : Int) ^ d.acids.length ≤ 64 := by
  have : (2 : Nat) ^ d.acids.length ≤ 2 ^ 6 := Nat.pow_le_pow_right (by omega) h1
  exact_mod_cast this
 have h4 : (0 : Int) < 2 ^ d.acids.length := by
  have : (0 : Nat) < 2 ^ d.acids.length := Nat.pow_pos (by omega)
  exact_mod_cast this
 have hsh : shl .i64 1 ((List.length d.acids : Nat) : Int) = some (2 ^ d.acids.length) := by
  unfold shl
  rw [show decide ((0 : Int) ≤ ((List.length d.acids : Nat) : Int)) = true from decide_eq_true (by omega), cond_true]
  have hm : min ((List.length d.acids : Nat) : Int).toNat IntKind.i64.bits = d.acids.length := by
   show min d.acids.length 64 = d.acids.length
   omega
  rw [hm, Int.one_mul]
  exact congrArg some (wr_of (by omega))
 unfold s_104
 rw [hsh]
 simp only [p_87, Option.bind_some, p_146 hn d.acids (by omega) _ _ (fun x _ => p_147 x), p_121 hn d.adds (by omega) _ _ (fun x _ => p_149 x), p_95 hn d.strips (by omega) _ _ (fun x _ => p_150 x), p_151 hn d.batches (by omega) _ _ (fun x _ => p_152 x), any_not]
 rw [wr_of (by omega)]
 unfold okD okN okL
 cases inb d.acids.length 1 4 <;> cases inb d.known 1 (2 ^ d.acids.length - 1) <;> cases inb d.hours 1 12 <;> cases decide (((d.adds.length : Nat) : Int) = d.hours) <;> cases decide (((d.strips.length : Nat) : Int) ≤ 6) <;> cases inb d.batches.length 1 5 <;>
  cases d.acids.all okA <;> cases d.adds.all (fun x => inb x 0 100) <;> cases d.strips.all (okS d.hours) <;> cases d.batches.all okBt <;> rfl
end
end Go.Proofs.YtohmhlkdgfcaeaaGreatDoor
namespace Go.Proofs.YtohmhlkdgfcaeaaGreatDoor
open Go Go.RowKit
instance (ad : List Int) (st : List Strip) (a : Acid) (H : Nat) : Decidable (Poss ad st a H) := by unfold Poss; infer_instance
end Go.Proofs.YtohmhlkdgfcaeaaGreatDoor
namespace Go.Proofs.YtohmhlkdgfcaeaaGreatDoor
def Meet (w : List Span) : Prop := ∃ x : Int, 0 ≤ x ∧ x ≤ 12 ∧ ∀ s ∈ w, s.mem x
def comm (w : List Span) : Span := capL ⟨0, 12⟩ w
theorem meet_iff {w : List Span} : Meet w ↔ (comm w).ne := by
 constructor
 ·rintro ⟨x, h1, h2, h3⟩
  have := (mem_capL (s := ⟨0, 12⟩) (l := w) (x := x)).2 ⟨⟨h1, h2⟩, h3⟩
  simp only [Span.mem, Span.ne, comm] at *
  omega
 ·intro h
  have h1 := (mem_capL (s := ⟨0, 12⟩) (l := w) (x := (comm w).low)).1 (ne_mem h).1
  exact ⟨_, h1.1.1, h1.1.2, h1.2⟩
instance (w : List Span) : Decidable (Meet w) := decidable_of_iff _ meet_iff.symm
theorem Meet.sub {w w' : List Span} (h : Meet w) (hs : ∀ s ∈ w', s ∈ w) : Meet w' := by
 obtain ⟨x, h1, h2, h3⟩ := h
 exact ⟨x, h1, h2, fun s hw => h3 s (hs s hw)⟩
end Go.Proofs.YtohmhlkdgfcaeaaGreatDoor
namespace Go.Proofs.YtohmhlkdgfcaeaaGreatDoor
open Go Go.RowKit
section
variable {n : Nat} {d : Drum}
theorem app_of {α : Type} {l l2 : List α} (h : l.length + l2.length ≤ 1000000) : app l l2 = some (l ++ l2) := by
 unfold app; rw [decide_eq_true h]; rfl
end
end Go.Proofs.YtohmhlkdgfcaeaaGreatDoor
namespace Go.Proofs.YtohmhlkdgfcaeaaGreatDoor
open Go Go.RowKit
abbrev Bs := List UInt8
def bs (l : Bs) : ByteArray := ⟨l.toArray⟩
theorem bs_data (l : Bs) : (bs l).data.toList = l := rfl
theorem bs_of (s : ByteArray) : bs s.data.toList = s := by cases s; rfl
theorem bs_inj {a b : Bs} (h : bs a = bs b) : a = b := by
 have := congrArg (fun s : ByteArray => s.data.toList) h
 exact this
theorem bs_size (l : Bs) : (bs l).size = l.length := rfl
theorem bs_cat (a b : Bs) : bs a ++ bs b = bs (a ++ b) := by
 apply ByteArray.ext
 simp [bs]
def splt (c : UInt8) : Bs → List Bs
 | [] => [[]]
 | b :: r => if b = c then [] :: splt c r else match splt c r with | x :: xs => (b :: x) :: xs | [] => [[b]]
theorem spl_ne (c : UInt8) (l : Bs) : splt c l ≠ [] := by
 cases l with
 | nil => simp [splt]
 | cons b r =>
  rw [splt]
  by_cases h : b = c
  ·rw [if_pos h]; simp
  ·rw [if_neg h]; split <;> simp
theorem spl_app (c : UInt8) : ∀ (a b : Bs), c ∉ a → splt c (a ++ c :: b) = a :: splt c b := by
 intro a
 induction a with
 | nil => intro b _; rw [List.nil_append, splt, if_pos rfl]
 | cons x r ih =>
  intro b h
  have hx : x ≠ c := fun e => h (e ▸ List.mem_cons_self)
  rw [List.cons_append, splt, if_neg hx, ih b (fun hm => h (List.mem_cons_of_mem _ hm))]
theorem spl_none (c : UInt8) : ∀ (a : Bs), c ∉ a → splt c a = [a] := by
 intro a
 induction a with
 | nil => intro _; rfl
 | cons x r ih =>
  intro h
  have hx : x ≠ c := fun e => h (e ▸ List.mem_cons_self)
  rw [splt, if_neg hx, ih (fun hm => h (List.mem_cons_of_mem _ hm))]
theorem spl_len (c : UInt8) : ∀ l : Bs, (splt c l).length = l.count c + 1 := by
 intro l
 induction l with
 | nil => rfl
 | cons b r ih =>
  rw [splt, List.count_cons]
  by_cases e : b = c
  ·rw [if_pos e, if_pos (by simpa using e), List.length_cons, ih]
  ·rw [if_neg e, if_neg (by simpa using e)]
   cases hs : splt c r with
   | nil => exact absurd hs (spl_ne c r)
   | cons y ys => rw [hs] at ih; simpa using ih
theorem first_of {c : UInt8} : ∀ {l : Bs}, c ∈ l → ∃ a b, l = a ++ c :: b ∧ c ∉ a := by
 intro l
 induction l with
 | nil => intro h; cases h
 | cons x r ih =>
  intro h
  by_cases e : x = c
  ·exact ⟨[], r, by rw [e]; rfl, by simp⟩
  ·rcases List.mem_cons.1 h with h | h
   ·exact absurd h.symm e
   ·obtain ⟨a, b, h1, h2⟩ := ih h
    refine ⟨x :: a, b, by rw [h1]; rfl, fun hm => ?_⟩
    rcases List.mem_cons.1 hm with hm | hm
    ·exact e hm.symm
    ·exact h2 hm
theorem idx_first {c : UInt8} : ∀ (a b : Bs), c ∉ a → Lib.indexByte (a ++ c :: b) c = (a.length : Int) := by
 intro a
 induction a with
 | nil => intro b _; simp [Lib.indexByte]
 | cons x r ih =>
  intro b h
  have hx : (x == c) = false := by
   rw [beq_eq_false_iff_ne]
   exact fun e => h (e ▸ List.mem_cons_self)
  have := ih b (fun hm => h (List.mem_cons_of_mem _ hm))
  rw [List.cons_append, Lib.indexByte, hx, this]
  have e : (((r.length : Nat) : Int) == -1) = false := by rw [beq_eq_false_iff_ne]; omega
  simp [e]
theorem splitK_one (c : UInt8) : ∀ (l : Bs), Lib.splitK [c] 0 (Lib.count l [c]) l = splt c l := by
 have key : ∀ (n : Nat) (l : Bs), l.length ≤ n → Lib.splitK [c] 0 (l.count c) l = splt c l := by
  intro n
  induction n with
  | zero =>
   intro l h
   obtain rfl := List.eq_nil_of_length_eq_zero (Nat.le_zero.1 h)
   rfl
  | succ n ih =>
   intro l h
   by_cases hm : c ∈ l
   ·obtain ⟨a, b, rfl, hn⟩ := first_of hm
    have hc : (a ++ c :: b).count c = b.count c + 1 := by
     rw [List.count_append, List.count_cons_self, List.count_eq_zero.2 hn]; omega
    have hi : Lib.index (a ++ c :: b) [c] = (a.length : Int) := by rw [Lib.index_one]; exact idx_first a b hn
    have hb := ih b (by simp at h; omega)
    rw [hc, Lib.splitK, hi, spl_app c a b hn, if_neg (by simp), show ((a.length : Nat) : Int).toNat = a.length by omega, Nat.add_zero, List.take_left', show (a ++ c :: b).drop (a.length + [c].length) = b by simp [List.drop_append], hb]
    rfl
   ·have h0 : l.count c = 0 := List.count_eq_zero.2 hm
    rw [h0, spl_none c l hm]; rfl
 intro l
 rw [Lib.count_one]
 exact key l.length l (Nat.le_refl _)
end Go.Proofs.YtohmhlkdgfcaeaaGreatDoor
namespace Go.Proofs.YtohmhlkdgfcaeaaGreatDoor
open Go Go.RowKit
theorem map_bs (L : List ByteArray) : (L.map (fun s => s.data.toList)).map bs = L := by
 rw [List.map_map]
 have : (bs ∘ fun s : ByteArray => s.data.toList) = id := by funext s; exact bs_of s
 rw [this, List.map_id]
theorem p_159 (n : Nat) (l : Bs) (c : UInt8) (hl : l.length < 4294967281) : s_159 n (bs l) ⟨#[c]⟩ = some ((splt c l).map bs) := by
 unfold s_159
 have h1 : (bs l).size < 4294967281 := hl
 have h2 : 1 ≤ (⟨#[c]⟩ : ByteArray).size := Nat.le_refl 1
 rw [decide_eq_true h1, decide_eq_true h2]
 have h3 := Lib.splitB_data ⟨#[c]⟩ 0 (Lib.countB (bs l) ⟨#[c]⟩) (bs l)
 have h4 : Lib.countB (bs l) ⟨#[c]⟩ = Lib.count l [c] := rfl
 rw [h4] at h3
 have h5 : (Lib.splitB ⟨#[c]⟩ 0 (Lib.count l [c]) (bs l)).map (fun s => s.data.toList) = splt c l := h3.trans (splitK_one c l)
 rw [h4, ← map_bs (Lib.splitB ⟨#[c]⟩ 0 (Lib.count l [c]) (bs l)), h5]
 rfl
theorem ixs_at {l : Bs} {i : Nat} {b : UInt8} (h : l[i]? = some b) : ixs (bs l) (i : Int) = some (b.toNat : Int) := by
 unfold ixs
 rw [decide_eq_true (by omega), cond_true]
 have e : ((i : Nat) : Int).toNat = i := by omega
 have : (bs l).data[i]? = some b := by simpa [bs] using h
 rw [e, this]
 rfl
theorem dec_small {u : Nat} (h : u < 10) : Lib.decDigits u = [UInt8.ofNat (48 + u)] := by rw [Lib.decDigits, dif_pos h]
theorem dec_big {u : Nat} (h : ¬ u < 10) : Lib.decDigits u = Lib.decDigits (u / 10) ++ [UInt8.ofNat (48 + u % 10)] := by rw [Lib.decDigits, dif_neg h]
theorem cat_bs {a b : Bs} (h : a.length + b.length ≤ 1000000) : cat (bs a) (bs b) = some (bs (a ++ b)) := by
 unfold cat
 have : (bs a).size + (bs b).size ≤ 9223372036854775807 := by rw [bs_size, bs_size]; omega
 rw [decide_eq_true this, cond_true, bs_cat]
theorem dec_len : ∀ (k u : Nat), u < 10 ^ (k + 1) → (Lib.decDigits u).length ≤ k + 1 := by
 intro k
 induction k with
 | zero => intro u h; rw [dec_small (by simpa using h)]; simp
 | succ k ih =>
  intro u h
  by_cases hu : u < 10
  ·rw [dec_small hu]; simp
  ·rw [dec_big hu, List.length_append]
   have := ih (u / 10) (by rw [Nat.pow_succ] at h; omega)
   simp only [List.length_singleton]
   omega
theorem digs_dec : ∀ (k u : Nat), u < 10 ^ (k + 1) → digs (Lib.decDigits u) = (u : Int) ∧ (Lib.decDigits u).all isDig = true := by
 have one : ∀ r : Nat, r < 10 → (((UInt8.ofNat (48 + r)).toNat : Int) - 48 = (r : Int)) ∧ isDig (UInt8.ofNat (48 + r)) = true := by decide
 intro k
 induction k with
 | zero =>
  intro u h
  have h : u < 10 := by simpa using h
  obtain ⟨a, b⟩ := one u h
  rw [dec_small h]
  refine ⟨?_, by rw [List.all_cons, b]; rfl⟩
  show 10 * 0 + (((UInt8.ofNat (48 + u)).toNat : Int) - 48) = u
  omega
 | succ k ih =>
  intro u h
  by_cases hu : u < 10
  ·obtain ⟨a, b⟩ := one u hu
   rw [dec_small hu]
   refine ⟨?_, by rw [List.all_cons, b]; rfl⟩
   show 10 * 0 + (((UInt8.ofNat (48 + u)).toNat : Int) - 48) = u
   omega
  ·obtain ⟨a, b⟩ := one (u % 10) (Nat.mod_lt _ (by omega))
   obtain ⟨c, d⟩ := ih (u / 10) (by rw [Nat.pow_succ] at h; omega)
   rw [dec_big hu, digs_snoc, c, a, List.all_append, d]
   refine ⟨by omega, by rw [List.all_cons, b]; rfl⟩
theorem itoa_nat (u : Nat) : Lib.itoa (u : Int) = Lib.decDigits u := by unfold Lib.itoa; rw [if_neg (by omega)]; rfl
theorem digs_bound : ∀ (l : Bs), l.all isDig = true → 0 ≤ digs l ∧ digs l < 10 ^ l.length := by
 have key : ∀ (l : Bs) (n : Nat) (c : Int), l.all isDig = true → 0 ≤ c → c < 10 ^ n → 0 ≤ l.foldl (fun n c => 10 * n + ((c.toNat : Int) - 48)) c ∧ l.foldl (fun n c => 10 * n + ((c.toNat : Int) - 48)) c < 10 ^ (n + l.length) := by
  intro l
  induction l with
  | nil => intro n c _ h1 h2; exact ⟨h1, h2⟩
  | cons b r ih =>
   intro n c h h1 h2
   rw [List.all_cons, Bool.and_eq_true] at h
   have hb := h.1
   unfold isDig at hb
   rw [Bool.and_eq_true, decide_eq_true_eq, decide_eq_true_eq] at hb
   have hp : (10 : Int) ^ (n + 1) = 10 ^ n * 10 := Int.pow_succ ..
   have := ih (n + 1) (10 * c + ((b.toNat : Int) - 48)) h.2 (by omega) (by omega)
   rw [List.foldl_cons, List.length_cons, show n + (r.length + 1) = n + 1 + r.length by omega]
   exact this
 intro l h
 have := key l 0 0 h (by omega) (by simp)
 rw [Nat.zero_add] at this
 exact this
theorem good_spec {l : Bs} (h : goodNum (bs l) = true) : ∃ u : Nat, u ≤ 9999 ∧ digs l = (u : Int) ∧ l = Lib.itoa (u : Int) := by
 unfold goodNum at h
 simp only [Bool.and_eq_true, decide_eq_true_eq, bs_data, bs_size] at h
 obtain ⟨h1, h2, _, h4⟩ := h
 obtain ⟨b1, b2⟩ := digs_bound l h1
 have hp : (10 : Int) ^ l.length ≤ 10 ^ 4 := by
  have : (10 : Nat) ^ l.length ≤ 10 ^ 4 := Nat.pow_le_pow_right (by omega) (of_decide_eq_true h2)
  exact_mod_cast this
 obtain ⟨u, hu⟩ := Int.eq_ofNat_of_zero_le b1
 refine ⟨u, by omega, hu, ?_⟩
 have h5 : bs (Lib.itoa (digs l)) = bs l := of_decide_eq_true h4
 rw [hu] at h5
 exact (bs_inj h5).symm
end Go.Proofs.YtohmhlkdgfcaeaaGreatDoor
namespace Go.Proofs.YtohmhlkdgfcaeaaGreatDoor
open Go Go.RowKit
def okZ (x : Int) : Prop := 0 ≤ x ∧ x ≤ 9999
def nums (l : List Int) : Bs := l.flatMap fun x => 32 :: Lib.itoa x
theorem okN_nat {x : Int} (h : okZ x) : ∃ u : Nat, u ≤ 9999 ∧ x = (u : Int) := by
 obtain ⟨u, hu⟩ := Int.eq_ofNat_of_zero_le h.1
 exact ⟨u, by have := h.2; omega, hu⟩
theorem itoa_len {x : Int} (h : okZ x) : (Lib.itoa x).length ≤ 4 := by
 obtain ⟨u, h1, rfl⟩ := okN_nat h
 rw [itoa_nat]
 exact dec_len 3 u (by omega)
theorem nums_len : ∀ (l : List Int), (∀ x ∈ l, okZ x) → (nums l).length ≤ 5 * l.length := by
 intro l
 induction l with
 | nil => intro _; simp [nums]
 | cons x r ih =>
  intro h
  have h1 := itoa_len (h x List.mem_cons_self)
  have h2 := ih (fun y hy => h y (List.mem_cons_of_mem _ hy))
  have e : nums (x :: r) = (32 :: Lib.itoa x) ++ nums r := rfl
  rw [e, List.length_append, List.length_cons, List.length_cons]
  omega
section
variable {n : Nat}
theorem p_156 {x : Int} (h : okZ x) : s_156 n x = some (bs (Lib.itoa x)) := by
 unfold s_156
 rw [decide_eq_true (by have := h.1; omega), decide_eq_true (by have := h.2; omega)]
 rfl
theorem p_155 (w : Bs) (l : List Int) (hl : l.length < n) (hl2 : l.length ≤ 1000) (hw : w.length ≤ 1000) (h : ∀ x ∈ l, okZ x) : s_155 n (bs w) l = some (bs (w ++ nums l)) := by
 unfold s_155
 have key : ∀ (r : List Int) (i k : Nat) (acc : Bs), l.drop i = r → i ≤ l.length → l.length < k + i → acc.length ≤ 1000 + 5 * i → (∀ x ∈ r, okZ x) → s_155_l1 n l k (bs acc) (i : Int) = some (bs (acc ++ nums r)) := by
  intro r
  induction r with
  | nil =>
   intro i k acc hi h2 hk _ _
   have hil : l.length ≤ i := List.drop_eq_nil_iff.1 hi
   obtain ⟨k, rfl⟩ : ∃ k', k = k' + 1 := ⟨k - 1, by omega⟩
   rw [s_155_l1, decide_eq_false (by omega), cond_false]
   simp [nums]
  | cons x r ih =>
   intro i k acc hi h2 hk ha hr0
   have hil : i < l.length := by
    rcases Nat.lt_or_ge i l.length with h | h
    ·exact h
    ·rw [List.drop_eq_nil_of_le h] at hi; cases hi
   obtain ⟨k, rfl⟩ : ∃ k', k = k' + 1 := ⟨k - 1, by omega⟩
   rw [List.drop_eq_getElem_cons hil] at hi
   obtain ⟨hx, hr⟩ := List.cons.inj hi
   have hxo := hr0 x List.mem_cons_self
   have hxl := itoa_len hxo
   have := ih (i + 1) k (acc ++ 32 :: Lib.itoa x) hr (by omega) (by omega) (by simp; omega) (fun y hy => hr0 y (List.mem_cons_of_mem _ hy))
   push_cast at this
   have e1 : cat (ByteArray.mk #[32]) (bs (Lib.itoa x)) = some (bs (32 :: Lib.itoa x)) := cat_bs (a := [32]) (by simp; omega)
   rw [s_155_l1, decide_eq_true (by omega), cond_true, ix_at (List.getElem?_eq_getElem hil), Option.bind_some, hx, p_156 hxo, Option.bind_some, e1, Option.bind_some, cat_bs (by simp; omega), Option.bind_some, wr_of (by omega), this]
   have e2 : nums (x :: r) = (32 :: Lib.itoa x) ++ nums r := rfl
   rw [e2, List.append_assoc]
 exact key l 0 n w (by simp) (by omega) (by omega) (by omega) h
end
def kDrum : Bs := [100, 114, 117, 109]
def kKnown : Bs := [32, 107, 110, 111, 119, 110]
def kAcid : Bs := [97, 99, 105, 100]
def kFall : Bs := [32, 102, 97, 108, 108]
def kAdd : Bs := [97, 100, 100]
def kStrip : Bs := [115, 116, 114, 105, 112]
def kBatch : Bs := [98, 97, 116, 99, 104]
def kEnd : Bs := [101, 110, 100, 32]
def hdL (d : Drum) : Bs := kDrum ++ nums [d.hours] ++ (kKnown ++ nums [d.known])
def acL (a : Acid) : Bs := kAcid ++ nums [a.strength.low, a.strength.high] ++ (kFall ++ nums [a.fall.low, a.fall.high])
def adL (d : Drum) : Bs := kAdd ++ nums d.adds
def stL (s : Strip) : Bs := kStrip ++ nums [s.hour, s.seen, s.off]
def baL (b : Batch) : Bs := kBatch ++ nums [b.rough, b.goal, b.thick, b.least, b.polish, b.eat]
def linesOf (d : Drum) : List Bs := hdL d :: (d.acids.map acL ++ adL d :: (d.strips.map stL ++ d.batches.map baL))
def wsum : Nat → Bs → Nat
 | _, [] => 0
 | i, b :: r => b.toNat * (i + 1) + wsum (i + 1) r
def chk (L : List Bs) : Nat := (L.map (wsum 0)).sum % 103
def endL (k : Nat) : Bs := kEnd ++ Lib.itoa ((k / 100 : Nat) : Int) ++ Lib.itoa ((k / 10 % 10 : Nat) : Int) ++ Lib.itoa ((k % 10 : Nat) : Int)
def slipOf (L : List Bs) : Bs := L.flatMap (· ++ [10]) ++ (endL (chk L) ++ [10])
def slip (d : Drum) : Bs := slipOf (linesOf d)
structure Fine (d : Drum) : Prop where
 h : okZ d.hours
 k : okZ d.known
 a : ∀ x ∈ d.acids, okZ x.strength.low ∧ okZ x.strength.high ∧ okZ x.fall.low ∧ okZ x.fall.high
 ad : ∀ x ∈ d.adds, okZ x
 s : ∀ x ∈ d.strips, okZ x.hour ∧ okZ x.seen ∧ okZ x.off
 b : ∀ x ∈ d.batches, okZ x.rough ∧ okZ x.goal ∧ okZ x.thick ∧ okZ x.least ∧ okZ x.polish ∧ okZ x.eat
 ll : d.acids.length + d.strips.length + d.batches.length ≤ 900
 ld : (adL d).length ≤ 900
theorem nums_ge : ∀ l : List Int, l.length ≤ (nums l).length := by
 intro l
 induction l with
 | nil => simp
 | cons x r ih =>
  have e : nums (x :: r) = (32 :: Lib.itoa x) ++ nums r := rfl
  rw [e, List.length_append, List.length_cons, List.length_cons]
  omega
theorem mem2 {P : Int → Prop} {a b : Int} (ha : P a) (hb : P b) : ∀ x ∈ [a, b], P x := by
 intro x hx
 rcases List.mem_cons.1 hx with rfl | hx
 ·exact ha
 ·obtain rfl := List.mem_singleton.1 hx; exact hb
theorem mem3 {P : Int → Prop} {a b c : Int} (ha : P a) (hb : P b) (hc : P c) : ∀ x ∈ [a, b, c], P x := by
 intro x hx
 rcases List.mem_cons.1 hx with rfl | hx
 ·exact ha
 ·exact mem2 hb hc x hx
theorem mem6 {P : Int → Prop} {a b c e f g : Int} (ha : P a) (hb : P b) (hc : P c) (he : P e) (hf : P f) (hg : P g) : ∀ x ∈ [a, b, c, e, f, g], P x := by
 intro x hx
 rcases List.mem_cons.1 hx with rfl | hx
 ·exact ha
 ·rcases List.mem_cons.1 hx with rfl | hx
  ·exact hb
  ·rcases List.mem_cons.1 hx with rfl | hx
   ·exact hc
   ·exact mem3 he hf hg x hx
theorem mem1 {P : Int → Prop} {a : Int} (ha : P a) : ∀ x ∈ [a], P x := by
 intro x hx
 obtain rfl := List.mem_singleton.1 hx; exact ha
end Go.Proofs.YtohmhlkdgfcaeaaGreatDoor
namespace Go.Proofs.YtohmhlkdgfcaeaaGreatDoor
open Go Go.RowKit
theorem loop_acc {α β γ : Type} (l : List α) (f : Nat → α → Option β) (g : α → β) (hf : ∀ i x, l[i]? = some x → f i x = some (g x)) (L : Nat → Int → List β → Option γ) (fin : List β → Option γ)
  (h : ∀ (k i : Nat) (s : List β), L (k + 1) (i : Int) s = bif decide ((i : Int) < ((l.length : Nat) : Int)) then (ix l (i : Int)).bind (fun x => (f i x).bind fun y => (app s [y]).bind fun s' => L k (wr ((i : Int) + 1)) s') else fin s)
  (hl : l.length ≤ 1000) {n : Nat} (hn : l.length < n) (s0 : List β) (hs0 : s0.length ≤ 100000) : L n 0 s0 = fin (s0 ++ l.map g) := by
 have key : ∀ (r : List α) (i k : Nat) (s : List β), l.drop i = r → i ≤ l.length → l.length < k + i → s.length ≤ 100000 + i → L k (i : Int) s = fin (s ++ r.map g) := by
  intro r
  induction r with
  | nil =>
   intro i k s hi h2 hk _
   have hil : l.length ≤ i := List.drop_eq_nil_iff.1 hi
   obtain ⟨k, rfl⟩ : ∃ k', k = k' + 1 := ⟨k - 1, by omega⟩
   rw [h, decide_eq_false (by omega), cond_false]
   simp
  | cons x r ih =>
   intro i k s hi h2 hk hs
   have hil : i < l.length := by
    rcases Nat.lt_or_ge i l.length with h | h
    ·exact h
    ·rw [List.drop_eq_nil_of_le h] at hi; cases hi
   obtain ⟨k, rfl⟩ : ∃ k', k = k' + 1 := ⟨k - 1, by omega⟩
   rw [List.drop_eq_getElem_cons hil] at hi
   obtain ⟨hx, hr⟩ := List.cons.inj hi
   have hg : l[i]? = some x := by rw [List.getElem?_eq_getElem hil, hx]
   have := ih (i + 1) k (s ++ [g x]) hr (by omega) (by omega) (by simp; omega)
   push_cast at this
   rw [h, decide_eq_true (by omega), cond_true, ix_at hg, Option.bind_some, hf i x hg, Option.bind_some, app_of (by simp; omega), Option.bind_some, wr_of (by omega), this]
   simp
 exact key l 0 n s0 (by simp) (by omega) (by omega) (by omega)
theorem quo_nat {a b : Nat} (ha : a ≤ 1000000000000000) (hb : 0 < b) : quo .i64 (a : Int) (b : Int) = some ((a / b : Nat) : Int) := by
 unfold quo
 have e : (a : Int).tdiv (b : Int) = ((a / b : Nat) : Int) := by
  rw [Int.tdiv_eq_ediv_of_nonneg (by omega)]; rfl
 have h2 : a / b ≤ a := Nat.div_le_self _ _
 rw [decide_eq_false (by omega), cond_false, e]
 generalize a / b = q at h2 ⊢
 exact congrArg some (wr_of (by omega))
theorem rem_nat {a b : Nat} (hb : 0 < b) : rem .i64 (a : Int) (b : Int) = some ((a % b : Nat) : Int) := by
 unfold rem
 rw [decide_eq_false (by omega), cond_false, Int.tmod_eq_emod_of_nonneg (by omega)]
 rfl
theorem wsum_le : ∀ (l : Bs) (i : Nat), wsum i l ≤ 255 * (i + l.length) * l.length := by
 intro l
 induction l with
 | nil => intro i; simp [wsum]
 | cons b r ih =>
  intro i
  have h1 := ih (i + 1)
  have hb : b.toNat ≤ 255 := by have := b.toNat_lt; omega
  rw [wsum, List.length_cons]
  have e : i + 1 + r.length = i + (r.length + 1) := by omega
  rw [e] at h1
  have h2 : b.toNat * (i + 1) ≤ 255 * (i + (r.length + 1)) := Nat.mul_le_mul hb (by omega)
  have h3 : 255 * (i + (r.length + 1)) * (r.length + 1) = 255 * (i + (r.length + 1)) * r.length + 255 * (i + (r.length + 1)) := Nat.mul_succ _ _
  rw [h3, Nat.add_comm (b.toNat * (i + 1))]
  exact Nat.add_le_add h1 h2
section
variable {n : Nat} {d : Drum}
theorem join_nl : ∀ (r : List Bs) (x : Bs), Lib.join (x :: r) [10] ++ [10] = (x :: r).flatMap (· ++ [10]) := by
 have key : ∀ r : List Bs, Lib.joinTail [10] r ++ [10] = [10] ++ r.flatMap (· ++ [10]) := by
  intro r
  induction r with
  | nil => rfl
  | cons y r ih =>
   have e : Lib.joinTail [10] (y :: r) = ([10] ++ y) ++ Lib.joinTail [10] r := by simp [Lib.joinTail]
   rw [e, List.append_assoc, ih, List.flatMap_cons]
   simp
 intro r x
 rw [Lib.join_cons, List.append_assoc, key, List.flatMap_cons]
 simp
def Lines (L : List Bs) : Prop := L.length ≤ 950 ∧ ∀ l ∈ L, l.length ≤ 900
theorem lines_sum {L : List Bs} (h : ∀ l ∈ L, l.length ≤ 900) : (L.map (wsum 0)).sum ≤ L.length * 206550000 := by
 induction L with
 | nil => simp
 | cons l r ih =>
  have h1 := h l List.mem_cons_self
  have h2 := ih (fun x hx => h x (List.mem_cons_of_mem _ hx))
  have h3 := wsum_le l 0
  have h4 : 255 * (0 + l.length) * l.length ≤ 255 * 900 * 900 := Nat.mul_le_mul (by omega) h1
  rw [List.map_cons, List.sum_cons, List.length_cons, Nat.succ_mul]
  omega
theorem lines_len {L : List Bs} (h : ∀ l ∈ L, l.length ≤ 900) : (L.flatMap (· ++ [10])).length ≤ L.length * 901 := by
 induction L with
 | nil => simp
 | cons l r ih =>
  have h1 := h l List.mem_cons_self
  have h2 := ih (fun x hx => h x (List.mem_cons_of_mem _ hx))
  rw [List.flatMap_cons, List.length_append, List.length_append]
  simp only [List.length_cons, List.length_nil]
  omega
theorem p_105_7 (K : Int → Int → Option ByteArray) (i : Int) (hi : 0 ≤ i ∧ i ≤ 10000) (l : Bs) (hl : l.length < n) (hl2 : l.length ≤ 900) (acc : Nat) (hacc : acc + wsum 0 l ≤ 1000000000000000) : s_105_l7 K i (bs l) n (acc : Int) 0 = K ((acc + wsum 0 l : Nat) : Int) (i + 1) := by
 have key : ∀ (r : Bs) (j k acc : Nat), l.drop j = r → j ≤ l.length → l.length < k + j → acc + wsum j r ≤ 1000000000000000 → s_105_l7 K i (bs l) k (acc : Int) (j : Int) = K ((acc + wsum j r : Nat) : Int) (i + 1) := by
  intro r
  induction r with
  | nil =>
   intro j k acc hj h2 hk _
   have hil : l.length ≤ j := List.drop_eq_nil_iff.1 hj
   obtain ⟨k, rfl⟩ : ∃ k', k = k' + 1 := ⟨k - 1, by omega⟩
   rw [s_105_l7, bs_size, decide_eq_false (by omega), cond_false, wr_of (by omega)]
   rfl
  | cons b r ih =>
   intro j k acc hj h2 hk ha
   have hil : j < l.length := by
    rcases Nat.lt_or_ge j l.length with h | h
    ·exact h
    ·rw [List.drop_eq_nil_of_le h] at hj; cases hj
   obtain ⟨k, rfl⟩ : ∃ k', k = k' + 1 := ⟨k - 1, by omega⟩
   rw [List.drop_eq_getElem_cons hil] at hj
   obtain ⟨hx, hr⟩ := List.cons.inj hj
   have hg : l[j]? = some b := by rw [List.getElem?_eq_getElem hil, hx]
   rw [wsum] at ha
   have hb : b.toNat ≤ 255 := by have := b.toNat_lt; omega
   have hm : b.toNat * (j + 1) ≤ 255 * (j + 1) := Nat.mul_le_mul_right _ hb
   have hcast : (b.toNat : Int) * ((j : Int) + 1) = ((b.toNat * (j + 1) : Nat) : Int) := by push_cast; rfl
   have := ih (j + 1) k (acc + b.toNat * (j + 1)) hr (by omega) (by omega) (by omega)
   push_cast at this
   rw [s_105_l7, bs_size, decide_eq_true (by omega), cond_true, ixs_at hg, Option.bind_some, wr_of (show -9223372036854775808 ≤ (b.toNat : Int) ∧ (b.toNat : Int) ≤ 9223372036854775807 by omega), wr_of (show -9223372036854775808 ≤ (j : Int) + 1 ∧ (j : Int) + 1 ≤ 9223372036854775807 by omega), wr_of (show -9223372036854775808 ≤ (b.toNat : Int) * ((j : Int) + 1) ∧ (b.toNat : Int) * ((j : Int) + 1) ≤ 9223372036854775807 by rw [hcast]; omega), wr_of (show -9223372036854775808 ≤ (acc : Int) + (b.toNat : Int) * ((j : Int) + 1) ∧ (acc : Int) + (b.toNat : Int) * ((j : Int) + 1) ≤ 9223372036854775807 by rw [hcast]; omega), this]
   rw [wsum]
   push_cast
   congr 1
   omega
 have := key l 0 n acc (by simp) (by omega) (by omega) hacc
 exact this
theorem end_cat {k : Nat} (hk : k < 103) : ∃ a b c, okZ ((k / 100 : Nat) : Int) ∧ okZ ((k / 10 % 10 : Nat) : Int) ∧ okZ ((k % 10 : Nat) : Int) ∧ a = Lib.itoa ((k / 100 : Nat) : Int) ∧ b = Lib.itoa ((k / 10 % 10 : Nat) : Int) ∧ c = Lib.itoa ((k % 10 : Nat) : Int) ∧ a.length ≤ 4 ∧ b.length ≤ 4 ∧ c.length ≤ 4 := by
 have h1 : okZ ((k / 100 : Nat) : Int) := ⟨by omega, by omega⟩
 have h2 : okZ ((k / 10 % 10 : Nat) : Int) := ⟨by omega, by omega⟩
 have h3 : okZ ((k % 10 : Nat) : Int) := ⟨by omega, by omega⟩
 exact ⟨_, _, _, h1, h2, h3, rfl, rfl, rfl, itoa_len h1, itoa_len h2, itoa_len h3⟩
theorem p_105_4 (hn : 1000 ≤ n) (L : List Bs) (hL : Lines L) (hne : L ≠ []) : s_105_l4 n (L.map bs) n 0 0 = some (bs (slipOf L)) := by
 obtain ⟨hl1, hl2⟩ := hL
 have hsum := lines_sum hl2
 have fin : ∀ tot : Nat, tot = (L.map (wsum 0)).sum → (rem .i64 (tot : Int) 103).bind (fun v169 => (quo .i64 v169 100).bind fun v170 => (s_156 n v170).bind fun v171 => (cat (ByteArray.mk #[101, 110, 100, 32]) v171).bind fun v172 => (quo .i64 v169 10).bind fun v173 => (rem .i64 v173 10).bind fun v174 => (s_156 n v174).bind fun v175 => (cat v172 v175).bind fun v176 => (rem .i64 v169 10).bind fun v177 => (s_156 n v177).bind fun v178 => (cat v176 v178).bind fun v179 => (app (L.map bs) ([v179])).bind fun v180 => (s_157 n v180 (ByteArray.mk #[10])).bind fun v181 => (cat v181 (ByteArray.mk #[10])).bind fun v182 => some (v182)) = some (bs (slipOf L)) := by
  intro tot ht
  have hk : tot % 103 < 103 := Nat.mod_lt _ (by omega)
  have hchk : chk L = tot % 103 := by unfold chk; rw [ht]
  obtain ⟨a, b, c, o1, o2, o3, e1, e2, e3, l1, l2, l3⟩ := end_cat hk
  have q1 : quo .i64 ((tot % 103 : Nat) : Int) 100 = some ((tot % 103 / 100 : Nat) : Int) := quo_nat (b := 100) (by omega) (by omega)
  have q2 : quo .i64 ((tot % 103 : Nat) : Int) 10 = some ((tot % 103 / 10 : Nat) : Int) := quo_nat (b := 10) (by omega) (by omega)
  have r0 : rem .i64 (tot : Int) 103 = some ((tot % 103 : Nat) : Int) := rem_nat (b := 103) (by omega)
  have r1 : rem .i64 ((tot % 103 / 10 : Nat) : Int) 10 = some ((tot % 103 / 10 % 10 : Nat) : Int) := rem_nat (b := 10) (by omega)
  have r2 : rem .i64 ((tot % 103 : Nat) : Int) 10 = some ((tot % 103 % 10 : Nat) : Int) := rem_nat (b := 10) (by omega)
  have c1 : cat (ByteArray.mk #[101, 110, 100, 32]) (bs a) = some (bs (kEnd ++ a)) := cat_bs (a := kEnd) (by simp [kEnd]; omega)
  have hend : kEnd ++ a ++ b ++ c = endL (chk L) := by rw [e1, e2, e3, hchk]; rfl
  have hendl : (endL (chk L)).length ≤ 16 := by rw [← hend]; simp [kEnd]; omega
  obtain ⟨x, r, hxr⟩ : ∃ x r, L ++ [endL (chk L)] = x :: r := by
   cases h : L ++ [endL (chk L)] with
   | nil => simp at h
   | cons x r => exact ⟨x, r, rfl⟩
  have hj := join_nl r x
  rw [← hxr, List.flatMap_append, List.flatMap_cons, List.flatMap_nil, List.append_nil] at hj
  have hjl : (Lib.join (L ++ [endL (chk L)]) [10]).length ≤ 900000 := by
   have h1 := lines_len hl2
   have h2 := congrArg List.length hj
   simp only [List.length_append, List.length_singleton] at h2
   omega
  have j157 : s_157 n ((L ++ [endL (chk L)]).map bs) (ByteArray.mk #[10]) = some (bs (Lib.join (L ++ [endL (chk L)]) [10])) := by
   have hm : ((L ++ [endL (chk L)]).map bs).map (fun s => s.data.toList) = L ++ [endL (chk L)] := by
    rw [List.map_map]
    exact List.map_id _
   unfold s_157
   rw [hm]
   show (bif decide ((Lib.join (L ++ [endL (chk L)]) [10]).length ≤ 140737488355328) && decide (((L ++ [endL (chk L)]).map bs).length ≤ 140737488355328) then some (bs (Lib.join (L ++ [endL (chk L)]) [10])) else none) = _
   rw [decide_eq_true (by omega), decide_eq_true (by simp; omega)]
   rfl
  have c4 : cat (bs (Lib.join (L ++ [endL (chk L)]) [10])) (ByteArray.mk #[10]) = some (bs (Lib.join (L ++ [endL (chk L)]) [10] ++ [10])) := cat_bs (b := [10]) (by simp only [List.length_singleton]; omega)
  rw [r0, Option.bind_some, q1, Option.bind_some, p_156 o1, Option.bind_some, ← e1, c1, Option.bind_some, q2, Option.bind_some, r1, Option.bind_some, p_156 o2, Option.bind_some, ← e2, cat_bs (by simp [kEnd]; omega), Option.bind_some, r2, Option.bind_some, p_156 o3, Option.bind_some, ← e3, cat_bs (by simp [kEnd]; omega), Option.bind_some, hend, app_of (by simp; omega), Option.bind_some, show L.map bs ++ [bs (endL (chk L))] = (L ++ [endL (chk L)]).map bs by simp, j157, Option.bind_some, c4, Option.bind_some, hj]
  rfl
 have key : ∀ (r : List Bs) (i k acc : Nat), L.drop i = r → i ≤ L.length → L.length < k + i → acc + (r.map (wsum 0)).sum = (L.map (wsum 0)).sum → s_105_l4 n (L.map bs) k (acc : Int) (i : Int) = some (bs (slipOf L)) := by
  intro r
  induction r with
  | nil =>
   intro i k acc hi h2 hk ha
   have hil : L.length ≤ i := List.drop_eq_nil_iff.1 hi
   obtain ⟨k, rfl⟩ : ∃ k', k = k' + 1 := ⟨k - 1, by omega⟩
   rw [s_105_l4, decide_eq_false (by rw [List.length_map]; omega), cond_false]
   exact fin acc (by simpa using ha)
  | cons l r ih =>
   intro i k acc hi h2 hk ha
   have hil : i < L.length := by
    rcases Nat.lt_or_ge i L.length with h | h
    ·exact h
    ·rw [List.drop_eq_nil_of_le h] at hi; cases hi
   obtain ⟨k, rfl⟩ : ∃ k', k = k' + 1 := ⟨k - 1, by omega⟩
   rw [List.drop_eq_getElem_cons hil] at hi
   obtain ⟨hx, hr⟩ := List.cons.inj hi
   have hll := hl2 l (by rw [← hx]; exact List.getElem_mem hil)
   have hg : (L.map bs)[i]? = some (bs l) := by rw [List.getElem?_map, List.getElem?_eq_getElem hil, hx]; rfl
   rw [List.map_cons, List.sum_cons] at ha
   have := ih (i + 1) k (acc + wsum 0 l) hr (by omega) (by omega) (by omega)
   push_cast at this
   rw [s_105_l4, decide_eq_true (by rw [List.length_map]; omega), cond_true, ix_at hg, Option.bind_some, p_105_7 _ (i : Int) (by omega) l (by omega) hll acc (by omega)]
   push_cast
   exact this
 have := key L 0 n 0 (by simp) (by omega) (by omega) (by omega)
 exact this
end
end Go.Proofs.YtohmhlkdgfcaeaaGreatDoor
namespace Go.Proofs.YtohmhlkdgfcaeaaGreatDoor
open Go Go.RowKit
section
variable {n : Nat} {d : Drum}
theorem len1 {a : Int} (h : okZ a) : (nums [a]).length ≤ 5 := nums_len [a] (mem1 h)
theorem hd_len (h : Fine d) : (hdL d).length ≤ 30 := by
 have h1 := len1 h.h
 have h2 := len1 h.k
 unfold hdL kDrum kKnown
 simp only [List.length_append, List.length_cons, List.length_nil]
 omega
theorem ac_len {a : Acid} (h : okZ a.strength.low ∧ okZ a.strength.high ∧ okZ a.fall.low ∧ okZ a.fall.high) : (acL a).length ≤ 40 := by
 have h1 := nums_len _ (mem2 h.1 h.2.1)
 have h2 := nums_len _ (mem2 h.2.2.1 h.2.2.2)
 unfold acL kAcid kFall
 simp only [List.length_append, List.length_cons, List.length_nil] at *
 omega
theorem st_len {s : Strip} (h : okZ s.hour ∧ okZ s.seen ∧ okZ s.off) : (stL s).length ≤ 40 := by
 have h1 := nums_len _ (mem3 h.1 h.2.1 h.2.2)
 unfold stL kStrip
 simp only [List.length_append, List.length_cons, List.length_nil] at *
 omega
theorem ba_len {b : Batch} (h : okZ b.rough ∧ okZ b.goal ∧ okZ b.thick ∧ okZ b.least ∧ okZ b.polish ∧ okZ b.eat) : (baL b).length ≤ 40 := by
 have h1 := nums_len _ (mem6 h.1 h.2.1 h.2.2.1 h.2.2.2.1 h.2.2.2.2.1 h.2.2.2.2.2)
 unfold baL kBatch
 simp only [List.length_append, List.length_cons, List.length_nil] at *
 omega
theorem fine_lines (h : Fine d) : Lines (linesOf d) := by
 have hll := h.ll
 refine ⟨?_, fun l hl => ?_⟩
 ·unfold linesOf
  simp only [List.length_cons, List.length_append, List.length_map]
  omega
 ·unfold linesOf at hl
  rcases List.mem_cons.1 hl with rfl | hl
  ·have := hd_len h; omega
  ·rcases List.mem_append.1 hl with hl | hl
   ·obtain ⟨a, ha, rfl⟩ := List.mem_map.1 hl
    have := ac_len (h.a a ha); omega
   ·rcases List.mem_cons.1 hl with rfl | hl
    ·exact h.ld
    ·rcases List.mem_append.1 hl with hl | hl
     ·obtain ⟨s, hs, rfl⟩ := List.mem_map.1 hl
      have := st_len (h.s s hs); omega
     ·obtain ⟨b, hb, rfl⟩ := List.mem_map.1 hl
      have := ba_len (h.b b hb); omega
theorem adds_len (h : Fine d) : d.adds.length ≤ 897 := by
 have h1 := nums_ge d.adds
 have h2 := h.ld
 unfold adL kAdd at h2
 simp only [List.length_append, List.length_cons, List.length_nil] at h2
 omega
theorem p_105 (hn : 1000 ≤ n) (h : Fine d) : s_105 n d = some (bs (slip d)) := by
 have hll := h.ll
 have had := adds_len h
 have e1 : s_155 n (ByteArray.mk #[100, 114, 117, 109]) [d.hours] = some (bs (kDrum ++ nums [d.hours])) := p_155 kDrum [d.hours] (by simp; omega) (by simp) (by simp [kDrum]) (mem1 h.h)
 have e2 : s_155 n (ByteArray.mk #[32, 107, 110, 111, 119, 110]) [d.known] = some (bs (kKnown ++ nums [d.known])) := p_155 kKnown [d.known] (by simp; omega) (by simp) (by simp [kKnown]) (mem1 h.k)
 have h1 := len1 h.h
 have h2 := len1 h.k
 have e3 : cat (bs (kDrum ++ nums [d.hours])) (bs (kKnown ++ nums [d.known])) = some (bs (hdL d)) := cat_bs (by simp [kDrum, kKnown]; omega)
 have L1 : ∀ s0 : List ByteArray, s0.length ≤ 100000 → s_105_l1 n d (ByteArray.mk #[97, 99, 105, 100], ByteArray.mk #[97, 100, 100], ByteArray.mk #[115, 116, 114, 105, 112], ByteArray.mk #[98, 97, 116, 99, 104]) n 0 s0 = (s_155 n (ByteArray.mk #[97, 100, 100]) d.adds).bind fun v125 => (app (s0 ++ d.acids.map (fun a => bs (acL a))) ([v125])).bind fun v126 => s_105_l2 n d (ByteArray.mk #[97, 99, 105, 100], ByteArray.mk #[97, 100, 100], ByteArray.mk #[115, 116, 114, 105, 112], ByteArray.mk #[98, 97, 116, 99, 104]) n 0 v126 := by
  intro s0 hs0
  exact loop_acc d.acids (fun _ x => (s_155 n (ByteArray.mk #[97, 99, 105, 100]) ([x.strength.low, x.strength.high])).bind fun v121 => (s_155 n (ByteArray.mk #[32, 102, 97, 108, 108]) ([x.fall.low, x.fall.high])).bind fun v122 => cat v121 v122) (fun a => bs (acL a)) (fun i x hx => by
   have hx := h.a x (List.mem_of_getElem? hx)
   have f1 : s_155 n (ByteArray.mk #[97, 99, 105, 100]) [x.strength.low, x.strength.high] = some (bs (kAcid ++ nums [x.strength.low, x.strength.high])) := p_155 kAcid _ (by simp; omega) (by simp) (by simp [kAcid]) (mem2 hx.1 hx.2.1)
   have f2 : s_155 n (ByteArray.mk #[32, 102, 97, 108, 108]) [x.fall.low, x.fall.high] = some (bs (kFall ++ nums [x.fall.low, x.fall.high])) := p_155 kFall _ (by simp; omega) (by simp) (by simp [kFall]) (mem2 hx.2.2.1 hx.2.2.2)
   have g1 := nums_len _ (mem2 hx.1 hx.2.1)
   have g2 := nums_len _ (mem2 hx.2.2.1 hx.2.2.2)
   rw [f1, Option.bind_some, f2, Option.bind_some]
   exact cat_bs (by simp [kAcid, kFall] at *; omega)) (s_105_l1 n d (ByteArray.mk #[97, 99, 105, 100], ByteArray.mk #[97, 100, 100], ByteArray.mk #[115, 116, 114, 105, 112], ByteArray.mk #[98, 97, 116, 99, 104])) (fun s => (s_155 n (ByteArray.mk #[97, 100, 100]) d.adds).bind fun v125 => (app s ([v125])).bind fun v126 => s_105_l2 n d (ByteArray.mk #[97, 99, 105, 100], ByteArray.mk #[97, 100, 100], ByteArray.mk #[115, 116, 114, 105, 112], ByteArray.mk #[98, 97, 116, 99, 104]) n 0 v126) (fun k i s => by rw [s_105_l1]; simp only [Option.bind_assoc]) (by omega) (n := n) (by omega) s0 hs0
 have L2 : ∀ s0 : List ByteArray, s0.length ≤ 100000 → s_105_l2 n d (ByteArray.mk #[97, 99, 105, 100], ByteArray.mk #[97, 100, 100], ByteArray.mk #[115, 116, 114, 105, 112], ByteArray.mk #[98, 97, 116, 99, 104]) n 0 s0 = s_105_l3 n d (ByteArray.mk #[97, 99, 105, 100], ByteArray.mk #[97, 100, 100], ByteArray.mk #[115, 116, 114, 105, 112], ByteArray.mk #[98, 97, 116, 99, 104]) n 0 (s0 ++ d.strips.map (fun a => bs (stL a))) := by
  intro s0 hs0
  exact loop_acc d.strips (fun _ x => s_155 n (ByteArray.mk #[115, 116, 114, 105, 112]) ([x.hour, x.seen, x.off])) (fun a => bs (stL a)) (fun i x hx => by
   have hx := h.s x (List.mem_of_getElem? hx)
   exact p_155 kStrip _ (by simp; omega) (by simp) (by simp [kStrip]) (mem3 hx.1 hx.2.1 hx.2.2)) (s_105_l2 n d (ByteArray.mk #[97, 99, 105, 100], ByteArray.mk #[97, 100, 100], ByteArray.mk #[115, 116, 114, 105, 112], ByteArray.mk #[98, 97, 116, 99, 104])) (s_105_l3 n d (ByteArray.mk #[97, 99, 105, 100], ByteArray.mk #[97, 100, 100], ByteArray.mk #[115, 116, 114, 105, 112], ByteArray.mk #[98, 97, 116, 99, 104]) n 0) (fun k i s => by rw [s_105_l2]; try rfl) (by omega) (n := n) (by omega) s0 hs0
 have L3 : ∀ s0 : List ByteArray, s0.length ≤ 100000 → s_105_l3 n d (ByteArray.mk #[97, 99, 105, 100], ByteArray.mk #[97, 100, 100], ByteArray.mk #[115, 116, 114, 105, 112], ByteArray.mk #[98, 97, 116, 99, 104]) n 0 s0 = s_105_l4 n (s0 ++ d.batches.map (fun a => bs (baL a))) n 0 0 := by
  intro s0 hs0
  exact loop_acc d.batches (fun _ x => s_155 n (ByteArray.mk #[98, 97, 116, 99, 104]) ([x.rough, x.goal, x.thick, x.least, x.polish, x.eat])) (fun a => bs (baL a)) (fun i x hx => by
   have hx := h.b x (List.mem_of_getElem? hx)
   exact p_155 kBatch _ (by simp; omega) (by simp) (by simp [kBatch]) (mem6 hx.1 hx.2.1 hx.2.2.1 hx.2.2.2.1 hx.2.2.2.2.1 hx.2.2.2.2.2)) (s_105_l3 n d (ByteArray.mk #[97, 99, 105, 100], ByteArray.mk #[97, 100, 100], ByteArray.mk #[115, 116, 114, 105, 112], ByteArray.mk #[98, 97, 116, 99, 104])) (fun s => s_105_l4 n s n 0 0) (fun k i s => by rw [s_105_l3]; try rfl) (by omega) (n := n) (by omega) s0 hs0
 have e4 : s_155 n (ByteArray.mk #[97, 100, 100]) d.adds = some (bs (adL d)) := p_155 kAdd d.adds (by omega) (by omega) (by simp [kAdd]) h.ad
 unfold s_105 s_154
 rw [Option.bind_some, e1, Option.bind_some, e2, Option.bind_some, e3, Option.bind_some, L1 _ (by simp), e4, Option.bind_some, app_of (by simp; omega), Option.bind_some, L2 _ (by simp; omega), L3 _ (by simp; omega)]
 have hL : [bs (hdL d)] ++ d.acids.map (fun a => bs (acL a)) ++ [bs (adL d)] ++ d.strips.map (fun a => bs (stL a)) ++ d.batches.map (fun a => bs (baL a)) = (linesOf d).map bs := by
  unfold linesOf
  simp [List.map_map, Function.comp_def]
 rw [hL]
 exact p_105_4 hn _ (fine_lines h) (by unfold linesOf; simp)
end
end Go.Proofs.YtohmhlkdgfcaeaaGreatDoor
namespace Go.Proofs.YtohmhlkdgfcaeaaGreatDoor
open Go Go.RowKit
def jn (c : UInt8) : List Bs → Bs
 | [] => []
 | [x] => x
 | x :: y :: r => x ++ c :: jn c (y :: r)
theorem jn_splt (c : UInt8) : ∀ l : Bs, jn c (splt c l) = l := by
 intro l
 induction l with
 | nil => rfl
 | cons b r ih =>
  rw [splt]
  cases hs : splt c r with
  | nil => exact absurd hs (spl_ne c r)
  | cons y ys =>
   rw [hs] at ih
   by_cases e : b = c
   ·rw [if_pos e, jn, ih, e]; rfl
   ·rw [if_neg e]
    cases ys with
    | nil => rw [jn] at ih ⊢; rw [ih]
    | cons z zs => rw [jn] at ih ⊢; rw [← ih]; rfl
def tol : List Bs → List Bs → Option (List Int)
 | [], [] => some []
 | w :: ws, p :: ps => if w = [] then (if goodNum (bs p) = true then (tol ws ps).map (digs p :: ·) else none) else if p = w then tol ws ps else none
 | _, _ => none
def told (ws : List Bs) (l : Bs) : Option (List Int) := tol ws (splt 32 l)
def fillW : List Bs → List Int → List Bs
 | [], _ => []
 | w :: ws, ns => if w = [] then (match ns with | x :: r => Lib.itoa x :: fillW ws r | [] => []) else w :: fillW ws ns
theorem fillW_cons (w : Bs) (ws : List Bs) (ns : List Int) : fillW (w :: ws) ns = if w = [] then (match ns with | x :: r => Lib.itoa x :: fillW ws r | [] => []) else w :: fillW ws ns := by cases ns <;> rfl
def gaps (ws : List Bs) : Nat := ws.countP (fun w => decide (w = []))
theorem tol_spec : ∀ (ws ps : List Bs) (ns : List Int), tol ws ps = some ns → ps = fillW ws ns ∧ (∀ x ∈ ns, okZ x) ∧ ns.length = gaps ws := by
 intro ws
 induction ws with
 | nil =>
  intro ps ns h
  cases ps with
  | nil => cases h; exact ⟨rfl, by simp, rfl⟩
  | cons p ps => cases h
 | cons w ws ih =>
  intro ps ns h
  cases ps with
  | nil => cases h
  | cons p ps =>
   rw [tol] at h
   unfold gaps
   rw [List.countP_cons]
   by_cases hw : w = []
   ·rw [if_pos hw] at h
    by_cases hg : goodNum (bs p) = true
    ·rw [if_pos hg] at h
     obtain ⟨ms, hm, rfl⟩ := Option.map_eq_some_iff.1 h
     obtain ⟨a, b, c⟩ := ih ps ms hm
     obtain ⟨u, u1, u2, u3⟩ := good_spec hg
     refine ⟨?_, fun x hx => ?_, ?_⟩
     ·rw [fillW_cons, if_pos hw, u2]
      show p :: ps = Lib.itoa (u : Int) :: fillW ws ms
      rw [← u3, ← a]
     ·rcases List.mem_cons.1 hx with rfl | hx
      ·exact ⟨by omega, by omega⟩
      ·exact b x hx
     ·rw [List.length_cons, c, if_pos (by simpa using hw)]; rfl
    ·rw [if_neg hg] at h; cases h
   ·rw [if_neg hw] at h
    by_cases hp : p = w
    ·rw [if_pos hp] at h
     obtain ⟨a, b, c⟩ := ih ps ns h
     refine ⟨by rw [fillW_cons, if_neg hw, ← a, hp], b, ?_⟩
     rw [c, if_neg (by simpa using hw)]; rfl
    ·rw [if_neg hp] at h; cases h
theorem itoa_no {x : Int} (h : okZ x) {c : UInt8} (hc : isDig c = false) : c ∉ Lib.itoa x := by
 obtain ⟨u, u1, rfl⟩ := okN_nat h
 rw [itoa_nat]
 intro hm
 have := (digs_dec 3 u (by omega)).2
 have := List.all_eq_true.1 this c hm
 rw [hc] at this; cases this
theorem told_spec {ws : List Bs} {l : Bs} {ns : List Int} (h : told ws l = some ns) : l = jn 32 (fillW ws ns) ∧ (∀ x ∈ ns, okZ x) ∧ ns.length = gaps ws := by
 obtain ⟨a, b, c⟩ := tol_spec ws _ ns h
 exact ⟨by rw [← a, jn_splt], b, c⟩
def ResT {α : Type} (r : Except Value α) (o : Option α) : Prop := match o with
 | some a => r = .ok a
 | none => ∃ e, r = .error e ∧ isText e = true
section
variable {n : Nat}
theorem p_160 (b : Bool) (s : ByteArray) : ∃ r, s_160 n b s = some r ∧ ResT r (if b = true then some () else none) := by
 unfold s_160
 cases b with
 | true => exact ⟨.ok (), rfl, rfl⟩
 | false => exact ⟨_, rfl, _, rfl, rfl⟩
theorem p_161 (l : Bs) (ws : List Bs) (hl : l.length + 1 < n) (hl2 : l.length ≤ 100000) : ∃ r, s_161 n (bs l) (ws.map bs) = some r ∧ ResT r (told ws l) := by
 unfold s_161
 have h0 : s_159 n (bs l) (ByteArray.mk #[32]) = some ((splt 32 l).map bs) := p_159 n l 32 (by omega)
 have hsl := spl_len 32 l
 have hcl : l.count 32 ≤ l.length := List.count_le_length
 rw [h0, Option.bind_some]
 have hlen : decide (((((splt 32 l).map bs).length : Nat) : Int) = (((ws.map bs).length : Nat) : Int)) = decide ((splt 32 l).length = ws.length) := by
  rw [decide_eq_decide, List.length_map, List.length_map]; omega
 rw [hlen]
 have tlen : ∀ (ws ps : List Bs), ps.length ≠ ws.length → tol ws ps = none := by
  intro ws
  induction ws with
  | nil => intro ps h; cases ps with | nil => exact absurd rfl h | cons => rfl
  | cons w ws ih =>
   intro ps h
   cases ps with
   | nil => rfl
   | cons p ps =>
    have := ih ps (by simpa using h)
    rw [tol, this]
    split
    ·split <;> rfl
    ·split <;> rfl
 by_cases hc : (splt 32 l).length = ws.length
 ·rw [decide_eq_true hc]
  show ∃ r, s_161_l1 n (bs l) (ws.map bs) ((splt 32 l).map bs) n 0 [] = some r ∧ _
  have key : ∀ (ps vs : List Bs) (i k : Nat) (acc : List Int), (splt 32 l).drop i = ps → ws.drop i = vs → i ≤ (splt 32 l).length → (splt 32 l).length < k + i → acc.length ≤ i → ∃ r, s_161_l1 n (bs l) (ws.map bs) ((splt 32 l).map bs) k (i : Int) acc = some r ∧ ResT r ((tol vs ps).map (acc ++ ·)) := by
   intro ps
   induction ps with
   | nil =>
    intro vs i k acc hi hv h2 hk ha
    have hil : (splt 32 l).length ≤ i := List.drop_eq_nil_iff.1 hi
    have hv0 : vs = [] := by rw [← hv]; exact List.drop_eq_nil_of_le (by omega)
    obtain ⟨k, rfl⟩ : ∃ k', k = k' + 1 := ⟨k - 1, by omega⟩
    refine ⟨.ok acc, ?_, ?_⟩
    ·rw [s_161_l1, decide_eq_false (by rw [List.length_map]; omega), cond_false]
    ·rw [hv0]; simp [tol, ResT]
   | cons p ps ih =>
    intro vs i k acc hi hv h2 hk ha
    have hil : i < (splt 32 l).length := by
     rcases Nat.lt_or_ge i (splt 32 l).length with h | h
     ·exact h
     ·rw [List.drop_eq_nil_of_le h] at hi; cases hi
    have hiw : i < ws.length := by omega
    obtain ⟨k, rfl⟩ : ∃ k', k = k' + 1 := ⟨k - 1, by omega⟩
    rw [List.drop_eq_getElem_cons hil] at hi
    obtain ⟨hx, hr⟩ := List.cons.inj hi
    rw [List.drop_eq_getElem_cons hiw] at hv
    have g1 : ix ((splt 32 l).map bs) (i : Int) = some (bs p) := ix_at (by rw [List.getElem?_map, List.getElem?_eq_getElem hil, hx]; rfl)
    have g2 : ix (ws.map bs) (i : Int) = some (bs ws[i]) := ix_at (by rw [List.getElem?_map, List.getElem?_eq_getElem hiw]; rfl)
    have hnext := fun acc ha => ih (ws.drop (i + 1)) (i + 1) k acc hr rfl (by omega) (by omega) ha
    push_cast at hnext
    rw [← hv, tol]
    have hbs : ∀ a b : Bs, decide (bs a = bs b) = decide (a = b) := fun a b => decide_eq_decide.2 ⟨bs_inj, fun h => by rw [h]⟩
    have hemp : decide (bs ws[i] = ByteArray.mk #[]) = decide (ws[i] = []) := hbs ws[i] []
    rw [s_161_l1, decide_eq_true (by rw [List.length_map]; omega), cond_true, g1, Option.bind_some, g2, Option.bind_some, hemp, Option.bind_some, hbs, wr_of (by omega)]
    by_cases hw : ws[i] = []
    ·rw [decide_eq_true hw, Bool.not_true, cond_false, if_pos hw]
     unfold s_181
     rw [Option.bind_some, bs_data]
     by_cases hg : goodNum (bs p) = true
     ·rw [hg, cond_true, if_pos rfl]
      show ∃ r, ((app acc [digs p]).bind fun v139 => s_161_l1 n (bs l) (ws.map bs) ((splt 32 l).map bs) k ((i : Int) + 1) v139) = some r ∧ _
      rw [app_of (by simp; omega), Option.bind_some]
      obtain ⟨r, r1, r2⟩ := hnext (acc ++ [digs p]) (by simp; omega)
      refine ⟨r, r1, ?_⟩
      rw [Option.map_map]
      have : ((fun x => acc ++ x) ∘ fun x => digs p :: x) = fun x => acc ++ [digs p] ++ x := by funext x; simp
      rw [this]
      exact r2
     ·have hg : goodNum (bs p) = false := by simpa using hg
      rw [hg, cond_false, if_neg (by simp)]
      exact ⟨_, rfl, _, rfl, rfl⟩
    ·rw [decide_eq_false hw, Bool.not_false, cond_true, if_neg hw]
     by_cases hp : p = ws[i]
     ·rw [decide_eq_true hp, if_pos hp]
      exact hnext acc (by omega)
     ·rw [decide_eq_false hp, if_neg hp]
      exact ⟨_, rfl, _, rfl, rfl⟩
  obtain ⟨r, r1, r2⟩ := key (splt 32 l) ws 0 n [] rfl rfl (by omega) (by omega) (by simp)
  refine ⟨r, r1, ?_⟩
  have : (fun x : List Int => [] ++ x) = id := by funext x; rfl
  rw [this, Option.map_id] at r2
  exact r2
 ·rw [decide_eq_false hc]
  unfold told
  rw [tlen ws _ hc]
  exact ⟨_, rfl, _, rfl, rfl⟩
end
end Go.Proofs.YtohmhlkdgfcaeaaGreatDoor
namespace Go.Proofs.YtohmhlkdgfcaeaaGreatDoor
open Go Go.RowKit
def fHead : List Bs := [kDrum, [], [107, 110, 111, 119, 110], []]
def fAcid : List Bs := [kAcid, [], [], [102, 97, 108, 108], [], []]
def fAdd (k : Nat) : List Bs := kAdd :: List.replicate k []
def fStrip : List Bs := [kStrip, [], [], []]
def fBatch : List Bs := [kBatch, [], [], [], [], [], []]
def rdLine (d : Drum) (l : Bs) : Option Drum :=
 if (splt 32 l).headD [] = kAcid then (told fAcid l).map fun ns => { d with acids := d.acids ++ [⟨⟨ns.getD 0 0, ns.getD 1 0⟩, ⟨ns.getD 2 0, ns.getD 3 0⟩⟩] }
 else if (splt 32 l).headD [] = kAdd then (told (fAdd (l.count 32)) l).map fun ns => { d with adds := ns }
 else if (splt 32 l).headD [] = kStrip then (told fStrip l).map fun ns => { d with strips := d.strips ++ [⟨ns.getD 0 0, ns.getD 1 0, ns.getD 2 0⟩] }
 else (told fBatch l).map fun ns => { d with batches := d.batches ++ [⟨ns.getD 0 0, ns.getD 1 0, ns.getD 2 0, ns.getD 3 0, ns.getD 4 0, ns.getD 5 0⟩] }
def rdLines : Drum → List Bs → Option Drum
 | d, [] => some d
 | d, l :: r => (rdLine d l).bind fun d' => rdLines d' r
def readP (l : Bs) : Option Drum :=
 if 3 ≤ (splt 10 l).length then (told fHead ((splt 10 l).getD 0 [])).bind fun ns => (rdLines ⟨[], ns.getD 1 0, ns.getD 0 0, [], [], []⟩ (((splt 10 l).take ((splt 10 l).length - 2)).drop 1)).bind fun d => if slip d = l then some d else none
 else none
structure AccD (d : Drum) (k : Nat) : Prop where
 h : okZ d.hours
 kn : okZ d.known
 a : ∀ x ∈ d.acids, okZ x.strength.low ∧ okZ x.strength.high ∧ okZ x.fall.low ∧ okZ x.fall.high
 ad : ∀ x ∈ d.adds, okZ x
 s : ∀ x ∈ d.strips, okZ x.hour ∧ okZ x.seen ∧ okZ x.off
 b : ∀ x ∈ d.batches, okZ x.rough ∧ okZ x.goal ∧ okZ x.thick ∧ okZ x.least ∧ okZ x.polish ∧ okZ x.eat
 ll : d.acids.length + d.strips.length + d.batches.length ≤ k
 ld : (adL d).length ≤ 900
theorem AccD.fine {d : Drum} {k : Nat} (h : AccD d k) (hk : k ≤ 900) : Fine d := ⟨h.h, h.kn, h.a, h.ad, h.s, h.b, by have := h.ll; omega, h.ld⟩
theorem getD_ok {ns : List Int} (h : ∀ x ∈ ns, okZ x) (i : Nat) (hi : i < ns.length) : okZ (ns.getD i 0) := by
 rw [List.getD_eq_getElem?_getD, List.getElem?_eq_getElem hi]
 exact h _ (List.getElem_mem hi)
theorem mem_snoc {α : Type} {P : α → Prop} {l : List α} {x : α} (h : ∀ y ∈ l, P y) (hx : P x) : ∀ y ∈ l ++ [x], P y := by
 intro y hy
 rcases List.mem_append.1 hy with hy | hy
 ·exact h y hy
 ·obtain rfl := List.mem_singleton.1 hy; exact hx
theorem fill_rep : ∀ (k : Nat) (ns : List Int), ns.length = k → fillW (List.replicate k []) ns = ns.map Lib.itoa := by
 intro k
 induction k with
 | zero => intro ns h; obtain rfl := List.eq_nil_of_length_eq_zero h; rfl
 | succ k ih =>
  intro ns h
  cases ns with
  | nil => cases h
  | cons x r => rw [List.replicate_succ, fillW_cons, if_pos rfl, List.map_cons, ← ih r (by simpa using h)]
theorem gaps_rep (k : Nat) : gaps (List.replicate k []) = k := by
 unfold gaps
 induction k with
 | zero => rfl
 | succ k ih => rw [List.replicate_succ, List.countP_cons, ih]; simp
theorem jn_nums (w : Bs) : ∀ ns : List Int, jn 32 (w :: ns.map Lib.itoa) = w ++ nums ns := by
 intro ns
 induction ns generalizing w with
 | nil => simp [jn, nums]
 | cons x r ih =>
  have e : nums (x :: r) = (32 :: Lib.itoa x) ++ nums r := rfl
  rw [List.map_cons, jn, ih, e]
  simp
theorem kAdd_ne : kAdd ≠ [] := by simp [kAdd]
theorem add_spec {k : Nat} {l : Bs} {ns : List Int} (h : told (fAdd k) l = some ns) : l = kAdd ++ nums ns ∧ ∀ x ∈ ns, okZ x := by
 obtain ⟨a, b, c⟩ := told_spec h
 have hg : gaps (fAdd k) = k := by
  unfold fAdd gaps
  rw [List.countP_cons]
  have := gaps_rep k
  unfold gaps at this
  rw [this]
  simp [kAdd_ne]
 refine ⟨?_, b⟩
 rw [a, fAdd, fillW_cons, if_neg kAdd_ne, fill_rep k ns (by rw [c, hg])]
 exact jn_nums kAdd ns
theorem rd_acc {d d' : Drum} {l : Bs} {k : Nat} (h : AccD d k) (hl : l.length ≤ 900) (he : rdLine d l = some d') : AccD d' (k + 1) := by
 have hll := h.ll
 unfold rdLine at he
 by_cases h1 : (splt 32 l).headD [] = kAcid
 ·rw [if_pos h1] at he
  obtain ⟨ns, h2, rfl⟩ := Option.map_eq_some_iff.1 he
  obtain ⟨_, b, c⟩ := told_spec h2
  have c : ns.length = 4 := c
  exact ⟨h.h, h.kn, mem_snoc h.a ⟨getD_ok b 0 (by omega), getD_ok b 1 (by omega), getD_ok b 2 (by omega), getD_ok b 3 (by omega)⟩, h.ad, h.s, h.b, by simp; omega, h.ld⟩
 ·rw [if_neg h1] at he
  by_cases h3 : (splt 32 l).headD [] = kAdd
  ·rw [if_pos h3] at he
   obtain ⟨ns, h2, rfl⟩ := Option.map_eq_some_iff.1 he
   obtain ⟨a, b⟩ := add_spec h2
   exact ⟨h.h, h.kn, h.a, b, h.s, h.b, by show d.acids.length + d.strips.length + d.batches.length ≤ k + 1; omega, by show (kAdd ++ nums ns).length ≤ 900; rw [← a]; exact hl⟩
  ·rw [if_neg h3] at he
   by_cases h4 : (splt 32 l).headD [] = kStrip
   ·rw [if_pos h4] at he
    obtain ⟨ns, h2, rfl⟩ := Option.map_eq_some_iff.1 he
    obtain ⟨_, b, c⟩ := told_spec h2
    have c : ns.length = 3 := c
    exact ⟨h.h, h.kn, h.a, h.ad, mem_snoc h.s ⟨getD_ok b 0 (by omega), getD_ok b 1 (by omega), getD_ok b 2 (by omega)⟩, h.b, by simp; omega, h.ld⟩
   ·rw [if_neg h4] at he
    obtain ⟨ns, h2, rfl⟩ := Option.map_eq_some_iff.1 he
    obtain ⟨_, b, c⟩ := told_spec h2
    have c : ns.length = 6 := c
    exact ⟨h.h, h.kn, h.a, h.ad, h.s, mem_snoc h.b ⟨getD_ok b 0 (by omega), getD_ok b 1 (by omega), getD_ok b 2 (by omega), getD_ok b 3 (by omega), getD_ok b 4 (by omega), getD_ok b 5 (by omega)⟩, by simp; omega, h.ld⟩
theorem ix_getD {ns : List Int} {i : Nat} (h : i < ns.length) : ix ns (i : Int) = some (ns.getD i 0) := by
 rw [ix_at (List.getElem?_eq_getElem h), List.getD_eq_getElem?_getD, List.getElem?_eq_getElem h]
 rfl
section
variable {n : Nat}
theorem p_162 (l : Bs) (hl : l.length < 4294967281) : ∃ v, s_162 n (bs l) (ByteArray.mk #[32]) = some v ∧ v.1 = bs ((splt 32 l).headD []) := by
 unfold s_162
 have h1 : (bs l).size < 4294967281 := hl
 rw [decide_eq_true h1]
 refine ⟨_, rfl, ?_⟩
 show bs (Lib.cut l [32]).1 = _
 congr 1
 unfold Lib.cut
 rw [Lib.index_one]
 by_cases hm : (32 : UInt8) ∈ l
 ·obtain ⟨a, b, rfl, hn⟩ := first_of hm
  rw [idx_first a b hn, if_pos (by omega), spl_app 32 a b hn]
  show (a ++ 32 :: b).take ((a.length : Nat) : Int).toNat = a
  rw [show ((a.length : Nat) : Int).toNat = a.length by omega, List.take_left']
  rfl
 ·have h0 : Lib.indexByte l 32 = -1 := by
   rcases Int.lt_or_le (Lib.indexByte l 32) 0 with h | h
   ·have := Lib.indexByte_ge l 32; omega
   ·exfalso
    obtain ⟨o, ho⟩ := Int.eq_ofNat_of_zero_le h
    have := (Lib.indexByte_some ho).1
    exact hm (List.mem_of_getElem? this)
  rw [h0, if_neg (by omega), spl_none 32 l hm]
  rfl
theorem resT_bind {α β : Type} {r : Except Value α} {o : Option α} (h : ResT r o) (f : α → Option (Except Value β)) (g : α → Option β) (hf : ∀ a, o = some a → ∃ s, f a = some s ∧ ResT s (g a)) :
  ∃ s, Except.casesOn (motive := fun _ => Option (Except Value β)) r (fun p => some (.error p)) f = some s ∧ ResT s (o.bind g) := by
 cases o with
 | none => obtain ⟨e, rfl, he⟩ := h; exact ⟨_, rfl, e, rfl, he⟩
 | some a => obtain rfl : r = .ok a := h; exact hf a rfl
theorem bs_dec (a b : Bs) : decide (bs a = bs b) = decide (a = b) := decide_eq_decide.2 ⟨bs_inj, fun h => by rw [h]⟩
abbrev wTup : ByteArray × ByteArray × ByteArray × ByteArray := (ByteArray.mk #[97, 99, 105, 100], ByteArray.mk #[97, 100, 100], ByteArray.mk #[115, 116, 114, 105, 112], ByteArray.mk #[98, 97, 116, 99, 104])
theorem p_110_l1 (hn : 1000 ≤ n) (s : Bs) (L : List Bs) (hL : L.length ≤ 800) (hl : ∀ l ∈ L, l.length ≤ 800) (hh kk : Int) : ∀ (r : List Bs) (i k : Nat) (d : Drum), L.drop i = r → i ≤ L.length → L.length < k + i → AccD d i → d.hours = hh → d.known = kk →
  ∃ v, s_110_l1 n (bs s) hh kk wTup (L.map bs) k (i : Int) d.adds d.batches d.acids d.strips = some v ∧ ResT v ((rdLines d r).bind fun d => if slip d = s then some d else none) := by
 intro r
 induction r with
 | nil =>
  intro i k d hi h2 hk ha e1 e2
  have hil : L.length ≤ i := List.drop_eq_nil_iff.1 hi
  obtain ⟨k, rfl⟩ : ∃ k', k = k' + 1 := ⟨k - 1, by omega⟩
  have hf := ha.fine (by omega)
  have hd : Drum.mk d.acids kk hh d.adds d.strips d.batches = d := by rw [← e1, ← e2]
  rw [s_110_l1, decide_eq_false (by rw [List.length_map]; omega), cond_false, hd, p_105 hn hf, Option.bind_some, bs_dec]
  obtain ⟨v, v1, v2⟩ := p_160 (n := n) (decide (slip d = s)) (bs s)
  rw [v1, Option.bind_some]
  have := resT_bind (β := Drum) v2 (fun _ => some (.ok d)) (fun _ => some d) (fun a _ => ⟨_, rfl, rfl⟩)
  rw [rdLines, Option.bind_some]
  by_cases c : slip d = s
  ·rw [decide_eq_true c] at this
   rw [if_pos c]
   simpa using this
  ·rw [decide_eq_false c] at this
   rw [if_neg c]
   simpa using this
 | cons l r ih =>
  intro i k d hi h2 hk ha e1 e2
  have hil : i < L.length := by
   rcases Nat.lt_or_ge i L.length with h | h
   ·exact h
   ·rw [List.drop_eq_nil_of_le h] at hi; cases hi
  obtain ⟨k, rfl⟩ : ∃ k', k = k' + 1 := ⟨k - 1, by omega⟩
  rw [List.drop_eq_getElem_cons hil] at hi
  obtain ⟨hx, hr⟩ := List.cons.inj hi
  have hll := hl l (by rw [← hx]; exact List.getElem_mem hil)
  have hg : ix (L.map bs) (i : Int) = some (bs l) := ix_at (by rw [List.getElem?_map, List.getElem?_eq_getElem hil, hx]; rfl)
  obtain ⟨c, c1, c2⟩ := p_162 (n := n) l (by omega)
  have hnext : ∀ d', rdLine d l = some d' → d'.hours = hh → d'.known = kk → ∃ v, s_110_l1 n (bs s) hh kk wTup (L.map bs) k ((i : Int) + 1) d'.adds d'.batches d'.acids d'.strips = some v ∧ ResT v ((rdLines d' r).bind fun d => if slip d = s then some d else none) := by
   intro d' hd' f1 f2
   have := ih (i + 1) k d' hr (by omega) (by omega) (rd_acc ha (by omega) hd') f1 f2
   push_cast at this
   exact this
  have hal := ha.ll
  have d1 : decide (bs ((splt 32 l).headD []) = wTup.1) = decide ((splt 32 l).headD [] = kAcid) := bs_dec _ kAcid
  have d2 : decide (bs ((splt 32 l).headD []) = wTup.2.1) = decide ((splt 32 l).headD [] = kAdd) := bs_dec _ kAdd
  have d3 : decide (bs ((splt 32 l).headD []) = wTup.2.2.1) = decide ((splt 32 l).headD [] = kStrip) := bs_dec _ kStrip
  rw [rdLines, s_110_l1, decide_eq_true (by rw [List.length_map]; omega), cond_true, hg, Option.bind_some, c1, Option.bind_some, c2, d1, d2, d3]
  unfold rdLine at hnext ⊢
  by_cases h1 : (splt 32 l).headD [] = kAcid
  ·rw [decide_eq_true h1, cond_true, if_pos h1]
   rw [if_pos h1] at hnext
   obtain ⟨v, v1, v2⟩ := p_161 (n := n) l fAcid (by omega) (by omega)
   have v1' : s_161 n (bs l) ([(ByteArray.mk #[97, 99, 105, 100]), (ByteArray.mk #[]), (ByteArray.mk #[]), (ByteArray.mk #[102, 97, 108, 108]), (ByteArray.mk #[]), (ByteArray.mk #[])]) = some v := v1
   rw [v1', Option.bind_some, Option.bind_map, Option.bind_assoc]
   refine resT_bind v2 _ _ (fun ns hns => ?_)
   have c : ns.length = 4 := (told_spec hns).2.2
   have q0 : ix ns 0 = some (ns.getD 0 0) := ix_getD (i := 0) (by omega)
   have q1 : ix ns 1 = some (ns.getD 1 0) := ix_getD (i := 1) (by omega)
   have q2 : ix ns 2 = some (ns.getD 2 0) := ix_getD (i := 2) (by omega)
   have q3 : ix ns 3 = some (ns.getD 3 0) := ix_getD (i := 3) (by omega)
   rw [q0, Option.bind_some, q1, Option.bind_some, q2, Option.bind_some, q3, Option.bind_some, app_of (by simp; omega), Option.bind_some, wr_of (by omega)]
   exact hnext { d with acids := d.acids ++ [⟨⟨ns.getD 0 0, ns.getD 1 0⟩, ⟨ns.getD 2 0, ns.getD 3 0⟩⟩] } (by rw [hns]; rfl) e1 e2
  ·rw [decide_eq_false h1, cond_false, if_neg h1]
   rw [if_neg h1] at hnext
   by_cases h3 : (splt 32 l).headD [] = kAdd
   ·rw [decide_eq_true h3, cond_true, if_pos h3]
    rw [if_pos h3] at hnext
    have hcl : l.count 32 ≤ l.length := List.count_le_length
    have g1 : s_163 n (bs l) (ByteArray.mk #[32]) = some ((l.count 32 : Nat) : Int) := rfl
    have g2 : appz ([(ByteArray.mk #[97, 100, 100])]) ((l.count 32 : Nat) : Int) = some ((fAdd (l.count 32)).map bs) := by
     unfold appz
     have e : ((l.count 32 : Nat) : Int).toNat = l.count 32 := by omega
     rw [decide_eq_true (by omega), cond_true, e, app_of (by simp; omega)]
     unfold fAdd
     rw [List.map_cons, List.map_replicate]
     rfl
    obtain ⟨v, v1, v2⟩ := p_161 (n := n) l (fAdd (l.count 32)) (by omega) (by omega)
    rw [g1, Option.bind_some, g2, Option.bind_some, v1, Option.bind_some, Option.bind_map, Option.bind_assoc]
    refine resT_bind v2 _ _ (fun ns hns => ?_)
    rw [wr_of (by omega)]
    exact hnext { d with adds := ns } (by rw [hns]; rfl) e1 e2
   ·rw [decide_eq_false h3, cond_false, if_neg h3]
    rw [if_neg h3] at hnext
    by_cases h4 : (splt 32 l).headD [] = kStrip
    ·rw [decide_eq_true h4, cond_true, if_pos h4]
     rw [if_pos h4] at hnext
     obtain ⟨v, v1, v2⟩ := p_161 (n := n) l fStrip (by omega) (by omega)
     have v1' : s_161 n (bs l) ([(ByteArray.mk #[115, 116, 114, 105, 112]), (ByteArray.mk #[]), (ByteArray.mk #[]), (ByteArray.mk #[])]) = some v := v1
     rw [v1', Option.bind_some, Option.bind_map, Option.bind_assoc]
     refine resT_bind v2 _ _ (fun ns hns => ?_)
     have c : ns.length = 3 := (told_spec hns).2.2
     have q0 : ix ns 0 = some (ns.getD 0 0) := ix_getD (i := 0) (by omega)
     have q1 : ix ns 1 = some (ns.getD 1 0) := ix_getD (i := 1) (by omega)
     have q2 : ix ns 2 = some (ns.getD 2 0) := ix_getD (i := 2) (by omega)
     rw [q0, Option.bind_some, q1, Option.bind_some, q2, Option.bind_some, app_of (by simp; omega), Option.bind_some, wr_of (by omega)]
     exact hnext { d with strips := d.strips ++ [⟨ns.getD 0 0, ns.getD 1 0, ns.getD 2 0⟩] } (by rw [hns]; rfl) e1 e2
    ·rw [decide_eq_false h4, cond_false, if_neg h4]
     rw [if_neg h4] at hnext
     obtain ⟨v, v1, v2⟩ := p_161 (n := n) l fBatch (by omega) (by omega)
     have v1' : s_161 n (bs l) ([(ByteArray.mk #[98, 97, 116, 99, 104]), (ByteArray.mk #[]), (ByteArray.mk #[]), (ByteArray.mk #[]), (ByteArray.mk #[]), (ByteArray.mk #[]), (ByteArray.mk #[])]) = some v := v1
     rw [v1', Option.bind_some, Option.bind_map, Option.bind_assoc]
     refine resT_bind v2 _ _ (fun ns hns => ?_)
     have c : ns.length = 6 := (told_spec hns).2.2
     have q0 : ix ns 0 = some (ns.getD 0 0) := ix_getD (i := 0) (by omega)
     have q1 : ix ns 1 = some (ns.getD 1 0) := ix_getD (i := 1) (by omega)
     have q2 : ix ns 2 = some (ns.getD 2 0) := ix_getD (i := 2) (by omega)
     have q3 : ix ns 3 = some (ns.getD 3 0) := ix_getD (i := 3) (by omega)
     have q4 : ix ns 4 = some (ns.getD 4 0) := ix_getD (i := 4) (by omega)
     have q5 : ix ns 5 = some (ns.getD 5 0) := ix_getD (i := 5) (by omega)
     rw [q0, Option.bind_some, q1, Option.bind_some, q2, Option.bind_some, q3, Option.bind_some, q4, Option.bind_some, q5, Option.bind_some, app_of (by simp; omega), Option.bind_some, wr_of (by omega)]
     exact hnext { d with batches := d.batches ++ [⟨ns.getD 0 0, ns.getD 1 0, ns.getD 2 0, ns.getD 3 0, ns.getD 4 0, ns.getD 5 0⟩] } (by rw [hns]; rfl) e1 e2
end
end Go.Proofs.YtohmhlkdgfcaeaaGreatDoor
