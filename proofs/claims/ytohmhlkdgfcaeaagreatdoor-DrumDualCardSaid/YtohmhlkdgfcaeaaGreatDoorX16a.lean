/- What law 16 asks besides, part 1. -/
import Derived.Test.YtohmhlkdgfcaeaaGreatDoorProg
import Derived.KernelRfl
import Derived.Test.YtohmhlkdgfcaeaaGreatDoorK8
set_option linter.unusedVariables false
set_option linter.unusedSimpArgs false
namespace Go.Proofs.YtohmhlkdgfcaeaaGreatDoor
open Go Go.RowKit
theorem ca_122 : Callable Tryz.prog 122 := by unfold Callable; kernel_rfl
theorem ca_23 : Callable Tryz.prog 23 := by unfold Callable; kernel_rfl
theorem ca_24 : Callable Tryz.prog 24 := by unfold Callable; kernel_rfl
theorem ca_39 : Callable Tryz.prog 39 := by unfold Callable; kernel_rfl
theorem ca_46 : Callable Tryz.prog 46 := by unfold Callable; kernel_rfl
theorem ca_50 : Callable Tryz.prog 50 := by unfold Callable; kernel_rfl
theorem ca_53 : Callable Tryz.prog 53 := by unfold Callable; kernel_rfl
theorem ca_59 : Callable Tryz.prog 59 := by unfold Callable; kernel_rfl
theorem ca_64 : Callable Tryz.prog 64 := by unfold Callable; kernel_rfl
theorem ca_66 : Callable Tryz.prog 66 := by unfold Callable; kernel_rfl
theorem ca_67 : Callable Tryz.prog 67 := by unfold Callable; kernel_rfl
end Go.Proofs.YtohmhlkdgfcaeaaGreatDoor
namespace Go.Proofs.YtohmhlkdgfcaeaaGreatDoor
open Go Go.RowKit
set_option maxRecDepth 4000
attribute [local irreducible] W Ops GS GSG
def s_115 (n : Nat) (v0 : Acid) (v1 : Int) (v2 : Span) : Option (Span) := some ((Span.mk (wr ((max 0 (wr (v2.low - v0.fall.high))) + v1)) (wr ((max 0 (wr (v2.high - v0.fall.low))) + v1))))
end Go.Proofs.YtohmhlkdgfcaeaaGreatDoor
namespace Go.Proofs.YtohmhlkdgfcaeaaGreatDoor
open Go Go.RowKit
set_option maxRecDepth 4000
attribute [local irreducible] W Ops GS GSG
def s_59_l1 (v0 : (List Int)) : Nat → Int → Int → Option (Int)
| 0, _, _ => none
| k1 + 1, v102, v103 => bif (decide (v103 < (v0.length : Int))) then ( (ix v0 v103).bind fun v105 => (s_59_l1 v0 k1) (max v102 (wr (v105 + 1))) (wr (v103 + 1)) ) else ( some (v102) )
def s_59 (n : Nat) (v0 : (List Int)) : Option (Int) := s_59_l1 v0 n 0 0
theorem c_59 (n : Nat) (v0 : (List Int)) {r : (Int)} (h : s_59 n v0 = some r) :
  Fun Tryz.prog 59 [.sl (v0.map eI)] (.ret (.val (.int .i64 r))) := by
 unfold s_59 at h
 refine enterW 19 Tryz.func59 q q q ?_
 intro w0 F0
 change W _ _ (Ev [(0, .pv (.sl (List.map eI v0)))]) _
 refine W.seq<|W.region<|va q q q q q<|on0<|Sq.n<|W.seq<|W.region<|va q q q q q<|on0<|Sq.n<|W.seq<|W.seq<|W.region<|va q q q q q<|on0<|Sq.n<|W.block<|W.loop (σ := Nat × Int × Int) (fun s => (Ev [(0, .pv (.sl (List.map eI v0))), (3, .pv (.i s.2.1)), (4, .pv (.i s.2.2))])) (fun s => s_59_l1 v0 s.1 s.2.1 s.2.2 = some r) (fun s => s.1) (n, 0, 0) h (has_mk ⟨q, q, q, trivial⟩ trivial trivial q) ?_
 rintro ⟨k1, v102, v103⟩ h
 change s_59_l1 v0 k1 v102 v103 = some r at h
 rcases k1 with _ | k1
 ·rw [s_59_l1] at h
  cases h
 ·rw [s_59_l1] at h
  change W _ _ (Ev [(0, .pv (.sl (List.map eI v0))), (3, .pv (.i v102)), (4, .pv (.i v103))]) _
  refine W.seq<|W.seq<|W.region<|vm q q q q q<|vm q q q q q<|ov (g_lenM (l := v0) (enc := eI) q ul_23 q q q) q<|ov (g_lss q q q q q) q<|on0<|Sq.n<|W.cond (b := (decide (v103 < (v0.length : Int)))) q (fun hc => ?_) (fun hc => ?_)
  ·have h := bif_t h hc
   refine W.skip<|Sq.n<|W.seq<|W.block<|W.region<|vm q q q q q<|vm q q q q q<|vm q q q q q ?_
   obtain ⟨v105, e105, h⟩ := bind_some h
   exact ov (g_idxI (l := v0) (enc := eI) e105 q q q q q el_23 q) q<|ov (g_loadR1 q q q q q ag_3) q<|ov (g_add q q q q q) q<|ov (g_max q q q q q) q<|va q q q q q<|on0<|Bl.n<|Sq.n<|W.region<|vm q q q q q<|ov (g_add q q q q q) q<|va q q q q q<|on0<|Sq.n<|⟨(k1, max v102 (wr (v105 + 1)), wr (v103 + 1)), h, Nat.lt_succ_self _, has_mk ⟨q, q, q, trivial⟩ trivial trivial q⟩
  ·have h := bif_f h hc
   refine W.exit<|Sq.e<|Sq.e<|Bl.e<|Sq.n<|W.seq<|W.region<|vm q q q q q<|va q q q q q<|on0<|Sq.n<|W.ret ?_
   obtain rfl := Option.some.inj h
   exact Fin.r q (.cons (.tmp _ _ q) .nil) q
def s_135_l5 (K1 : Int → (List (List Int)) → Option ((List (List Int)))) (v132 : Int) (v146 : (List (List Int))) : Nat → Int → (List (List Int)) → Option ((List (List Int)))
| 0, _, _ => none
| k5 + 1, v150, v151 => bif (decide (v150 < (v146.length : Int))) then ( (ix v146 v150).bind fun v155 => (app ([v132]) v155).bind fun v156 => (app v151 ([v156])).bind fun v157 => (s_135_l5 K1 v132 v146 k5) (wr (v150 + 1)) v157 ) else ( K1 (wr (v132 + 1)) v151 )
def s_135_l1 (n : Nat) (K_s : Int → Int → Int → Option ((List (List Int)))) (v1 : Int) (v2 : Int) : Nat → Int → (List (List Int)) → Option ((List (List Int)))
| 0, _, _ => none
| k1 + 1, v132, v133 => bif (decide (v132 < v1)) then ( (K_s (wr (v132 + 1)) v1 (wr (v2 - 1))).bind fun v146 => s_135_l5 (s_135_l1 n K_s v1 v2 k1) v132 v146 n 0 v133 ) else ( some (v133) )
def s_135 : Nat → Int → Int → Int → Option ((List (List Int)))
| 0, _, _, _ => none
| n + 1, v0, v1, v2 => bif (decide (v2 = 0)) then ( some ([[]]) ) else ( s_135_l1 n (s_135 n) v1 v2 n v0 [] )
def s_64_j13 (K1 : Int → Option (Bool)) (v106 : Int) (v116 : Bool) : Option (Bool) := bif v116 then ( some (false) ) else ( K1 (wr (v106 + 1)) )
def s_64_l1 (v0 : Drum) (v1 : (List Int)) : Nat → Int → Option (Bool)
| 0, _ => none
| k1 + 1, v106 => bif (decide (v106 < (v1.length : Int))) then ( (ix v1 v106).bind fun v112 => bif (decide (v112 < 0)) then ( s_64_j13 (s_64_l1 v0 v1 k1) v106 true ) else ( (ix v1 v106).bind fun v113 => bif (decide ((v0.batches.length : Int) ≤ v113)) then ( s_64_j13 (s_64_l1 v0 v1 k1) v106 true ) else ( bif (decide (0 < v106)) then ( (ix v1 v106).bind fun v114 =>
 (ix v1 (wr (v106 - 1))).bind fun v115 => s_64_j13 (s_64_l1 v0 v1 k1) v106 (decide (v114 ≤ v115)) ) else ( s_64_j13 (s_64_l1 v0 v1 k1) v106 false ) ) ) ) else ( some (true) )
def s_64 (n : Nat) (v0 : Drum) (v1 : (List Int)) : Option (Bool) := s_64_l1 v0 v1 n 0
theorem c_64 (n : Nat) (v0 : Drum) (v1 : (List Int)) {r : (Bool)} (h : s_64 n v0 v1 = some r) :
  Fun Tryz.prog 64 [.agg (cDrum v0), .sl (v1.map eI)] (.ret (.b r)) := by
 unfold s_64 at h
 refine enterW 43 Tryz.func64 q q q ?_
 intro w0 F0
 change W _ _ (Ev [(0, .pv (.agg (cDrum v0))), (1, .pv (.sl (List.map eI v1)))]) _
 refine W.seq<|W.region<|ob (g_box q q q q q) q q<|va q q q q q<|on0<|Sq.n<|W.seq<|W.seq<|W.region<|va q q q q q<|on0<|Sq.n<|W.block<|W.loop (σ := Nat × Int) (fun s => (⟨[(1, .pv (.sl (List.map eI v1))), (2, .box 2 0), (5, .pv (.i s.2))], [(2, 27, [.pv (.sl (List.map cAcid v0.acids)), .pv (.i v0.known), .pv (.i v0.hours), .pv (.sl (List.map eI v0.adds)), .pv (.sl (List.map cStrip v0.strips)), .pv (.sl (List.map cBatch v0.batches))])], []⟩ : Env)) (fun s => s_64_l1 v0 v1 s.1 s.2 = some r) (fun s => s.1) (n, 0) h (has_mk ⟨q, q, q, trivial⟩ ⟨q, trivial⟩ trivial q) ?_
 rintro ⟨k1, v106⟩ h
 change s_64_l1 v0 v1 k1 v106 = some r at h
 rcases k1 with _ | k1
 ·rw [s_64_l1] at h
  cases h
 ·rw [s_64_l1] at h
  change W _ _ (⟨[(1, .pv (.sl (List.map eI v1))), (2, .box 2 0), (5, .pv (.i v106))], [(2, 27, [.pv (.sl (List.map cAcid v0.acids)), .pv (.i v0.known), .pv (.i v0.hours), .pv (.sl (List.map eI v0.adds)), .pv (.sl (List.map cStrip v0.strips)), .pv (.sl (List.map cBatch v0.batches))])], []⟩ : Env) _
  refine W.seq<|W.seq<|W.region<|vm q q q q q<|vm q q q q q<|ov (g_lenM (l := v1) (enc := eI) q ul_23 q q q) q<|ov (g_lss q q q q q) q<|on0<|Sq.n<|W.cond (b := (decide (v106 < (v1.length : Int)))) q (fun hc => ?_) (fun hc => ?_)
  ·have h := bif_t h hc
   refine W.skip<|Sq.n<|W.seq<|W.block<|W.seqJ (σ := Bool) (fun s => (⟨[(1, .pv (.sl (List.map eI v1))), (2, .box 2 0), (5, .pv (.i v106)), (42, .pv (.b s))], [(2, 27, [.pv (.sl (List.map cAcid v0.acids)), .pv (.i v0.known), .pv (.i v0.hours), .pv (.sl (List.map eI v0.adds)), .pv (.sl (List.map cStrip v0.strips)), .pv (.sl (List.map cBatch v0.batches))])], []⟩ : Env)) (fun s => s_64_j13 (s_64_l1 v0 v1 k1) v106 s = some r) ?_ ?_
   ·obtain ⟨v112, e112, h⟩ := bind_some h
    rcases Bool.eq_false_or_eq_true ((decide (v112 < 0))) with hb10 | hb10
    ·have h := bif_t h hb10
     refine W.draw (m := 28) Checked.mixed (Pre.v (GSG.of q (g_move q q q q)) ((Pre.v (GSG.of q (g_move q q q q)) ((Pre.v (GSG.of q (g_idxI (l := v1) (enc := eI) e112 q q q q q el_23 q)) ((Pre.v (GSG.of q (g_loadR1 q q q q q ag_3)) ((Pre.v (GSG.of q (g_lss q q q q q)) ((Pre.v (GSG.as (GSG.of q (g_move q q q q)) (congrArg (fun b => TV.pv (PV.b b)) hb10)) ((Pre.v (GSG.off2 q q q q q q) ((Pre.v (GSG.off2 q q q q q q) ((Pre.v (GSG.off2 q q q q q q) ((Pre.v (GSG.off2 q q q q q q) ((Pre.v (GSG.off2 q q q q q q) ((Pre.v (GSG.off2 q q q q q q) ((Pre.v (GSG.off2 q q q q q q) ((Pre.v (GSG.off2 q q q q q q) ((Pre.v (GSG.of q (g_pickT q q q q q)) ((Pre.v (GSG.of q (g_move q q q q)) ((Pre.v (GSG.off2 q q q q q q) ((Pre.v (GSG.off2 q q q q q q) ((Pre.v (GSG.off2 q q q q q q) ((Pre.v (GSG.off2 q q q q q q) ((Pre.v (GSG.off2 q q q q q q) ((Pre.v (GSG.off2 q q q q q q) ((Pre.v (GSG.off2 q q q q q q) ((Pre.v (GSG.off2 q q q q q q) ((Pre.v (GSG.off2 q q q q q q) ((Pre.v (GSG.off2 q q q q q q) ((Pre.v (GSG.off2 q q q q q q) ((Pre.v (GSG.off2 q q q q q q) (Pre.nil _)))))))))))))))))))))))))))))))))))))))))))))))))))))))) (by kernel_rfl)<|o2 q q q q q q<|o2 q q q q q q<|vt q q q q q q<|on0<|Sq.n<|⟨true, h, has_mk ⟨q, q, q, q, trivial⟩ ⟨q, trivial⟩ trivial q⟩
    ·have h := bif_f h hb10
     obtain ⟨v113, e113, h⟩ := bind_some h
     rcases Bool.eq_false_or_eq_true ((decide ((v0.batches.length : Int) ≤ v113))) with hb11 | hb11
     ·have h := bif_t h hb11
      refine W.draw (m := 28) Checked.mixed (Pre.v (GSG.of q (g_move q q q q)) ((Pre.v (GSG.of q (g_move q q q q)) ((Pre.v (GSG.of q (g_idxI (l := v1) (enc := eI) e112 q q q q q el_23 q)) ((Pre.v (GSG.of q (g_loadR1 q q q q q ag_3)) ((Pre.v (GSG.of q (g_lss q q q q q)) ((Pre.v (GSG.as (GSG.of q (g_move q q q q)) (congrArg (fun b => TV.pv (PV.b b)) hb10)) ((Pre.v (GSG.on q q q (g_move q q q q)) ((Pre.v (GSG.on q q q (g_move q q q q)) ((Pre.v (GSG.on q q q (g_idxI (l := v1) (enc := eI) e113 q q q q q el_23 q)) ((Pre.v (GSG.on q q q (g_loadR1 q q q q q ag_3)) ((Pre.v (GSG.on q q q (g_fld q q q q fl_27_5)) ((Pre.v (GSG.on q q q (g_load1 q q q q q q ag_25)) ((Pre.v (GSG.on q q q (g_lenM (l := v0.batches) (enc := cBatch) q ul_25 q q q)) ((Pre.v (GSG.on q q q (g_geq q q q q q)) ((Pre.v (GSG.of q (g_pickF q q q q q)) ((Pre.v (GSG.as (GSG.of q (g_move q q q q)) (congrArg (fun b => TV.pv (PV.b b)) hb11)) ((Pre.v (GSG.off2 q q q q q q) ((Pre.v (GSG.off2 q q q q q q) ((Pre.v (GSG.off2 q q q q q q) ((Pre.v (GSG.off2 q q q q q q) ((Pre.v (GSG.off2 q q q q q q) ((Pre.v (GSG.off2 q q q q q q) ((Pre.v (GSG.off2 q q q q q q) ((Pre.v (GSG.off2 q q q q q q) ((Pre.v (GSG.off2 q q q q q q) ((Pre.v (GSG.off2 q q q q q q) ((Pre.v (GSG.off2 q q q q q q) ((Pre.v (GSG.off2 q q q q q q) (Pre.nil _)))))))))))))))))))))))))))))))))))))))))))))))))))))))) (by kernel_rfl)<|o2 q q q q q q<|o2 q q q q q q<|vt q q q q q q<|on0<|Sq.n<|⟨true, h, has_mk ⟨q, q, q, q, trivial⟩ ⟨q, trivial⟩ trivial q⟩
     ·have h := bif_f h hb11
      rcases Bool.eq_false_or_eq_true ((decide (0 < v106))) with hb12 | hb12
      ·have h := bif_t h hb12
       obtain ⟨v114, e114, h⟩ := bind_some h
       obtain ⟨v115, e115, h⟩ := bind_some h
       refine W.draw (m := 28) Checked.mixed (Pre.v (GSG.of q (g_move q q q q)) ((Pre.v (GSG.of q (g_move q q q q)) ((Pre.v (GSG.of q (g_idxI (l := v1) (enc := eI) e112 q q q q q el_23 q)) ((Pre.v (GSG.of q (g_loadR1 q q q q q ag_3)) ((Pre.v (GSG.of q (g_lss q q q q q)) ((Pre.v (GSG.as (GSG.of q (g_move q q q q)) (congrArg (fun b => TV.pv (PV.b b)) hb10)) ((Pre.v (GSG.on q q q (g_move q q q q)) ((Pre.v (GSG.on q q q (g_move q q q q)) ((Pre.v (GSG.on q q q (g_idxI (l := v1) (enc := eI) e113 q q q q q el_23 q)) ((Pre.v (GSG.on q q q (g_loadR1 q q q q q ag_3)) ((Pre.v (GSG.on q q q (g_fld q q q q fl_27_5)) ((Pre.v (GSG.on q q q (g_load1 q q q q q q ag_25)) ((Pre.v (GSG.on q q q (g_lenM (l := v0.batches) (enc := cBatch) q ul_25 q q q)) ((Pre.v (GSG.on q q q (g_geq q q q q q)) ((Pre.v (GSG.of q (g_pickF q q q q q)) ((Pre.v (GSG.as (GSG.of q (g_move q q q q)) (congrArg (fun b => TV.pv (PV.b b)) hb11)) ((Pre.v (GSG.on q q q (g_move q q q q)) ((Pre.v (GSG.on q q q (g_gtr q q q q q)) ((Pre.v (GSG.as (GSG.on q q q (g_move q q q q)) (congrArg (fun b => TV.pv (PV.b b)) hb12)) ((Pre.v (GSG.on q q q (g_move q q q q)) ((Pre.v (GSG.on q q q (g_move q q q q)) ((Pre.v (GSG.on q q q (g_idxI (l := v1) (enc := eI) e114 q q q q q el_23 q)) ((Pre.v (GSG.on q q q (g_loadR1 q q q q q ag_3)) ((Pre.v (GSG.on q q q (g_move q q q q)) ((Pre.v (GSG.on q q q (g_move q q q q)) ((Pre.v (GSG.on q q q (g_sub q q q q q)) ((Pre.v (GSG.on q q q (g_idxI (l := v1) (enc := eI) e115 q q q q q el_23 q)) ((Pre.v (GSG.on q q q (g_loadR1 q q q q q ag_3)) (Pre.nil _)))))))))))))))))))))))))))))))))))))))))))))))))))))))) (by kernel_rfl)<|on q q q<|ov (g_leq q q q q q) q<|on q q q<|vt q q q q q q<|vf q q q q q q<|on0<|Sq.n<|⟨(decide (v114 ≤ v115)), h, has_mk ⟨q, q, q, q, trivial⟩ ⟨q, trivial⟩ trivial q⟩
      ·have h := bif_f h hb12
       refine W.draw (m := 28) Checked.mixed (Pre.v (GSG.of q (g_move q q q q)) ((Pre.v (GSG.of q (g_move q q q q)) ((Pre.v (GSG.of q (g_idxI (l := v1) (enc := eI) e112 q q q q q el_23 q)) ((Pre.v (GSG.of q (g_loadR1 q q q q q ag_3)) ((Pre.v (GSG.of q (g_lss q q q q q)) ((Pre.v (GSG.as (GSG.of q (g_move q q q q)) (congrArg (fun b => TV.pv (PV.b b)) hb10)) ((Pre.v (GSG.on q q q (g_move q q q q)) ((Pre.v (GSG.on q q q (g_move q q q q)) ((Pre.v (GSG.on q q q (g_idxI (l := v1) (enc := eI) e113 q q q q q el_23 q)) ((Pre.v (GSG.on q q q (g_loadR1 q q q q q ag_3)) ((Pre.v (GSG.on q q q (g_fld q q q q fl_27_5)) ((Pre.v (GSG.on q q q (g_load1 q q q q q q ag_25)) ((Pre.v (GSG.on q q q (g_lenM (l := v0.batches) (enc := cBatch) q ul_25 q q q)) ((Pre.v (GSG.on q q q (g_geq q q q q q)) ((Pre.v (GSG.of q (g_pickF q q q q q)) ((Pre.v (GSG.as (GSG.of q (g_move q q q q)) (congrArg (fun b => TV.pv (PV.b b)) hb11)) ((Pre.v (GSG.on q q q (g_move q q q q)) ((Pre.v (GSG.on q q q (g_gtr q q q q q)) ((Pre.v (GSG.as (GSG.on q q q (g_move q q q q)) (congrArg (fun b => TV.pv (PV.b b)) hb12)) ((Pre.v (GSG.off2 q q q q q q) ((Pre.v (GSG.off2 q q q q q q) ((Pre.v (GSG.off2 q q q q q q) ((Pre.v (GSG.off2 q q q q q q) ((Pre.v (GSG.off2 q q q q q q) ((Pre.v (GSG.off2 q q q q q q) ((Pre.v (GSG.off2 q q q q q q) ((Pre.v (GSG.off2 q q q q q q) ((Pre.v (GSG.off2 q q q q q q) (Pre.nil _)))))))))))))))))))))))))))))))))))))))))))))))))))))))) (by kernel_rfl)<|o2 q q q q q q<|on q q q<|vf q q q q q q<|vf q q q q q q<|on0<|Sq.n<|⟨false, h, has_mk ⟨q, q, q, q, trivial⟩ ⟨q, trivial⟩ trivial q⟩
   ·rintro v116 h
    change s_64_j13 (s_64_l1 v0 v1 k1) v106 v116 = some r at h
    unfold s_64_j13 at h
    change W _ _ (⟨[(1, .pv (.sl (List.map eI v1))), (2, .box 2 0), (5, .pv (.i v106)), (42, .pv (.b v116))], [(2, 27, [.pv (.sl (List.map cAcid v0.acids)), .pv (.i v0.known), .pv (.i v0.hours), .pv (.sl (List.map eI v0.adds)), .pv (.sl (List.map cStrip v0.strips)), .pv (.sl (List.map cBatch v0.batches))])], []⟩ : Env) _
    refine W.cond (b := v116) q (fun hc => ?_) (fun hc => ?_)
    ·have h := bif_t h hc
     refine W.seq<|W.region<|va q q q q q<|on0<|Sq.n<|W.ret<|Bl.r<|Sq.r<|Sq.r<|Bl.r<|Sq.r ?_
     obtain rfl := Option.some.inj h
     exact Fin.r q (.cons (.tmp _ _ q) .nil) q
    ·have h := bif_f h hc
     exact W.skip<|Bl.n<|Sq.n<|W.region<|vm q q q q q<|ov (g_add q q q q q) q<|va q q q q q<|on0<|Sq.n<|⟨(k1, wr (v106 + 1)), h, Nat.lt_succ_self _, has_mk ⟨q, q, q, trivial⟩ ⟨q, trivial⟩ trivial q⟩
  ·have h := bif_f h hc
   refine W.exit<|Sq.e<|Sq.e<|Bl.e<|Sq.n<|W.seq<|W.region<|va q q q q q<|on0<|Sq.n<|W.ret ?_
   obtain rfl := Option.some.inj h
   exact Fin.r q (.cons (.tmp _ _ q) .nil) q
def s_66_j4 (K1 : Int → Option (Bool)) (v0 : (List Int)) (v1 : (List Int)) (v106 : Int) (v112 : Bool) : Option (Bool) := bif v112 then ( (ix v0 v106).bind fun v113 => (ix v1 v106).bind fun v114 => bif (!decide (v113 = v114)) then ( (ix v0 v106).bind fun v115 => (ix v1 v106).bind fun v116 => some ((decide (v115 < v116))) ) else ( K1 (wr (v106 + 1)) ) ) else (
 some ((decide ((v0.length : Int) < (v1.length : Int)))) )
def s_66_l1 (v0 : (List Int)) (v1 : (List Int)) : Nat → Int → Option (Bool)
| 0, _ => none
| k1 + 1, v106 => bif (decide (v106 < (v0.length : Int))) then ( s_66_j4 (s_66_l1 v0 v1 k1) v0 v1 v106 (decide (v106 < (v1.length : Int))) ) else ( s_66_j4 (s_66_l1 v0 v1 k1) v0 v1 v106 false )
def s_66 (n : Nat) (v0 : (List Int)) (v1 : (List Int)) : Option (Bool) := s_66_l1 v0 v1 n 0
theorem c_66 (n : Nat) (v0 : (List Int)) (v1 : (List Int)) {r : (Bool)} (h : s_66 n v0 v1 = some r) :
  Fun Tryz.prog 66 [.sl (v0.map eI), .sl (v1.map eI)] (.ret (.b r)) := by
 unfold s_66 at h
 refine enterW 41 Tryz.func66 q q q ?_
 intro w0 F0
 change W _ _ (Ev [(0, .pv (.sl (List.map eI v0))), (1, .pv (.sl (List.map eI v1)))]) _
 refine W.seq<|W.region<|va q q q q q<|on0<|Sq.n<|W.seq<|W.seq<|W.region<|va q q q q q<|on0<|Sq.n<|W.block<|W.loop (σ := Nat × Int) (fun s => (Ev [(0, .pv (.sl (List.map eI v0))), (1, .pv (.sl (List.map eI v1))), (5, .pv (.i s.2))])) (fun s => s_66_l1 v0 v1 s.1 s.2 = some r) (fun s => s.1) (n, 0) h (has_mk ⟨q, q, q, trivial⟩ trivial trivial q) ?_
 rintro ⟨k1, v106⟩ h
 change s_66_l1 v0 v1 k1 v106 = some r at h
 rcases k1 with _ | k1
 ·rw [s_66_l1] at h
  cases h
 ·rw [s_66_l1] at h
  change W _ _ (Ev [(0, .pv (.sl (List.map eI v0))), (1, .pv (.sl (List.map eI v1))), (5, .pv (.i v106))]) _
  refine W.seq<|W.seqJ (σ := Bool) (fun s => (Ev [(0, .pv (.sl (List.map eI v0))), (1, .pv (.sl (List.map eI v1))), (5, .pv (.i v106)), (15, .pv (.b s))])) (fun s => s_66_j4 (s_66_l1 v0 v1 k1) v0 v1 v106 s = some r) ?_ ?_
  ·refine W.region<|vm q q q q q<|vm q q q q q<|ov (g_lenM (l := v0) (enc := eI) q ul_23 q q q) q<|ov (g_lss q q q q q) q<|vm q q q q q<|Ops.split 10 q (fun hb => ?_) (fun hb => ?_)
   ·have h := bif_t h hb
    refine on q q q<|vm q q q q q<|on q q q<|vm q q q q q<|on q q q<|ov (g_lenM (l := v1) (enc := eI) q ul_23 q q q) q<|on q q q<|ov (g_lss q q q q q) q<|vt q q q q q q<|on0<|Sq.n<|⟨(decide (v106 < (v1.length : Int))), h, has_mk ⟨q, q, q, q, trivial⟩ trivial trivial q⟩
   ·have h := bif_f h hb
    refine o2 q q q q q q<|o2 q q q q q q<|o2 q q q q q q<|o2 q q q q q q<|vf q q q q q q<|on0<|Sq.n<|⟨false, h, has_mk ⟨q, q, q, q, trivial⟩ trivial trivial q⟩
  ·rintro v112 h
   change s_66_j4 (s_66_l1 v0 v1 k1) v0 v1 v106 v112 = some r at h
   unfold s_66_j4 at h
   change W _ _ (Ev [(0, .pv (.sl (List.map eI v0))), (1, .pv (.sl (List.map eI v1))), (5, .pv (.i v106)), (15, .pv (.b v112))]) _
   refine W.cond (b := v112) q (fun hc => ?_) (fun hc => ?_)
   ·have h := bif_t h hc
    refine W.skip<|Sq.n<|W.seq<|W.block<|W.seq ?_
    obtain ⟨v113, e113, h⟩ := bind_some h
    obtain ⟨v114, e114, h⟩ := bind_some h
    refine W.draw (m := 8) Checked.mixed (Pre.v (GSG.of q (g_move q q q q)) ((Pre.v (GSG.of q (g_move q q q q)) ((Pre.v (GSG.of q (g_idxI (l := v0) (enc := eI) e113 q q q q q el_23 q)) ((Pre.v (GSG.of q (g_loadR1 q q q q q ag_3)) ((Pre.v (GSG.of q (g_move q q q q)) ((Pre.v (GSG.of q (g_move q q q q)) ((Pre.v (GSG.of q (g_idxI (l := v1) (enc := eI) e114 q q q q q el_23 q)) ((Pre.v (GSG.of q (g_loadR1 q q q q q ag_3)) (Pre.nil _)))))))))))))))) (by kernel_rfl)<|ov (g_neq q q q q q) q<|on0<|Sq.n<|W.cond (b := (!decide (v113 = v114))) q (fun hc => ?_) (fun hc => ?_)
    ·have h := bif_t h hc
     refine W.seq ?_
     obtain ⟨v115, e115, h⟩ := bind_some h
     obtain ⟨v116, e116, h⟩ := bind_some h
     refine W.draw (m := 8) Checked.mixed (Pre.v (GSG.of q (g_move q q q q)) ((Pre.v (GSG.of q (g_move q q q q)) ((Pre.v (GSG.of q (g_idxI (l := v0) (enc := eI) e115 q q q q q el_23 q)) ((Pre.v (GSG.of q (g_loadR1 q q q q q ag_3)) ((Pre.v (GSG.of q (g_move q q q q)) ((Pre.v (GSG.of q (g_move q q q q)) ((Pre.v (GSG.of q (g_idxI (l := v1) (enc := eI) e116 q q q q q el_23 q)) ((Pre.v (GSG.of q (g_loadR1 q q q q q ag_3)) (Pre.nil _)))))))))))))))) (by kernel_rfl)<|ov (g_lss q q q q q) q<|va q q q q q<|on0<|Sq.n<|W.ret<|Bl.r<|Sq.r<|Sq.r<|Bl.r<|Sq.r ?_
     obtain rfl := Option.some.inj h
     exact Fin.r q (.cons (.tmp _ _ q) .nil) q
    ·have h := bif_f h hc
     exact W.skip<|Bl.n<|Sq.n<|W.region<|vm q q q q q<|ov (g_add q q q q q) q<|va q q q q q<|on0<|Sq.n<|⟨(k1, wr (v106 + 1)), h, Nat.lt_succ_self _, has_mk ⟨q, q, q, trivial⟩ trivial trivial q⟩
   ·have h := bif_f h hc
    refine W.exit<|Sq.e<|Sq.e<|Bl.e<|Sq.n<|W.seq<|W.region<|vm q q q q q<|ov (g_lenM (l := v0) (enc := eI) q ul_23 q q q) q<|vm q q q q q<|ov (g_lenM (l := v1) (enc := eI) q ul_23 q q q) q<|ov (g_lss q q q q q) q<|va q q q q q<|on0<|Sq.n<|W.ret ?_
    obtain rfl := Option.some.inj h
    exact Fin.r q (.cons (.tmp _ _ q) .nil) q
end Go.Proofs.YtohmhlkdgfcaeaaGreatDoor
namespace Go.Proofs.YtohmhlkdgfcaeaaGreatDoor
open Go Go.RowKit
set_option maxRecDepth 4000
attribute [local irreducible] W Ops GS GSG
def s_122 (n : Nat) (v0 : Int) (v1 : Drum) : Option (Bool) := (s_87 n v0 0 (wr ((v1.batches.length : Int) - 1))).bind fun v101 => some ((!v101))
theorem c_122 (n : Nat) (v0 : Int) (v1 : Drum) {r : (Bool)} (h : s_122 n v0 v1 = some r) :
  Fun Tryz.prog 122 [.val (.int .i64 v0), .ref (cDrum v1)] (.ret (.b r)) := by
 unfold s_122 at h
 refine enterW 11 Tryz.func122 q q q ?_
 intro w0 F0
 change W _ _ (Ev [(0, .pv (.i v0)), (1, .pv (.ref [.sl (List.map cAcid v1.acids), .val (.int .i64 v1.known), .val (.int .i64 v1.hours), .sl (List.map eI v1.adds), .sl (List.map cStrip v1.strips), .sl (List.map cBatch v1.batches)]))]) _
 refine W.seq<|W.region<|va q q q q q<|on0<|Sq.n<|W.seq<|W.region<|vm q q q q q<|ov (g_fldR q q q q fl_27_5 q) q<|ov (g_loadR1 q q q q q ag_25) q<|ov (g_lenM (l := v1.batches) (enc := cBatch) q ul_25 q q q) q<|ov (g_sub q q q q q) q ?_
 obtain ⟨v101, e101, h⟩ := bind_some h
 refine ov (g_call q q q ca_87 q (c_87 _ _ _ _ e101)) q<|ov (g_not q q q q) q<|va q q q q q<|on0<|Sq.n<|W.ret ?_
 obtain rfl := Option.some.inj h
 exact Fin.r q (.cons (.tmp _ _ q) .nil) q
def s_53_l1 (n : Nat) (v0 : Drum) (v1 : (List Int)) : Nat → Int → Option (Bool)
| 0, _ => none
| k1 + 1, v103 => bif (decide (v103 < (v1.length : Int))) then ( (ix v1 v103).bind fun v106 => (s_103 n v106 0 (wr ((v0.batches.length : Int) - 1))).bind fun v107 => bif (!v107) then ( some (false) ) else ( (s_53_l1 n v0 v1 k1) (wr (v103 + 1)) ) ) else ( some ((decide ((v1.length : Int) = (v0.batches.length : Int)))) )
def s_53 (n : Nat) (v0 : Drum) (v1 : (List Int)) : Option (Bool) := s_53_l1 n v0 v1 (n + v1.length) 0
theorem c_53 (n : Nat) (v0 : Drum) (v1 : (List Int)) {r : (Bool)} (h : s_53 n v0 v1 = some r) :
  Fun Tryz.prog 53 [.agg (cDrum v0), .sl (v1.map eI)] (.ret (.b r)) := by
 unfold s_53 at h
 refine enterW 28 Tryz.func53 q q q ?_
 intro w0 F0
 change W _ _ (Ev [(0, .pv (.agg (cDrum v0))), (1, .pv (.sl (List.map eI v1)))]) _
 refine W.seq<|W.region<|ob (g_box q q q q q) q q<|va q q q q q<|on0<|Sq.n<|W.seq<|W.seq<|W.region<|va q q q q q<|on0<|Sq.n<|W.block<|W.loop (σ := Nat × Int) (fun s => (⟨[(1, .pv (.sl (List.map eI v1))), (2, .box 2 0), (5, .pv (.i s.2))], [(2, 27, [.pv (.sl (List.map cAcid v0.acids)), .pv (.i v0.known), .pv (.i v0.hours), .pv (.sl (List.map eI v0.adds)), .pv (.sl (List.map cStrip v0.strips)), .pv (.sl (List.map cBatch v0.batches))])], []⟩ : Env)) (fun s => s_53_l1 n v0 v1 s.1 s.2 = some r) (fun s => s.1) (n + v1.length, 0) h (has_mk ⟨q, q, q, trivial⟩ ⟨q, trivial⟩ trivial q) ?_
 rintro ⟨k1, v103⟩ h
 change s_53_l1 n v0 v1 k1 v103 = some r at h
 rcases k1 with _ | k1
 ·rw [s_53_l1] at h
  cases h
 ·rw [s_53_l1] at h
  change W _ _ (⟨[(1, .pv (.sl (List.map eI v1))), (2, .box 2 0), (5, .pv (.i v103))], [(2, 27, [.pv (.sl (List.map cAcid v0.acids)), .pv (.i v0.known), .pv (.i v0.hours), .pv (.sl (List.map eI v0.adds)), .pv (.sl (List.map cStrip v0.strips)), .pv (.sl (List.map cBatch v0.batches))])], []⟩ : Env) _
  refine W.seq<|W.seq<|W.region<|vm q q q q q<|vm q q q q q<|ov (g_lenM (l := v1) (enc := eI) q ul_23 q q q) q<|ov (g_lss q q q q q) q<|on0<|Sq.n<|W.cond (b := (decide (v103 < (v1.length : Int)))) q (fun hc => ?_) (fun hc => ?_)
  ·have h := bif_t h hc
   refine W.skip<|Sq.n<|W.seq<|W.block<|W.seq ?_
   obtain ⟨v106, e106, h⟩ := bind_some h
   refine W.draw (m := 8) Checked.mixed (Pre.v (GSG.of q (g_move q q q q)) ((Pre.v (GSG.of q (g_move q q q q)) ((Pre.v (GSG.of q (g_idxI (l := v1) (enc := eI) e106 q q q q q el_23 q)) ((Pre.v (GSG.of q (g_loadR1 q q q q q ag_3)) ((Pre.v (GSG.of q (g_fld q q q q fl_27_5)) ((Pre.v (GSG.of q (g_load1 q q q q q q ag_25)) ((Pre.v (GSG.of q (g_lenM (l := v0.batches) (enc := cBatch) q ul_25 q q q)) ((Pre.v (GSG.of q (g_sub q q q q q)) (Pre.nil _)))))))))))))))) (by kernel_rfl) ?_
   obtain ⟨v107, e107, h⟩ := bind_some h
   refine ov (g_call q q q ca_103 q (c_103 _ _ _ _ e107)) q<|ov (g_not q q q q) q<|on0<|Sq.n<|W.cond (b := (!v107)) q (fun hc => ?_) (fun hc => ?_)
   ·have h := bif_t h hc
    refine W.seq<|W.region<|va q q q q q<|on0<|Sq.n<|W.ret<|Bl.r<|Sq.r<|Sq.r<|Bl.r<|Sq.r ?_
    obtain rfl := Option.some.inj h
    exact Fin.r q (.cons (.tmp _ _ q) .nil) q
   ·have h := bif_f h hc
    exact W.skip<|Bl.n<|Sq.n<|W.region<|vm q q q q q<|ov (g_add q q q q q) q<|va q q q q q<|on0<|Sq.n<|⟨(k1, wr (v103 + 1)), h, Nat.lt_succ_self _, has_mk ⟨q, q, q, trivial⟩ ⟨q, trivial⟩ trivial q⟩
  ·have h := bif_f h hc
   refine W.exit<|Sq.e<|Sq.e<|Bl.e<|Sq.n<|W.seq<|W.region<|vm q q q q q<|ov (g_lenM (l := v1) (enc := eI) q ul_23 q q q) q<|ov (g_fld q q q q fl_27_5) q<|ov (g_load1 q q q q q q ag_25) q<|ov (g_lenM (l := v0.batches) (enc := cBatch) q ul_25 q q q) q<|ov (g_eql q q q q q) q<|va q q q q q<|on0<|Sq.n<|W.ret ?_
   obtain rfl := Option.some.inj h
   exact Fin.r q (.cons (.tmp _ _ q) .nil) q
end Go.Proofs.YtohmhlkdgfcaeaaGreatDoor
namespace Go.Proofs.YtohmhlkdgfcaeaaGreatDoor
open Go Go.RowKit
set_option maxRecDepth 4000
attribute [local irreducible] W Ops GS GSG
def s_46 (n : Nat) (v0 : Drum) : Option (Span × Int) := (s_84 n v0 true).bind fun v101 => bif (!decide (v101.2 = 0)) then ( some (((Span.mk 0 0), v101.2)) ) else ( (s_98 n v0 v101.1).bind fun v102 => (s_100 n v102).bind fun v103 => (s_99 n v102 v103).bind fun v104 => bif (!v104) then ( some (((Span.mk 0 0), 5)) ) else ( (s_100 n v102).bind fun v105 => (s_102 n v102 v105).bind fun v106 =>
 some ((v106, 0)) ) )
theorem c_46 (n : Nat) (v0 : Drum) {r : (Span × Int)} (h : s_46 n v0 = some r) :
  Fun Tryz.prog 46 [.agg (cDrum v0)] (.ret (.tup [.agg (cSpan r.1), .val (.int .i64 r.2)])) := by
 unfold s_46 at h
 refine enterW 29 Tryz.func46 q q q ?_
 intro w0 F0
 change W _ _ (Ev [(0, .pv (.agg (cDrum v0)))]) _
 refine W.seq<|W.region<|ob (g_box q q q q q) q q<|ob (g_alloc q q q zr_57) q q<|va q q q q q<|on0<|Sq.n<|W.seq<|W.region<|ov (g_loadA q q q q q ag_27 sz_27 q q) q ?_
 obtain ⟨v101, e101, h⟩ := bind_some h
 refine ov (g_call q q q ca_84 q (c_84 _ _ _ e101)) q<|vm q q q q q<|ov (g_extract q q q q q) q<|ov (g_extract q q q q q) q<|va q q q q q<|va q q q q q<|on0<|Sq.n<|W.seq<|W.seq<|W.region<|vm q q q q q<|ov (g_neq q q q q q) q<|on0<|Sq.n<|W.cond (b := (!decide (v101.2 = 0))) q (fun hc => ?_) (fun hc => ?_)
 ·have h := bif_t h hc
  refine W.seq<|W.region<|ov (g_build (cs := (cSpan (Span.mk 0 0))) q q q zr_57 st_57 q q) q<|vm q q q q q<|Ops.step q (s_storeB q q q q q q sz_57 q q)<|va q q q q q<|on0<|Sq.n<|W.ret<|Sq.r ?_
  obtain rfl := Option.some.inj h
  exact Fin.r q (.cons (.agg _ _ _ _ (cSpan (Span.mk 0 0)) q q ag_57 sz_57) (.cons (.tmp _ _ q) .nil)) q
 ·have h := bif_f h hc
  refine W.skip<|Sq.n<|W.seq<|W.region<|ov (g_loadA q q q q q ag_27 sz_27 q q) q<|vm q q q q q ?_
  obtain ⟨v102, e102, h⟩ := bind_some h
  refine ov (g_call q q q ca_98 q (c_98 _ _ _ e102)) q<|ob (g_alloc q q q zr_129) q q<|Ops.step q (s_storeB q q q q q q sz_129 q q)<|on0<|Sq.n<|W.seq<|W.seq ?_
  obtain ⟨v103, e103, h⟩ := bind_some h
  refine W.draw (m := 3) Checked.mixed (Pre.v (GSG.of q (g_loadA q q q q q ag_129 sz_129 q q)) ((Pre.v (GSG.of q (g_loadA q q q q q ag_129 sz_129 q q)) ((Pre.v (GSG.of q (g_call q q q ca_100 q (c_100 _ _ e103))) (Pre.nil _)))))) (by kernel_rfl) ?_
  obtain ⟨v104, e104, h⟩ := bind_some h
  refine ov (g_call q q q ca_99 q (c_99 _ _ _ e104)) q<|ov (g_not q q q q) q<|on0<|Sq.n<|W.cond (b := (!v104)) q (fun hc => ?_) (fun hc => ?_)
  ·have h := bif_t h hc
   refine W.seq<|W.region<|ov (g_build (cs := (cSpan (Span.mk 0 0))) q q q zr_57 st_57 q q) q<|Ops.step q (s_storeB q q q q q q sz_57 q q)<|va q q q q q<|on0<|Sq.n<|W.ret<|Sq.r ?_
   obtain rfl := Option.some.inj h
   exact Fin.r q (.cons (.agg _ _ _ _ (cSpan (Span.mk 0 0)) q q ag_57 sz_57) (.cons (.tmp _ _ q) .nil)) q
  ·have h := bif_f h hc
   refine W.skip<|Sq.n<|W.seq ?_
   obtain ⟨v105, e105, h⟩ := bind_some h
   refine W.draw (m := 3) Checked.mixed (Pre.v (GSG.of q (g_loadA q q q q q ag_129 sz_129 q q)) ((Pre.v (GSG.of q (g_loadA q q q q q ag_129 sz_129 q q)) ((Pre.v (GSG.of q (g_call q q q ca_100 q (c_100 _ _ e105))) (Pre.nil _)))))) (by kernel_rfl) ?_
   obtain ⟨v106, e106, h⟩ := bind_some h
   refine ov (g_call q q q ca_102 q (c_102 _ _ _ e106)) q<|Ops.step q (s_storeB q q q q q q sz_57 q q)<|va q q q q q<|on0<|Sq.n<|W.ret ?_
   obtain rfl := Option.some.inj h
   exact Fin.r q (.cons (.agg _ _ _ _ (cSpan v106) q q ag_57 sz_57) (.cons (.tmp _ _ q) .nil)) q
def s_50_j3 (n : Nat) (v0 : Drum) (v1 : (List Int)) (v104 : (List Filled)) (v105 : Int) : Option (Bool × Int) := bif (!decide (v105 = 0)) then ( some ((false, v105)) ) else ( (s_98 n v0 v104).bind fun v106 => (s_123 n v106 v1).bind fun v107 => some ((v107, 0)) )
def s_50 (n : Nat) (v0 : Drum) (v1 : (List Int)) : Option (Bool × Int) := bif (decide ((v1.length : Int) = (v0.batches.length : Int))) then ( (s_121 n v1 (fun z0 => s_122 n z0 v0)).bind fun v101 => (s_84 n v0 (!v101)).bind fun v102 => s_50_j3 n v0 v1 v102.1 v102.2 ) else ( (s_84 n v0 false).bind fun v103 => s_50_j3 n v0 v1 v103.1 v103.2 )
theorem c_50 (n : Nat) (v0 : Drum) (v1 : (List Int)) {r : (Bool × Int)} (h : s_50 n v0 v1 = some r) :
  Fun Tryz.prog 50 [.agg (cDrum v0), .sl (v1.map eI)] (.ret (.tup [.b r.1, .val (.int .i64 r.2)])) := by
 unfold s_50 at h
 refine enterW 33 Tryz.func50 q q q ?_
 intro w0 F0
 change W _ _ (Ev [(0, .pv (.agg (cDrum v0))), (1, .pv (.sl (List.map eI v1)))]) _
 refine W.seq<|W.region<|ob (g_box q q q q q) q q<|va q q q q q<|va q q q q q<|on0<|Sq.n<|W.seqJ (σ := (List Filled) × Int) (fun s => (Ev [(1, .pv (.sl (List.map eI v1))), (2, .pv (.ref [.sl (List.map cAcid v0.acids), .val (.int .i64 v0.known), .val (.int .i64 v0.hours), .sl (List.map eI v0.adds), .sl (List.map cStrip v0.strips), .sl (List.map cBatch v0.batches)])), (6, .pv (.sl (List.map cFilled s.1))), (7, .pv (.i s.2))])) (fun s => s_50_j3 n v0 v1 s.1 s.2 = some r) ?_ ?_
 ·refine W.conv (Conv.freeze (k := 2) (cs := [.sl (List.map cAcid v0.acids), .val (.int .i64 v0.known), .val (.int .i64 v0.hours), .sl (List.map eI v0.adds), .sl (List.map cStrip v0.strips), .sl (List.map cBatch v0.batches)]) q) ?_
  rcases Bool.eq_false_or_eq_true ((decide ((v1.length : Int) = (v0.batches.length : Int)))) with hb2 | hb2
  ·have h := bif_t h hb2
   obtain ⟨v101, e101, h⟩ := bind_some h
   obtain ⟨v102, e102, h⟩ := bind_some h
   refine W.draw (m := 18) Checked.mixed (Pre.v (GSG.of q (g_loadRA q q q q ag_27 sz_27 q q)) ((Pre.v (GSG.of q (g_move q q q q)) ((Pre.v (GSG.of q (g_lenM (l := v1) (enc := eI) q ul_23 q q q)) ((Pre.v (GSG.of q (g_fldR q q q q fl_27_5 q)) ((Pre.v (GSG.of q (g_loadR1 q q q q q ag_25)) ((Pre.v (GSG.of q (g_lenM (l := v0.batches) (enc := cBatch) q ul_25 q q q)) ((Pre.v (GSG.of q (g_eql q q q q q)) ((Pre.v (GSG.as (GSG.of q (g_move q q q q)) (congrArg (fun b => TV.pv (PV.b b)) hb2)) ((Pre.v (GSG.on q q q (g_move q q q q)) ((Pre.v (GSG.on q q q (g_makeFunc q q q q q)) ((Pre.v (GSG.on q q q (g_call q q q ca_121 q (c_121 _ _ _ ca_122 (fun _ y e => c_122 _ _ _ e) e101))) ((Pre.v (GSG.on q q q (g_not q q q q)) ((Pre.v (GSG.of q (g_pickT q q q q q)) ((Pre.v (GSG.of q (g_call q q q ca_84 q (c_84 _ _ _ e102))) ((Pre.v (GSG.of q (g_move q q q q)) ((Pre.v (GSG.of q (g_extract q q q q q)) ((Pre.v (GSG.of q (g_extract q q q q q)) ((Pre.v (GSG.of q (g_assign q q q q)) (Pre.nil _)))))))))))))))))))))))))))))))))))) (by kernel_rfl)<|va q q q q q<|on0<|Sq.n<|⟨(v102.1, v102.2), h, has_mk ⟨q, q, q, q, trivial⟩ trivial trivial q⟩
  ·have h := bif_f h hb2
   obtain ⟨v103, e103, h⟩ := bind_some h
   refine W.draw (m := 18) Checked.mixed (Pre.v (GSG.of q (g_loadRA q q q q ag_27 sz_27 q q)) ((Pre.v (GSG.of q (g_move q q q q)) ((Pre.v (GSG.of q (g_lenM (l := v1) (enc := eI) q ul_23 q q q)) ((Pre.v (GSG.of q (g_fldR q q q q fl_27_5 q)) ((Pre.v (GSG.of q (g_loadR1 q q q q q ag_25)) ((Pre.v (GSG.of q (g_lenM (l := v0.batches) (enc := cBatch) q ul_25 q q q)) ((Pre.v (GSG.of q (g_eql q q q q q)) ((Pre.v (GSG.as (GSG.of q (g_move q q q q)) (congrArg (fun b => TV.pv (PV.b b)) hb2)) ((Pre.v (GSG.off2 q q q q q q) ((Pre.v (GSG.off2 q q q q q q) ((Pre.v (GSG.off2 q q q q q q) ((Pre.v (GSG.off2 q q q q q q) ((Pre.v (GSG.of q (g_pickF q q q q q)) ((Pre.v (GSG.of q (g_call q q q ca_84 q (c_84 _ _ _ e103))) ((Pre.v (GSG.of q (g_move q q q q)) ((Pre.v (GSG.of q (g_extract q q q q q)) ((Pre.v (GSG.of q (g_extract q q q q q)) ((Pre.v (GSG.of q (g_assign q q q q)) (Pre.nil _)))))))))))))))))))))))))))))))))))) (by kernel_rfl)<|va q q q q q<|on0<|Sq.n<|⟨(v103.1, v103.2), h, has_mk ⟨q, q, q, q, trivial⟩ trivial trivial q⟩
 ·rintro ⟨v104, v105⟩ h
  change s_50_j3 n v0 v1 v104 v105 = some r at h
  unfold s_50_j3 at h
  change W _ _ (Ev [(1, .pv (.sl (List.map eI v1))), (2, .pv (.ref [.sl (List.map cAcid v0.acids), .val (.int .i64 v0.known), .val (.int .i64 v0.hours), .sl (List.map eI v0.adds), .sl (List.map cStrip v0.strips), .sl (List.map cBatch v0.batches)])), (6, .pv (.sl (List.map cFilled v104))), (7, .pv (.i v105))]) _
  refine W.seq<|W.seq<|W.region<|vm q q q q q<|ov (g_neq q q q q q) q<|on0<|Sq.n<|W.cond (b := (!decide (v105 = 0))) q (fun hc => ?_) (fun hc => ?_)
  ·have h := bif_t h hc
   refine W.seq<|W.region<|vm q q q q q<|va q q q q q<|va q q q q q<|on0<|Sq.n<|W.ret<|Sq.r ?_
   obtain rfl := Option.some.inj h
   exact Fin.r q (.cons (.tmp _ _ q) (.cons (.tmp _ _ q) .nil)) q
  ·have h := bif_f h hc
   refine W.skip<|Sq.n<|W.seq<|W.region<|ov (g_loadRA q q q q ag_27 sz_27 q q) q<|vm q q q q q ?_
   obtain ⟨v106, e106, h⟩ := bind_some h
   refine ov (g_call q q q ca_98 q (c_98 _ _ _ e106)) q<|vm q q q q q ?_
   obtain ⟨v107, e107, h⟩ := bind_some h
   refine ov (g_call q q q ca_123 q (c_123 _ _ _ e107)) q<|va q q q q q<|va q q q q q<|on0<|Sq.n<|W.ret ?_
   obtain rfl := Option.some.inj h
   exact Fin.r q (.cons (.tmp _ _ q) (.cons (.tmp _ _ q) .nil)) q
end Go.Proofs.YtohmhlkdgfcaeaaGreatDoor
namespace Go.Proofs.YtohmhlkdgfcaeaaGreatDoor
open Go Go.RowKit
set_option maxRecDepth 4000
attribute [local irreducible] W Ops GS GSG
def s_67_l4 (n : Nat) (K1 : Int → Option (Bool)) (v0 : Drum) (v1 : (List Int)) (v101 : Int) : Nat → Int → Option (Bool)
| 0, _ => none
| k4 + 1, v123 => bif (decide (v123 < v101)) then ( (ix v1 v123).bind fun v129 => (ix v0.batches v129).bind fun v130 => (ix v1 v101).bind fun v131 => (ix v0.batches v131).bind fun v132 => (s_46 n (Drum.mk v0.acids v0.known v0.hours v0.adds v0.strips ([v130, v132]))).bind fun v133 => bif (decide (v133.2 = 0)) then ( some (false) ) else ( (s_67_l4 n K1 v0 v1 v101 k4) (wr (v123 + 1)) ) ) else (
 K1 (wr (v101 + 1)) )
def s_67_l1 (n : Nat) (v0 : Drum) (v1 : (List Int)) : Nat → Int → Option (Bool)
| 0, _ => none
| k1 + 1, v101 => bif (decide (v101 < (v1.length : Int))) then ( s_67_l4 n (s_67_l1 n v0 v1 k1) v0 v1 v101 n 0 ) else ( some (true) )
def s_67 (n : Nat) (v0 : Drum) (v1 : (List Int)) : Option (Bool) := s_67_l1 n v0 v1 n 0
theorem c_67 (n : Nat) (v0 : Drum) (v1 : (List Int)) {r : (Bool)} (h : s_67 n v0 v1 = some r) :
  Fun Tryz.prog 67 [.agg (cDrum v0), .sl (v1.map eI)] (.ret (.b r)) := by
 unfold s_67 at h
 refine enterW 47 Tryz.func67 q q q ?_
 intro w0 F0
 change W _ _ (Ev [(0, .pv (.agg (cDrum v0))), (1, .pv (.sl (List.map eI v1)))]) _
 refine W.seq<|W.region<|ob (g_box q q q q q) q q<|va q q q q q<|on0<|Sq.n<|W.seq<|W.seq<|W.region<|va q q q q q<|on0<|Sq.n<|W.block<|W.loop (σ := Nat × Int) (fun s => (⟨[(1, .pv (.sl (List.map eI v1))), (2, .box 2 0), (5, .pv (.i s.2))], [(2, 27, [.pv (.sl (List.map cAcid v0.acids)), .pv (.i v0.known), .pv (.i v0.hours), .pv (.sl (List.map eI v0.adds)), .pv (.sl (List.map cStrip v0.strips)), .pv (.sl (List.map cBatch v0.batches))])], []⟩ : Env)) (fun s => s_67_l1 n v0 v1 s.1 s.2 = some r) (fun s => s.1) (n, 0) h (has_mk ⟨q, q, q, trivial⟩ ⟨q, trivial⟩ trivial q) ?_
 rintro ⟨k1, v101⟩ h
 change s_67_l1 n v0 v1 k1 v101 = some r at h
 rcases k1 with _ | k1
 ·rw [s_67_l1] at h
  cases h
 ·rw [s_67_l1] at h
  change W _ _ (⟨[(1, .pv (.sl (List.map eI v1))), (2, .box 2 0), (5, .pv (.i v101))], [(2, 27, [.pv (.sl (List.map cAcid v0.acids)), .pv (.i v0.known), .pv (.i v0.hours), .pv (.sl (List.map eI v0.adds)), .pv (.sl (List.map cStrip v0.strips)), .pv (.sl (List.map cBatch v0.batches))])], []⟩ : Env) _
  refine W.seq<|W.seq<|W.region<|vm q q q q q<|vm q q q q q<|ov (g_lenM (l := v1) (enc := eI) q ul_23 q q q) q<|ov (g_lss q q q q q) q<|on0<|Sq.n<|W.cond (b := (decide (v101 < (v1.length : Int)))) q (fun hc => ?_) (fun hc => ?_)
  ·have h := bif_t h hc
   refine W.skip<|Sq.n<|W.seq<|W.block<|W.seq<|W.region<|va q q q q q<|on0<|Sq.n<|W.block<|W.loop (σ := Nat × Int) (fun s => (⟨[(1, .pv (.sl (List.map eI v1))), (2, .box 2 0), (5, .pv (.i v101)), (6, .pv (.i s.2))], [(2, 27, [.pv (.sl (List.map cAcid v0.acids)), .pv (.i v0.known), .pv (.i v0.hours), .pv (.sl (List.map eI v0.adds)), .pv (.sl (List.map cStrip v0.strips)), .pv (.sl (List.map cBatch v0.batches))])], []⟩ : Env)) (fun s => s_67_l4 n (s_67_l1 n v0 v1 k1) v0 v1 v101 s.1 s.2 = some r) (fun s => s.1) (n, 0) h (has_mk ⟨q, q, q, q, trivial⟩ ⟨q, trivial⟩ trivial q) ?_
   rintro ⟨k4, v123⟩ h
   change s_67_l4 n (s_67_l1 n v0 v1 k1) v0 v1 v101 k4 v123 = some r at h
   rcases k4 with _ | k4
   ·rw [s_67_l4] at h
    cases h
   ·rw [s_67_l4] at h
    change W _ _ (⟨[(1, .pv (.sl (List.map eI v1))), (2, .box 2 0), (5, .pv (.i v101)), (6, .pv (.i v123))], [(2, 27, [.pv (.sl (List.map cAcid v0.acids)), .pv (.i v0.known), .pv (.i v0.hours), .pv (.sl (List.map eI v0.adds)), .pv (.sl (List.map cStrip v0.strips)), .pv (.sl (List.map cBatch v0.batches))])], []⟩ : Env) _
    refine W.seq<|W.seq<|W.region<|vm q q q q q<|vm q q q q q<|ov (g_lss q q q q q) q<|on0<|Sq.n<|W.cond (b := (decide (v123 < v101))) q (fun hc => ?_) (fun hc => ?_)
    ·have h := bif_t h hc
     refine W.skip<|Sq.n<|W.seq<|W.block<|W.seq<|W.region<|ov (g_loadA q q q q q ag_27 sz_27 q q) q<|ob (g_alloc q q q zr_27) q q<|Ops.step q (s_storeB q q q q q q sz_27 q q)<|on0<|Sq.n<|W.seq ?_
     obtain ⟨v129, e129, h⟩ := bind_some h
     obtain ⟨v130, e130, h⟩ := bind_some h
     obtain ⟨v131, e131, h⟩ := bind_some h
     obtain ⟨v132, e132, h⟩ := bind_some h
     refine W.draw (m := 16) Checked.mixed (Pre.v (GSG.of q (g_fld q q q q fl_27_5)) ((Pre.v (GSG.of q (g_load1 q q q q q q ag_25)) ((Pre.v (GSG.of q (g_move q q q q)) ((Pre.v (GSG.of q (g_move q q q q)) ((Pre.v (GSG.of q (g_idxI (l := v1) (enc := eI) e129 q q q q q el_23 q)) ((Pre.v (GSG.of q (g_loadR1 q q q q q ag_3)) ((Pre.v (GSG.of q (g_idxI (l := v0.batches) (enc := cBatch) e130 q q q q q el_25 q)) ((Pre.v (GSG.of q (g_loadRA q q q q ag_67 sz_67 q q)) ((Pre.v (GSG.of q (g_fld q q q q fl_27_5)) ((Pre.v (GSG.of q (g_load1 q q q q q q ag_25)) ((Pre.v (GSG.of q (g_move q q q q)) ((Pre.v (GSG.of q (g_move q q q q)) ((Pre.v (GSG.of q (g_idxI (l := v1) (enc := eI) e131 q q q q q el_23 q)) ((Pre.v (GSG.of q (g_loadR1 q q q q q ag_3)) ((Pre.v (GSG.of q (g_idxI (l := v0.batches) (enc := cBatch) e132 q q q q q el_25 q)) ((Pre.v (GSG.of q (g_loadRA q q q q ag_67 sz_67 q q)) (Pre.nil _)))))))))))))))))))))))))))))))) (by kernel_rfl)<|Ops.r (g_buildSlice (cs := [.val (.int .i64 v130.rough), .val (.int .i64 v130.goal), .val (.int .i64 v130.thick), .val (.int .i64 v130.least), .val (.int .i64 v130.polish), .val (.int .i64 v130.eat), .val (.int .i64 v132.rough), .val (.int .i64 v132.goal), .val (.int .i64 v132.thick), .val (.int .i64 v132.least), .val (.int .i64 v132.polish), .val (.int .i64 v132.eat)]) (es := List.map cBatch [v130, v132]) q q q el_25 ⟨_, zr_67⟩ q q q q q q) q q<|ov (g_fld q q q q fl_27_5) q<|Ops.step q (s_storeB q q q q q q sz_25 q q)<|on0<|Sq.n<|W.seq<|W.region<|Ops.share (k := 38) q<|ov (g_loadA q q q q q ag_27 sz_27 q q) q ?_
     obtain ⟨v133, e133, h⟩ := bind_some h
     refine ov (g_call q q q ca_46 q (c_46 _ _ e133)) q<|vm q q q q q<|ov (g_extract q q q q q) q<|ov (g_extract q q q q q) q<|ob (g_alloc q q q zr_57) q q<|Ops.step q (s_storeB q q q q q q sz_57 q q)<|va q q q q q<|on0<|Sq.n<|W.seq<|W.region<|vm q q q q q<|ov (g_eql q q q q q) q<|on0<|Sq.n<|W.cond (b := (decide (v133.2 = 0))) q (fun hc => ?_) (fun hc => ?_)
     ·have h := bif_t h hc
      refine W.seq<|W.region<|va q q q q q<|on0<|Sq.n<|W.ret<|Bl.r<|Sq.r<|Sq.r<|Bl.r<|Bl.r<|Sq.r<|Sq.r<|Bl.r<|Sq.r ?_
      obtain rfl := Option.some.inj h
      exact Fin.r q (.cons (.tmp _ _ q) .nil) q
     ·have h := bif_f h hc
      exact W.skip<|Bl.n<|Sq.n<|W.region<|vm q q q q q<|ov (g_add q q q q q) q<|va q q q q q<|on0<|Sq.n<|⟨(k4, wr (v123 + 1)), h, Nat.lt_succ_self _, has_mk ⟨q, q, q, q, trivial⟩ ⟨q, trivial⟩ trivial q⟩
    ·have h := bif_f h hc
     exact W.exit<|Sq.e<|Sq.e<|Bl.e<|Bl.n<|Sq.n<|W.region<|vm q q q q q<|ov (g_add q q q q q) q<|va q q q q q<|on0<|Sq.n<|⟨(k1, wr (v101 + 1)), h, Nat.lt_succ_self _, has_mk ⟨q, q, q, trivial⟩ ⟨q, trivial⟩ trivial q⟩
  ·have h := bif_f h hc
   refine W.exit<|Sq.e<|Sq.e<|Bl.e<|Sq.n<|W.seq<|W.region<|va q q q q q<|on0<|Sq.n<|W.ret ?_
   obtain rfl := Option.some.inj h
   exact Fin.r q (.cons (.tmp _ _ q) .nil) q
end Go.Proofs.YtohmhlkdgfcaeaaGreatDoor
namespace Go.Proofs.YtohmhlkdgfcaeaaGreatDoor
open Go Go.RowKit Go.ChangeShapes Go.WideShapes Go.Deep
set_option maxRecDepth 100000
theorem parT : ∀ t ∈ [3, 9, 23, 27, 54, 92], ParT t := by
 have h : ([3, 9, 23, 27, 54, 92].all fun t => Tryz.prog.readableRec t && decide (t < Tryz.prog.types.size)) = true := by kernel_rfl
 intro t ht
 have := List.all_eq_true.1 h t ht
 rw [Bool.and_eq_true, decide_eq_true_eq] at this
 exact this
end Go.Proofs.YtohmhlkdgfcaeaaGreatDoor
namespace Go.Proofs.YtohmhlkdgfcaeaaGreatDoor
def Span.ok (s : Span) (most : Int) : Prop := 0 ≤ s.low ∧ s.low ≤ s.high ∧ s.high ≤ most
def Span.mem (s : Span) (x : Int) : Prop := s.low ≤ x ∧ x ≤ s.high
def Span.ne (s : Span) : Prop := s.low ≤ s.high
instance (s : Span) (m : Int) : Decidable (s.ok m) := by unfold Span.ok; infer_instance
instance (s : Span) (x : Int) : Decidable (s.mem x) := by unfold Span.mem; infer_instance
instance (s : Span) : Decidable s.ne := by unfold Span.ne; infer_instance
def Batch.ok (b : Batch) : Prop := (0 ≤ b.rough ∧ b.rough ≤ 1000) ∧ (0 ≤ b.goal ∧ b.goal ≤ 1000) ∧ (0 ≤ b.thick ∧ b.thick ≤ 1000) ∧ (0 ≤ b.least ∧ b.least ≤ 1000) ∧ (0 ≤ b.polish ∧ b.polish ≤ 100) ∧ (0 ≤ b.eat ∧ b.eat ≤ 100)
def Strip.ok (s : Strip) (hours : Int) : Prop := (0 ≤ s.hour ∧ s.hour ≤ hours - 1) ∧ (0 ≤ s.seen ∧ s.seen ≤ 2000) ∧ (0 ≤ s.off ∧ s.off ≤ 50)
def Acid.ok (a : Acid) : Prop := a.strength.ok 100 ∧ a.fall.ok 20
instance (b : Batch) : Decidable b.ok := by unfold Batch.ok; infer_instance
instance (s : Strip) (h : Int) : Decidable (s.ok h) := by unfold Strip.ok; infer_instance
instance (a : Acid) : Decidable a.ok := by unfold Acid.ok; infer_instance
structure Drum.ok (d : Drum) : Prop where
 acl : 1 ≤ d.acids.length ∧ d.acids.length ≤ 4
 kn : 1 ≤ d.known ∧ d.known ≤ 2 ^ d.acids.length - 1
 hr : 1 ≤ d.hours ∧ d.hours ≤ 12
 adl : (d.adds.length : Int) = d.hours
 stl : d.strips.length ≤ 6
 btl : 1 ≤ d.batches.length ∧ d.batches.length ≤ 5
 ac : ∀ a ∈ d.acids, a.ok
 ad : ∀ x ∈ d.adds, 0 ≤ x ∧ x ≤ 100
 st : ∀ s ∈ d.strips, s.ok d.hours
 bt : ∀ b ∈ d.batches, b.ok
def cap (a b : Span) : Span := ⟨max a.low b.low, min a.high b.high⟩
def capL (s : Span) (l : List Span) : Span := l.foldl cap s
def Strip.span (s : Strip) : Span := ⟨s.seen - s.off, s.seen + s.off⟩
def stripsAt (l : List Strip) (h : Nat) : List Span := (l.filter fun s => s.hour == (h : Int)).map Strip.span
def addAt (l : List Int) (h : Nat) : Int := l.getD h 0
def aft (a : Acid) (add : Int) (s : Span) : Span := ⟨max 0 (s.low - a.fall.high) + add, max 0 (s.high - a.fall.low) + add⟩
def bef (a : Acid) (add : Int) (s : Span) : Span := ⟨if add < s.low then s.low - add + a.fall.low else 0, s.high - add + a.fall.high⟩
def start (a : Acid) (add : Int) : Span := ⟨a.strength.low + add, a.strength.high + add⟩
def fw (ad : List Int) (st : List Strip) (a : Acid) : Nat → Span
 | 0 => capL (start a (addAt ad 0)) (stripsAt st 0)
 | h + 1 => capL (aft a (addAt ad (h + 1)) (fw ad st a h)) (stripsAt st (h + 1))
def bk (ad : List Int) (st : List Strip) (a : Acid) (H : Nat) : Nat → Span
 | 0 => fw ad st a (H - 1)
 | k + 1 => cap (fw ad st a (H - 1 - (k + 1))) (bef a (addAt ad (H - 1 - k)) (bk ad st a H k))
def Poss (ad : List Int) (st : List Strip) (a : Acid) (H : Nat) : Prop := ∀ h, h < H → (fw ad st a h).ne
theorem mem_cap {a b : Span} {x : Int} : (cap a b).mem x ↔ a.mem x ∧ b.mem x := by simp only [cap, Span.mem]; omega
theorem mem_capL {l : List Span} : ∀ {s : Span} {x : Int}, (capL s l).mem x ↔ s.mem x ∧ ∀ t ∈ l, t.mem x := by
 induction l with
 | nil => intro s x; simp [capL]
 | cons t l ih =>
  intro s x
  have := @ih (cap s t) x
  simp only [capL, List.foldl_cons, List.mem_cons, forall_eq_or_imp] at this ⊢
  rw [this, mem_cap]
  constructor
  ·rintro ⟨⟨h1, h2⟩, h3⟩; exact ⟨h1, h2, h3⟩
  ·rintro ⟨h1, h2, h3⟩; exact ⟨⟨h1, h2⟩, h3⟩
theorem capL_low {l : List Span} : ∀ {s : Span}, s.low ≤ (capL s l).low ∧ (capL s l).high ≤ s.high := by
 induction l with
 | nil => intro s; simp [capL]
 | cons t l ih =>
  intro s
  have := @ih (cap s t)
  simp only [capL, List.foldl_cons] at this ⊢
  simp only [cap] at this ⊢
  omega
theorem ne_mem {s : Span} (h : s.ne) : s.mem s.low ∧ s.mem s.high := by simp only [Span.ne, Span.mem] at *; omega
section
variable {ad : List Int} {st : List Strip} {a : Acid} {H : Nat}
theorem addAt_le (had : ∀ x ∈ ad, 0 ≤ x ∧ x ≤ 100) (h : Nat) : 0 ≤ addAt ad h ∧ addAt ad h ≤ 100 := by
 unfold addAt
 rw [List.getD_eq_getElem?_getD]
 cases hh : ad[h]? with
 | none => simp
 | some x => simpa using had x (List.mem_of_getElem? hh)
theorem fw_low (ha : a.ok) (had : ∀ x ∈ ad, 0 ≤ x ∧ x ≤ 100) : ∀ h, 0 ≤ (fw ad st a h).low ∧ (fw ad st a h).high ≤ 100 + 100 * (h + 1) := by
 intro h
 obtain ⟨h1, h2⟩ := ha
 simp only [Span.ok] at h1 h2
 induction h with
 | zero =>
  have := addAt_le had 0
  have := @capL_low (stripsAt st 0) (start a (addAt ad 0))
  simp only [fw]
  simp only [start] at this ⊢
  omega
 | succ h ih =>
  have := addAt_le had (h + 1)
  have := @capL_low (stripsAt st (h + 1)) (aft a (addAt ad (h + 1)) (fw ad st a h))
  simp only [fw]
  simp only [aft] at this ⊢
  push_cast
  omega
theorem bk_ok (ha : a.ok) (had : ∀ x ∈ ad, 0 ≤ x ∧ x ≤ 100) (hp : Poss ad st a H) : ∀ k, k < H → (bk ad st a H k).ne ∧ (fw ad st a (H - 1 - k)).low ≤ (bk ad st a H k).low ∧ (bk ad st a H k).high ≤ (fw ad st a (H - 1 - k)).high := by
 intro k
 induction k with
 | zero => intro hk; exact ⟨hp _ (by omega), by simp [bk]⟩
 | succ k ih =>
  intro hk
  obtain ⟨i1, i2, i3⟩ := ih (by omega)
  have hn := hp (H - 1 - (k + 1)) (by omega)
  have e : H - 1 - k = H - 1 - (k + 1) + 1 := by omega
  have hl := fw_low (st := st) ha had (H - 1 - (k + 1))
  have hadd := addAt_le had (H - 1 - k)
  have hc := @capL_low (stripsAt st (H - 1 - k)) (aft a (addAt ad (H - 1 - k)) (fw ad st a (H - 1 - (k + 1))))
  have he : fw ad st a (H - 1 - k) = capL (aft a (addAt ad (H - 1 - k)) (fw ad st a (H - 1 - (k + 1)))) (stripsAt st (H - 1 - k)) := by
   rw [e]; rfl
  rw [← he] at hc
  obtain ⟨h1, h2⟩ := ha
  simp only [Span.ok] at h1 h2
  simp only [bk, cap, bef, aft, Span.ne] at *
  split <;> omega
def bd (ad : List Int) (st : List Strip) (a : Acid) (H h : Nat) : Span := bk ad st a H (H - 1 - h)
theorem bd_last (_hH : 0 < H) : bd ad st a H (H - 1) = fw ad st a (H - 1) := by simp [bd, bk]
theorem bd_step {h : Nat} (hh : h + 1 < H) : bd ad st a H h = cap (fw ad st a h) (bef a (addAt ad (h + 1)) (bd ad st a H (h + 1))) := by
 unfold bd
 obtain ⟨k, hk⟩ : ∃ k, H - 1 - h = k + 1 := ⟨H - 1 - h - 1, by omega⟩
 have e1 : H - 1 - (h + 1) = k := by omega
 rw [hk, e1, bk]
 have e2 : H - 1 - (k + 1) = h := by omega
 have e3 : H - 1 - k = h + 1 := by omega
 rw [e2, e3]
theorem bd_ok (ha : a.ok) (had : ∀ x ∈ ad, 0 ≤ x ∧ x ≤ 100) (hp : Poss ad st a H) {h : Nat} (hh : h < H) : (bd ad st a H h).ne ∧ (fw ad st a h).low ≤ (bd ad st a H h).low ∧ (bd ad st a H h).high ≤ (fw ad st a h).high := by
 have := bk_ok ha had hp (H - 1 - h) (by omega)
 have e : H - 1 - (H - 1 - h) = h := by omega
 rw [e] at this
 exact this
end
end Go.Proofs.YtohmhlkdgfcaeaaGreatDoor
namespace Go.Proofs.YtohmhlkdgfcaeaaGreatDoor
open Go Go.RowKit
theorem wr_of {x : Int} (h : -9223372036854775808 ≤ x ∧ x ≤ 9223372036854775807) : wr x = x := by
 show IntKind.i64.wrap x = x
 rw [IntKind.wrap_i64]; omega
theorem ix_at {α : Type} {l : List α} {i : Nat} {x : α} (h : l[i]? = some x) : ix l (i : Int) = some x := by
 simp [ix, h]
def fc {α σ β : Type} (body : Nat → α → σ → (σ → Option β) → Option β) (fin : σ → Option β) : Nat → List α → σ → Option β
 | _, [], s => fin s
 | i, x :: r, s => body i x s (fc body fin (i + 1) r)
theorem loop_list {α σ β : Type} (l : List α) (L : Nat → Int → σ → Option β) (body : Nat → α → σ → (σ → Option β) → Option β) (fin : σ → Option β)
  (h : ∀ (k i : Nat) (s : σ), L (k + 1) (i : Int) s = bif decide ((i : Int) < ((l.length : Nat) : Int)) then (ix l (i : Int)).bind (fun x => body i x s (fun s' => L k (wr ((i : Int) + 1)) s')) else fin s)
  (hl : l.length ≤ 1000000) : ∀ (k i : Nat) (s : σ), l.length < k + i → i ≤ l.length → L k (i : Int) s = fc body fin i (l.drop i) s := by
 intro k
 induction k with
 | zero => intro i s h1 h2; omega
 | succ k ih =>
  intro i s h1 h2
  rw [h]
  by_cases hi : i < l.length
  ·have e1 : decide ((i : Int) < ((l.length : Nat) : Int)) = true := decide_eq_true (by omega)
   rw [e1, cond_true, ix_at (List.getElem?_eq_getElem hi), List.drop_eq_getElem_cons hi]
   simp only [Option.bind_some, fc]
   congr 1
   funext s'
   rw [wr_of (by omega)]
   exact_mod_cast ih (i + 1) s' (by omega) (by omega)
  ·have e1 : decide ((i : Int) < ((l.length : Nat) : Int)) = false := decide_eq_false (by omega)
   rw [e1, cond_false, List.drop_eq_nil_of_le (by omega)]
   rfl
def fn {σ β : Type} (m : Int) (body : Int → σ → (σ → Option β) → Option β) (fin : σ → Option β) : Nat → Int → σ → Option β
 | 0, _, s => fin s
 | r + 1, i, s => body i s (fn m body fin r (i + 1))
theorem loop_nat {σ β : Type} (m : Int) (L : Nat → Int → σ → Option β) (body : Int → σ → (σ → Option β) → Option β) (fin : σ → Option β)
  (h : ∀ (k : Nat) (i : Int) (s : σ), L (k + 1) i s = bif decide (i < m) then body i s (fun s' => L k (wr (i + 1)) s') else fin s)
  (hm : m ≤ 1000000) : ∀ (r k : Nat) (i : Int) (s : σ), 0 ≤ i → i + r = m → r < k → L k i s = fn m body fin r i s := by
 intro r
 induction r with
 | zero =>
  intro k i s h0 h1 h2
  obtain ⟨k, rfl⟩ : ∃ k', k = k' + 1 := ⟨k - 1, by omega⟩
  have e1 : decide (i < m) = false := decide_eq_false (by omega)
  rw [h, e1, cond_false]; rfl
 | succ r ih =>
  intro k i s h0 h1 h2
  obtain ⟨k, rfl⟩ : ∃ k', k = k' + 1 := ⟨k - 1, by omega⟩
  have e1 : decide (i < m) = true := decide_eq_true (by omega)
  rw [h, e1, cond_true]
  simp only [fn]
  congr 1
  funext s'
  rw [wr_of (by omega)]
  exact ih k (i + 1) s' (by omega) (by omega) (by omega)
theorem fc_all {α : Type} (p : α → Bool) (fin : Option Bool) : ∀ (l : List α) (i : Nat), fc (σ := Unit) (fun _ x s K => bif p x then K s else some false) (fun _ => fin) i l () = bif l.all p then fin else some false := by
 intro l
 induction l with
 | nil => intro i; rfl
 | cons x r ih =>
  intro i
  simp only [fc, List.all_cons]
  cases p x
  ·rfl
  ·rw [cond_true, ih]; rfl
theorem loop_all {α : Type} (l : List α) (L : Nat → Int → Option Bool) (p : α → Bool) (fin : Option Bool)
  (h : ∀ (k i : Nat), L (k + 1) (i : Int) = bif decide ((i : Int) < ((l.length : Nat) : Int)) then (ix l (i : Int)).bind (fun x => bif p x then L k (wr ((i : Int) + 1)) else some false) else fin)
  (hl : l.length ≤ 1000000) {k : Nat} (hk : l.length < k) : L k 0 = bif l.all p then fin else some false := by
 have := loop_list l (fun k i (_ : Unit) => L k i) (fun _ x s K => bif p x then K s else some false) (fun _ => fin) (fun k i _ => h k i) hl k 0 () (by omega) (by omega)
 rw [fc_all] at this
 exact this
def firstI {α : Type} (p : α → Bool) : Nat → List α → Int
 | _, [] => -1
 | i, x :: r => bif p x then (i : Int) else firstI p (i + 1) r
theorem firstI_any {α : Type} (p : α → Bool) : ∀ (l : List α) (i : Nat), decide (0 ≤ firstI p i l) = l.any p := by
 intro l
 induction l with
 | nil => intro i; rfl
 | cons x r ih =>
  intro i
  rw [firstI, List.any_cons]
  rcases Bool.eq_false_or_eq_true (p x) with h | h
  ·rw [h, cond_true]; exact decide_eq_true (by omega)
  ·rw [h, cond_false, ih]; rfl
theorem loop_first {α : Type} (l : List α) (f : α → Option Bool) (p : α → Bool) (hf : ∀ x ∈ l, f x = some (p x)) (L : Nat → Int → Option Int)
  (h : ∀ (k i : Nat), L (k + 1) (i : Int) = bif decide ((i : Int) < ((l.length : Nat) : Int)) then (ix l (i : Int)).bind (fun x => (f x).bind fun b => bif b then some (i : Int) else L k (wr ((i : Int) + 1))) else some (-1))
  (hl : l.length ≤ 1000000) {k : Nat} (hk : l.length < k) : L k 0 = some (firstI p 0 l) := by
 have h1 := loop_list l (fun k i (_ : Unit) => L k i) (fun i x s K => (f x).bind fun b => bif b then some (i : Int) else K s) (fun _ => some (-1)) (fun k i _ => h k i) hl k 0 () (by omega) (by omega)
 rw [List.drop_zero] at h1
 have key : ∀ (l' : List α) (i : Nat), (∀ x ∈ l', f x = some (p x)) → fc (σ := Unit) (fun i x s K => (f x).bind fun b => bif b then some (i : Int) else K s) (fun _ => some (-1)) i l' () = some (firstI p i l') := by
  intro l'
  induction l' with
  | nil => intro i _; rfl
  | cons x r ih =>
   intro i hx
   simp only [fc, firstI, hx x List.mem_cons_self, Option.bind_some]
   cases p x
   ·rw [cond_false, cond_false]; exact ih (i + 1) (fun y hy => hx y (List.mem_cons_of_mem _ hy))
   ·rfl
 exact h1.trans (key l 0 hf)
def inb (v a b : Int) : Bool := decide (a ≤ v) && decide (v ≤ b)
theorem p_87 (n : Nat) (v a b : Int) : s_87 n v a b = some (inb v a b) := by unfold s_87 inb; cases decide (a ≤ v) <;> rfl
theorem p_103 (n : Nat) (v a b : Int) : s_103 n v a b = some (inb v a b) := by unfold s_103 inb; cases decide (a ≤ v) <;> rfl
def spb (s : Span) (m : Int) : Bool := decide (0 ≤ s.low) && (decide (s.low ≤ s.high) && decide (s.high ≤ m))
theorem p_107 (n : Nat) (s : Span) (m : Int) : s_107 n s m = some (spb s m) := by unfold s_107 spb; cases decide (0 ≤ s.low) <;> cases decide (s.low ≤ s.high) <;> rfl
theorem p_148 (n : Nat) (s : Span) (m : Int) : s_148 n s m = some (spb s m) := by unfold s_148 spb; cases decide (0 ≤ s.low) <;> cases decide (s.low ≤ s.high) <;> rfl
def okA (a : Acid) : Bool := spb a.strength 100 && spb a.fall 20
def okS (h : Int) (s : Strip) : Bool := inb s.hour 0 (wr (h - 1)) && (inb s.seen 0 2000 && inb s.off 0 50)
def okBt (b : Batch) : Bool := inb b.rough 0 1000 && (inb b.goal 0 1000 && (inb b.thick 0 1000 && (inb b.least 0 1000 && (inb b.polish 0 100 && inb b.eat 0 100))))
def okL (d : Drum) : Bool := d.acids.all okA && (d.adds.all (fun x => inb x 0 100) && (d.strips.all (okS d.hours) && d.batches.all okBt))
def okN (d : Drum) : Bool := inb d.acids.length 1 4 && (inb d.known 1 (2 ^ d.acids.length - 1) && (inb d.hours 1 12 && (decide ((d.adds.length : Int) = d.hours) && (decide ((d.strips.length : Int) ≤ 6) && inb d.batches.length 1 5))))
def okD (d : Drum) : Bool := okN d && okL d
theorem inb_iff {v a b : Int} : inb v a b = true ↔ a ≤ v ∧ v ≤ b := by simp [inb]
theorem spb_iff {s : Span} {m : Int} : spb s m = true ↔ s.ok m := by simp [spb, Span.ok]
theorem okA_iff {a : Acid} : okA a = true ↔ a.ok := by simp [okA, Acid.ok, spb_iff]
theorem okS_iff {h : Int} {s : Strip} (hh : 1 ≤ h ∧ h ≤ 12) : okS h s = true ↔ s.ok h := by
 unfold okS
 rw [wr_of (by omega)]
 simp [Strip.ok, inb_iff]
theorem okBt_iff {b : Batch} : okBt b = true ↔ b.ok := by simp [okBt, Batch.ok, inb_iff]
theorem okD_iff {d : Drum} : okD d = true ↔ d.ok := by
 constructor
 ·intro h
  simp only [okD, okN, okL, Bool.and_eq_true, inb_iff, decide_eq_true_eq, List.all_eq_true] at h
  obtain ⟨⟨h1, h2, h3, h4, h5, h6⟩, h7, h8, h9, h10⟩ := h
  exact ⟨by omega, h2, h3, h4, by omega, by omega, fun a ha => okA_iff.1 (h7 a ha), h8, fun s hs => (okS_iff h3).1 (h9 s hs), fun b hb => okBt_iff.1 (h10 b hb)⟩
 ·intro h
  simp only [okD, okN, okL, Bool.and_eq_true, inb_iff, decide_eq_true_eq, List.all_eq_true]
  have h1 := h.acl
  have h5 := h.stl
  have h6 := h.btl
  exact ⟨⟨by omega, h.kn, h.hr, h.adl, by omega, by omega⟩, fun a ha => okA_iff.2 (h.ac a ha), h.ad, fun s hs => (okS_iff h.hr).2 (h.st s hs), fun b hb => okBt_iff.2 (h.bt b hb)⟩
structure Short (d : Drum) : Prop where
 a : d.acids.length ≤ 6
 b : d.adds.length ≤ 15
 c : d.strips.length ≤ 9
 e : d.batches.length ≤ 7
def shortB (d : Drum) : Bool := decide (((d.acids.length : Nat) : Int) ≤ 6) && (decide (((d.adds.length : Nat) : Int) ≤ 15) && (decide (((d.strips.length : Nat) : Int) ≤ 9) && decide (((d.batches.length : Nat) : Int) ≤ 7)))
theorem shortB_iff {d : Drum} : shortB d = true ↔ Short d := by
 simp only [shortB, Bool.and_eq_true, decide_eq_true_eq]
 exact ⟨fun h => ⟨by omega, by omega, by omega, by omega⟩, fun h => ⟨by have := h.a; omega, by have := h.b; omega, by have := h.c; omega, by have := h.e; omega⟩⟩
theorem p_23 (n : Nat) (d : Drum) : s_23 n d = some (shortB d) := by
 unfold s_23 shortB
 cases decide (((d.acids.length : Nat) : Int) ≤ 6) <;> cases decide (((d.adds.length : Nat) : Int) ≤ 15) <;> cases decide (((d.strips.length : Nat) : Int) ≤ 9) <;> rfl
section
variable {n : Nat} {d : Drum}
theorem p_39_l14 (hn : 100 ≤ n) (hs : Short d) : s_39_l14 n d n 0 = some (d.batches.all okBt) := by
 have := hs.e
 rw [loop_all d.batches (s_39_l14 n d) okBt (some true) (fun k i => ?_) (by omega) (by omega)]
 ·cases d.batches.all okBt <;> rfl
 ·rw [s_39_l14]
  congr 1
  congr 1
  funext x
  simp only [p_103, Option.bind_some, okBt, s_39_j17]
  cases inb x.rough 0 1000 <;> cases inb x.goal 0 1000 <;> cases inb x.thick 0 1000 <;> cases inb x.least 0 1000 <;> cases inb x.polish 0 100 <;> cases inb x.eat 0 100 <;> rfl
theorem p_39_l10 (hn : 100 ≤ n) (hs : Short d) : s_39_l10 n d n 0 = some (d.strips.all (okS d.hours) && d.batches.all okBt) := by
 have := hs.c
 rw [loop_all d.strips (s_39_l10 n d) (okS d.hours) (some (d.batches.all okBt)) (fun k i => ?_) (by omega) (by omega)]
 ·cases d.strips.all (okS d.hours) <;> rfl
 ·rw [s_39_l10, p_39_l14 hn hs]
  congr 1
  congr 1
  funext x
  simp only [p_103, Option.bind_some, okS, s_39_j13]
  cases inb x.hour 0 (wr (d.hours - 1)) <;> cases inb x.seen 0 2000 <;> cases inb x.off 0 50 <;> rfl
theorem p_39_l9 (hn : 100 ≤ n) (hs : Short d) : s_39_l9 n d n 0 = some (d.adds.all (fun x => inb x 0 100) && (d.strips.all (okS d.hours) && d.batches.all okBt)) := by
 have := hs.b
 rw [loop_all d.adds (s_39_l9 n d) (fun x => inb x 0 100) (some (d.strips.all (okS d.hours) && d.batches.all okBt)) (fun k i => ?_) (by omega) (by omega)]
 ·cases d.adds.all (fun x => inb x 0 100) <;> rfl
 ·rw [s_39_l9, p_39_l10 hn hs]
  congr 1
  congr 1
  funext x
  simp only [p_103, Option.bind_some]
  cases inb x 0 100 <;> rfl
theorem p_39_l5 (hn : 100 ≤ n) (hs : Short d) : s_39_l5 n d n 0 = some (okL d) := by
 have := hs.a
 rw [loop_all d.acids (s_39_l5 n d) okA (some (d.adds.all (fun x => inb x 0 100) && (d.strips.all (okS d.hours) && d.batches.all okBt))) (fun k i => ?_) (by omega) (by omega)]
 ·unfold okL; cases d.acids.all okA <;> rfl
 ·rw [s_39_l5, p_39_l9 hn hs]
  by_cases hi : i < d.acids.length
  ·have e := ix_at (List.getElem?_eq_getElem hi)
   simp only [e, Option.bind_some, p_107, okA, s_39_j8]
   cases spb d.acids[i].strength 100 <;> cases spb d.acids[i].fall 20 <;> rfl
  ·have e1 : decide ((i : Int) < ((d.acids.length : Nat) : Int)) = false := decide_eq_false (by omega)
   rw [e1, cond_false, cond_false]
theorem p_106 (hn : 100 ≤ n) {m : Nat} (hm : m ≤ 40) : s_106 n (m : Int) = some (2 ^ m) := by
 have h1 : ∀ (r k : Nat) (i : Nat), i + r = m → r < k → s_106_l1 (m : Int) k (2 ^ i) (i : Int) = some (2 ^ m) := by
  intro r
  induction r with
  | zero =>
   intro k i hi hk
   obtain ⟨k, rfl⟩ : ∃ k', k = k' + 1 := ⟨k - 1, by omega⟩
   have e1 : decide ((i : Int) < (m : Int)) = false := decide_eq_false (by omega)
   have : i = m := by omega
   subst this
   rw [s_106_l1, e1, cond_false]
  | succ r ih =>
   intro k i hi hk
   obtain ⟨k, rfl⟩ : ∃ k', k = k' + 1 := ⟨k - 1, by omega⟩
   have e1 : decide ((i : Int) < (m : Int)) = true := decide_eq_true (by omega)
   have h6 : -9223372036854775808 ≤ (2 : Int) * 2 ^ i ∧ (2 : Int) * 2 ^ i ≤ 9223372036854775807 := by
    obtain ⟨p, hp, hp2⟩ : ∃ p : Nat, (2 : Int) ^ i = (p : Int) ∧ p ≤ 2 ^ 40 := ⟨2 ^ i, by push_cast; rfl, Nat.pow_le_pow_right (by omega) (by omega)⟩
    rw [hp]
    omega
   rw [s_106_l1, e1, cond_true, wr_of (x := 2 * 2 ^ i) h6, wr_of (x := (i : Int) + 1) (by omega)]
   have := ih k (i + 1) (by omega) (by omega)
   rw [show (2 : Int) * 2 ^ i = 2 ^ (i + 1) by rw [Int.pow_succ]; omega]
   exact_mod_cast this
 have := h1 m n 0 (by omega) (by omega)
 simpa [s_106] using this
theorem p_39 (hn : 100 ≤ n) (hs : Short d) : s_39 n d = some (okD d) := by
 have h1 := hs.a
 unfold s_39
 rw [p_106 hn (by omega)]
 simp only [p_103, Option.bind_some, s_39_j4, p_39_l5 hn hs]
 have h3 : (2 : Int) ^ d.acids.length ≤ 64 := by
  have : (2 : Nat) ^ d.acids.length ≤ 2 ^ 6 := Nat.pow_le_pow_right (by omega) h1
  exact_mod_cast this
 have h4 : (0 : Int) < 2 ^ d.acids.length := by
  have : (0 : Nat) < 2 ^ d.acids.length := Nat.pow_pos (by omega)
  exact_mod_cast this
 rw [wr_of (by omega)]
 have h5 : decide (6 < ((d.strips.length : Nat) : Int)) = !decide (((d.strips.length : Nat) : Int) ≤ 6) := by
  by_cases h : ((d.strips.length : Nat) : Int) ≤ 6
  ·simp [h]
  ·simp [h]; omega
 rw [h5]
 unfold okD okN
 cases inb d.acids.length 1 4 <;> cases inb d.known 1 (2 ^ d.acids.length - 1) <;> cases inb d.hours 1 12 <;> cases decide (((d.adds.length : Nat) : Int) = d.hours) <;> cases decide (((d.strips.length : Nat) : Int) ≤ 6) <;> cases inb d.batches.length 1 5 <;> rfl
end
end Go.Proofs.YtohmhlkdgfcaeaaGreatDoor
namespace Go.Proofs.YtohmhlkdgfcaeaaGreatDoor
open Go Go.RowKit
section
variable {n : Nat} {d : Drum}
theorem p_121 (hn : 100 ≤ n) (l : List Int) (hl : l.length ≤ 50) (f : Int → Option Bool) (p : Int → Bool) (hf : ∀ x ∈ l, f x = some (p x)) : s_121 n l f = some (l.any p) := by
 unfold s_121 s_167
 rw [loop_first l f p hf (s_167_l1 f l) (fun k i => by rw [s_167_l1]) (by omega) (by omega), Option.bind_some, firstI_any]
theorem p_146 (hn : 100 ≤ n) (l : List Acid) (hl : l.length ≤ 50) (f : Acid → Option Bool) (p : Acid → Bool) (hf : ∀ x ∈ l, f x = some (p x)) : s_146 n l f = some (l.any p) := by
 unfold s_146 s_174
 rw [loop_first l f p hf (s_174_l1 f l) (fun k i => by rw [s_174_l1]) (by omega) (by omega), Option.bind_some, firstI_any]
theorem p_95 (hn : 100 ≤ n) (l : List Strip) (hl : l.length ≤ 50) (f : Strip → Option Bool) (p : Strip → Bool) (hf : ∀ x ∈ l, f x = some (p x)) : s_95 n l f = some (l.any p) := by
 unfold s_95 s_143
 rw [loop_first l f p hf (s_143_l1 f l) (fun k i => by rw [s_143_l1]) (by omega) (by omega), Option.bind_some, firstI_any]
theorem p_151 (hn : 100 ≤ n) (l : List Batch) (hl : l.length ≤ 50) (f : Batch → Option Bool) (p : Batch → Bool) (hf : ∀ x ∈ l, f x = some (p x)) : s_151 n l f = some (l.any p) := by
 unfold s_151 s_175
 rw [loop_first l f p hf (s_175_l1 f l) (fun k i => by rw [s_175_l1]) (by omega) (by omega), Option.bind_some, firstI_any]
theorem any_not {α : Type} (l : List α) (p : α → Bool) : l.any (fun x => !p x) = !l.all p := by
 induction l with
 | nil => rfl
 | cons x r ih => simp only [List.any_cons, List.all_cons, ih, Bool.not_and]
theorem p_147 (a : Acid) : s_147 n a = some (!okA a) := by
 unfold s_147 okA
 simp only [p_148, Option.bind_some]
 cases spb a.strength 100 <;> cases spb a.fall 20 <;> rfl
theorem p_149 (x : Int) : s_149 n x = some (!inb x 0 100) := by
 unfold s_149
 simp only [p_87, Option.bind_some]
theorem p_150 (s : Strip) : s_150 n s d = some (!okS d.hours s) := by
 unfold s_150 okS
 simp only [p_87, Option.bind_some]
 cases inb s.hour 0 (wr (d.hours - 1)) <;> cases inb s.seen 0 2000 <;> cases inb s.off 0 50 <;> rfl
theorem p_152 (b : Batch) : s_152 n b = some (!okBt b) := by
 unfold s_152 s_153 okBt
 simp only [p_87, Option.bind_some]
 cases inb b.rough 0 1000 <;> cases inb b.goal 0 1000 <;> cases inb b.thick 0 1000 <;> cases inb b.least 0 1000 <;> cases inb b.polish 0 100 <;> cases inb b.eat 0 100 <;> rfl
theorem p_104 (hn : 100 ≤ n) (hs : Short d) : s_104 n d = some (okD d) := by
 have h1 := hs.a
 have h2 := hs.b
 have h7 := hs.c
 have h8 := hs.e
 have h3 : (2 : Int) ^ d.acids.length ≤ 64 := by
  have : (2 : Nat) ^ d.acids.length ≤ 2 ^ 6 := Nat.pow_le_pow_right (by omega) h1
  exact_mod_cast this
 have h4 : (0 : Int) < 2 ^ d.acids.length := by
  have : (0 : Nat) < 2 ^ d.acids.length := Nat.pow_pos (by omega)
  exact_mod_cast this
 have hsh : shl .i64 1 ((List.length d.acids : Nat) : Int) = some (2 ^ d.acids.length) := by
  unfold shl
  rw [show decide ((0 : Int) ≤ ((List.length d.acids : Nat) : Int)) = true from decide_eq_true (by omega), cond_true]
  have hm : min ((List.length d.acids : Nat) : Int).toNat IntKind.i64.bits = d.acids.length := by
   show min d.acids.length 64 = d.acids.length
   omega
  rw [hm, Int.one_mul]
  exact congrArg some (wr_of (by omega))
 unfold s_104
 rw [hsh]
 simp only [p_87, Option.bind_some, p_146 hn d.acids (by omega) _ _ (fun x _ => p_147 x), p_121 hn d.adds (by omega) _ _ (fun x _ => p_149 x), p_95 hn d.strips (by omega) _ _ (fun x _ => p_150 x), p_151 hn d.batches (by omega) _ _ (fun x _ => p_152 x), any_not]
 rw [wr_of (by omega)]
 unfold okD okN okL
 cases inb d.acids.length 1 4 <;> cases inb d.known 1 (2 ^ d.acids.length - 1) <;> cases inb d.hours 1 12 <;> cases decide (((d.adds.length : Nat) : Int) = d.hours) <;> cases decide (((d.strips.length : Nat) : Int) ≤ 6) <;> cases inb d.batches.length 1 5 <;>
  cases d.acids.all okA <;> cases d.adds.all (fun x => inb x 0 100) <;> cases d.strips.all (okS d.hours) <;> cases d.batches.all okBt <;> rfl
def hasB (set : Int) (i : Nat) : Bool := decide (set / 2 ^ i % 2 = 1)
theorem pow_bound {i : Nat} (h : i ≤ 6) : (1 : Int) ≤ 2 ^ i ∧ (2 : Int) ^ i ≤ 64 := by
 obtain ⟨p, hp, hp1, hp2⟩ : ∃ p : Nat, (2 : Int) ^ i = (p : Int) ∧ 1 ≤ p ∧ p ≤ 2 ^ 6 := ⟨2 ^ i, by push_cast; rfl, Nat.pow_pos (by omega), Nat.pow_le_pow_right (by omega) h⟩
 omega
theorem and_one : ∀ x : Nat, x < 16 → bits .and .i64 (x : Int) 1 = (x : Int) % 2 := by decide
theorem p_145 {set : Int} {i : Nat} (hi : i ≤ 6) (h0 : 0 ≤ set) (h1 : set ≤ 15) : s_145 n set i = some (hasB set i) := by
 unfold s_145
 have hp := pow_bound hi
 have e1 : shr .i64 set (i : Int) = some (set / 2 ^ i) := by
  unfold shr
  rw [show decide ((0 : Int) ≤ (i : Int)) = true from decide_eq_true (by omega), cond_true]
  have hm : min ((i : Nat) : Int).toNat IntKind.i64.bits = i := by
   show min i 64 = i
   omega
  rw [hm, Int.fdiv_eq_ediv_of_nonneg _ (by omega)]
 rw [e1, Option.bind_some, hasB]
 have h3 : 0 ≤ set / 2 ^ i := Int.ediv_nonneg h0 (by omega)
 have h4 : set / 2 ^ i ≤ set := Int.ediv_le_self _ h0
 obtain ⟨x, hx⟩ := Int.eq_ofNat_of_zero_le h3
 rw [hx, and_one x (by omega)]
end
end Go.Proofs.YtohmhlkdgfcaeaaGreatDoor
namespace Go.Proofs.YtohmhlkdgfcaeaaGreatDoor
open Go Go.RowKit
instance (ad : List Int) (st : List Strip) (a : Acid) (H : Nat) : Decidable (Poss ad st a H) := by unfold Poss; infer_instance
def Span.small (s : Span) : Prop := (-5000 ≤ s.low ∧ s.low ≤ 5000) ∧ (-5000 ≤ s.high ∧ s.high ≤ 5000)
section
variable {n : Nat} {a : Acid} {add : Int} {s : Span}
theorem p_115 (ha : a.ok) (h : 0 ≤ add ∧ add ≤ 100) (hs : s.small) : s_115 n a add s = some (aft a add s) := by
 obtain ⟨h1, h2⟩ := ha
 simp only [Span.ok, Span.small] at h1 h2 hs
 unfold s_115 aft
 rw [wr_of (x := s.low - a.fall.high) (by omega), wr_of (x := s.high - a.fall.low) (by omega), wr_of (by omega), wr_of (by omega)]
end
section
variable {n : Nat} {d : Drum} {a : Acid}
theorem capL_small {l : List Span} {s : Span} (h : s.small) (hl : ∀ t ∈ l, t.small) : (capL s l).small := by
 induction l generalizing s with
 | nil => exact h
 | cons t l ih =>
  refine ih (s := cap s t) ?_ (fun u hu => hl u (List.mem_cons_of_mem _ hu))
  have := hl t List.mem_cons_self
  simp only [Span.small, cap] at *
  omega
theorem strip_small {s : Strip} {H : Int} (h : s.ok H) : s.span.small := by
 obtain ⟨h1, h2, h3⟩ := h
 simp only [Strip.span, Span.small]
 omega
theorem stripsAt_small (hd : d.ok) (h : Nat) : ∀ t ∈ stripsAt d.strips h, t.small := by
 intro t ht
 simp only [stripsAt, List.mem_map, List.mem_filter] at ht
 obtain ⟨s, ⟨hs, _⟩, rfl⟩ := ht
 exact strip_small (hd.st s hs)
theorem stripsAt_cons (x : Strip) (r : List Strip) (h : Nat) : stripsAt (x :: r) h = if x.hour = (h : Int) then x.span :: stripsAt r h else stripsAt r h := by
 unfold stripsAt
 rw [List.filter_cons]
 by_cases hx : x.hour = (h : Int)
 ·simp [hx]
 ·simp [hx]
theorem fw_small (hd : d.ok) (ha : a.ok) {h : Nat} (hh : h < 12) (hn : h = 0 ∨ (fw d.adds d.strips a (h - 1)).ne) : (fw d.adds d.strips a h).small := by
 have h1 := fw_low (st := d.strips) ha hd.ad
 have had := addAt_le hd.ad h
 cases h with
 | zero =>
  refine capL_small ?_ (stripsAt_small hd 0)
  obtain ⟨h1, h2⟩ := ha
  simp only [start, Span.small, Span.ok] at *
  omega
 | succ h =>
  refine capL_small ?_ (stripsAt_small hd (h + 1))
  have h2 := h1 h
  obtain ⟨h3, h4⟩ := ha
  simp only [aft, Span.small, Span.ok, Span.ne, Nat.add_sub_cancel] at *
  omega
def mix (d : Drum) (a : Acid) (H m : Nat) : List Span := (List.range H).map fun h => if h < m then fw d.adds d.strips a h else bd d.adds d.strips a H h
def bdL (d : Drum) (a : Acid) (H : Nat) : List Span := (List.range H).map (bd d.adds d.strips a H)
theorem mix_get {H m h : Nat} (hh : h < H) : (mix d a H m)[h]? = some (if h < m then fw d.adds d.strips a h else bd d.adds d.strips a H h) := by
 unfold mix
 rw [List.getElem?_map, List.getElem?_range hh]; rfl
theorem mix_step {H m : Nat} (hm : m < H) : (mix d a H (m + 1)).set m (bd d.adds d.strips a H m) = mix d a H m := by
 apply List.ext_getElem?
 intro i
 rw [List.getElem?_set]
 by_cases hi : i < H
 ·rw [mix_get (m := m) hi, mix_get (m := m + 1) hi]
  by_cases hmi : m = i
  ·subst hmi
   rw [if_pos rfl, if_pos (by unfold mix; simpa using hm), if_neg (by omega)]
  ·rw [if_neg hmi]
   by_cases h1 : i < m
   ·rw [if_pos h1, if_pos (by omega)]
   ·rw [if_neg h1, if_neg (by omega)]
 ·have e : ∀ q, (mix d a H q)[i]? = none := fun q => by unfold mix; simp; omega
  rw [if_neg (by omega), e, e]
theorem mix_zero {H : Nat} : mix d a H 0 = bdL d a H := by
 unfold mix bdL
 apply List.map_congr_left
 intro h _
 rw [if_neg (by omega)]
theorem bd_small (hd : d.ok) (ha : a.ok) {H h : Nat} (hH : H ≤ 12) (hp : Poss d.adds d.strips a H) (hh : h < H) : (bd d.adds d.strips a H h).small := by
 have h1 := fw_low (st := d.strips) ha hd.ad h
 have h2 := bd_ok ha hd.ad hp hh
 simp only [Span.small, Span.ne] at *
 omega
theorem add_at (hd : d.ok) {h : Nat} (hh : (h : Int) < d.hours) : ix d.adds (h : Int) = some (addAt d.adds h) := by
 have := hd.adl
 have hl : h < d.adds.length := by omega
 rw [ix_at (List.getElem?_eq_getElem hl), addAt, List.getD_eq_getElem?_getD, List.getElem?_eq_getElem hl]
 rfl
end
end Go.Proofs.YtohmhlkdgfcaeaaGreatDoor
namespace Go.Proofs.YtohmhlkdgfcaeaaGreatDoor
def Meet (w : List Span) : Prop := ∃ x : Int, 0 ≤ x ∧ x ≤ 12 ∧ ∀ s ∈ w, s.mem x
def comm (w : List Span) : Span := capL ⟨0, 12⟩ w
theorem meet_iff {w : List Span} : Meet w ↔ (comm w).ne := by
 constructor
 ·rintro ⟨x, h1, h2, h3⟩
  have := (mem_capL (s := ⟨0, 12⟩) (l := w) (x := x)).2 ⟨⟨h1, h2⟩, h3⟩
  simp only [Span.mem, Span.ne, comm] at *
  omega
 ·intro h
  have h1 := (mem_capL (s := ⟨0, 12⟩) (l := w) (x := (comm w).low)).1 (ne_mem h).1
  exact ⟨_, h1.1.1, h1.1.2, h1.2⟩
theorem mem_comm {w : List Span} {x : Int} : (comm w).mem x ↔ (0 ≤ x ∧ x ≤ 12) ∧ ∀ s ∈ w, s.mem x := mem_capL
instance (w : List Span) : Decidable (Meet w) := decidable_of_iff _ meet_iff.symm
theorem Meet.sub {w w' : List Span} (h : Meet w) (hs : ∀ s ∈ w', s ∈ w) : Meet w' := by
 obtain ⟨x, h1, h2, h3⟩ := h
 exact ⟨x, h1, h2, fun s hw => h3 s (hs s hw)⟩
theorem cap_comm (s a b : Span) : cap (cap s a) b = cap (cap s b) a := by
 simp only [cap, Span.mk.injEq]
 omega
def Whole (w : List Span) : Prop := ∀ s ∈ w, 0 ≤ s.low ∧ s.low ≤ s.high ∧ s.high ≤ 12
def Pierce (w : List Span) (P : List Int) : Prop := (∀ x ∈ P, 0 ≤ x ∧ x ≤ 12) ∧ ∀ s ∈ w, ∃ x ∈ P, s.mem x
def Disj (a b : Span) : Prop := a.high < b.low ∨ b.high < a.low
def ApartB (w : List Span) (m : Nat → Bool) : Prop := ∀ i k a b, w[i]? = some a → w[k]? = some b → m i = true → m k = true → i ≠ k → Disj a b
theorem exists_least : ∀ (l : List Span), l ≠ [] → ∃ s ∈ l, ∀ t ∈ l, s.high ≤ t.high := by
 intro l
 induction l with
 | nil => intro h; exact absurd rfl h
 | cons a l ih =>
  intro _
  cases l with
  | nil => exact ⟨a, by simp, by simp⟩
  | cons b l =>
   obtain ⟨s, hs, hm⟩ := ih (by simp)
   by_cases h : a.high ≤ s.high
   ·refine ⟨a, by simp, ?_⟩
    intro t ht
    rcases List.mem_cons.1 ht with rfl | ht
    ·exact Int.le_refl _
    ·exact Int.le_trans h (hm t ht)
   ·refine ⟨s, List.mem_cons_of_mem _ hs, ?_⟩
    intro t ht
    rcases List.mem_cons.1 ht with rfl | ht
    ·omega
    ·exact hm t ht
theorem duality : ∀ (n : Nat) (w : List Span), Whole w → ∀ (act : Nat → Bool), ((List.range w.length).filter act).length ≤ n →
  ∃ (P : List Int) (m : Nat → Bool), (∀ x ∈ P, 0 ≤ x ∧ x ≤ 12) ∧ (∀ i a, w[i]? = some a → act i = true → ∃ x ∈ P, a.mem x) ∧ (∀ i, m i = true → act i = true ∧ i < w.length) ∧ ApartB w m ∧ ((List.range w.length).filter m).length = P.length := by
 intro n
 induction n with
 | zero =>
  intro w hw act hn
  refine ⟨[], fun _ => false, by simp, ?_, by simp, ?_, by simp⟩
  ·intro i a hi ha
   have hlt := (List.getElem?_eq_some_iff.1 hi).1
   have : i ∈ (List.range w.length).filter act := by simp [hlt, ha]
   have h0 : (List.range w.length).filter act = [] := List.eq_nil_of_length_eq_zero (by omega)
   rw [h0] at this
   cases this
  ·intro i k a b _ _ h; cases h
 | succ n ih =>
  intro w hw act hn
  by_cases h0 : (List.range w.length).filter act = []
  ·refine ⟨[], fun _ => false, by simp, ?_, by simp, ?_, by simp⟩
   ·intro i a hi ha
    have hlt := (List.getElem?_eq_some_iff.1 hi).1
    have : i ∈ (List.range w.length).filter act := by simp [hlt, ha]
    rw [h0] at this
    cases this
   ·intro i k a b _ _ h; cases h
  ·
   have hne : ((List.range w.length).filter act).map (fun i => w.getD i ⟨0, 0⟩) ≠ [] := by simpa using h0
   obtain ⟨s, hs, hmin⟩ := exists_least _ hne
   obtain ⟨i0, hi0, rfl⟩ := List.mem_map.1 hs
   simp only [List.mem_filter, List.mem_range] at hi0
   obtain ⟨hlt0, hact0⟩ := hi0
   have hg : ∀ {i : Nat} {a : Span}, w[i]? = some a → w.getD i ⟨0, 0⟩ = a := fun hi => by rw [List.getD_eq_getElem?_getD, hi]; rfl
   obtain ⟨a0, ha0⟩ : ∃ a, w[i0]? = some a := ⟨_, List.getElem?_eq_getElem hlt0⟩
   rw [hg ha0] at hmin
   have hmin' : ∀ i a, w[i]? = some a → act i = true → a0.high ≤ a.high := fun i a hi ha => by
    refine hmin a (List.mem_map.2 ⟨i, ?_, hg hi⟩)
    simp [(List.getElem?_eq_some_iff.1 hi).1, ha]
   have hw0 := hw a0 (List.mem_of_getElem? ha0)
   let act' : Nat → Bool := fun i => act i && decide (a0.high < (w.getD i ⟨0, 0⟩).low)
   have hsub : ((List.range w.length).filter act').length < ((List.range w.length).filter act).length := by
    have h1 : (List.range w.length).filter act' = ((List.range w.length).filter act).filter (fun i => decide (a0.high < (w.getD i ⟨0, 0⟩).low)) := by
     rw [List.filter_filter]
     congr 1
     funext i
     simp only [act']
     rw [Bool.and_comm]
    rw [h1]
    have h2 := List.length_filter_le (fun i => decide (a0.high < (w.getD i ⟨0, 0⟩).low)) ((List.range w.length).filter act)
    rcases Nat.lt_or_ge (((List.range w.length).filter act).filter (fun i => decide (a0.high < (w.getD i ⟨0, 0⟩).low))).length ((List.range w.length).filter act).length with h3 | h3
    ·exact h3
    ·exfalso
     have h4 := List.length_filter_eq_length_iff.1 (Nat.le_antisymm h2 h3)
     have h5 := h4 i0 (by simp [hlt0, hact0])
     rw [hg ha0] at h5
     simp at h5
     omega
   obtain ⟨P, m, p1, p2, p3, p4, p5⟩ := ih w hw act' (by omega)
   refine ⟨a0.high :: P, fun i => m i || i == i0, ?_, ?_, ?_, ?_, ?_⟩
   ·intro x hx
    rcases List.mem_cons.1 hx with rfl | hx
    ·omega
    ·exact p1 x hx
   ·intro i a hi ha
    by_cases hc : a0.high < a.low
    ·obtain ⟨x, hx, hm⟩ := p2 i a hi (by simp only [act', ha, hg hi, Bool.true_and]; simpa using hc)
     exact ⟨x, List.mem_cons_of_mem _ hx, hm⟩
    ·refine ⟨a0.high, List.mem_cons_self, ?_⟩
     have := hmin' i a hi ha
     simp only [Span.mem]
     omega
   ·intro i hi
    simp only [Bool.or_eq_true, beq_iff_eq] at hi
    rcases hi with hi | rfl
    ·have := p3 i hi
     simp only [act', Bool.and_eq_true] at this
     exact ⟨this.1.1, this.2⟩
    ·exact ⟨hact0, hlt0⟩
   ·intro i k a b hi hk mi mk hne
    simp only [Bool.or_eq_true, beq_iff_eq] at mi mk
    have far : ∀ j b, w[j]? = some b → m j = true → a0.high < b.low := fun j b hj hm => by
     have := (p3 j hm).1
     simp only [act', Bool.and_eq_true, hg hj, decide_eq_true_eq] at this
     exact this.2
    rcases mi with mi | rfl <;> rcases mk with mk | rfl
    ·exact p4 i k a b hi hk mi mk hne
    ·rw [ha0] at hk; cases hk
     exact .inr (far i a hi mi)
    ·rw [ha0] at hi; cases hi
     exact .inl (far k b hk mk)
    ·exact absurd rfl hne
   ·have hm0 : m i0 = false := by
     cases h : m i0 with
     | false => rfl
     | true =>
      have := (p3 i0 h).1
      simp only [act', Bool.and_eq_true, hg ha0, decide_eq_true_eq] at this
      omega
    rw [List.length_cons, ← p5, ← List.countP_eq_length_filter, ← List.countP_eq_length_filter]
    have : ∀ n, n ≤ w.length → (List.range n).countP (fun i => m i || i == i0) = (List.range n).countP m + (if i0 < n then 1 else 0) := by
     intro n
     induction n with
     | zero => intro _; rfl
     | succ n ihn =>
      intro hn
      rw [List.range_succ, List.countP_append, List.countP_append, ihn (by omega)]
      simp only [List.countP_cons, List.countP_nil]
      by_cases e : n = i0
      ·subst e
       simp [hm0]
      ·have e' : (n == i0) = false := by simpa using e
       rw [e', Bool.or_false]
       by_cases h1 : i0 < n
       ·rw [if_pos h1, if_pos (show i0 < n + 1 by omega)]; omega
       ·rw [if_neg h1, if_neg (show ¬ i0 < n + 1 by omega)]; omega
    rw [this _ (Nat.le_refl _), if_pos hlt0]
theorem pierce_apart {w : List Span} : ∀ {A : List Nat} {P : List Int}, (∀ i ∈ A, ∃ a, w[i]? = some a ∧ ∃ x ∈ P, a.mem x) → A.Nodup →
  (∀ i ∈ A, ∀ k ∈ A, i ≠ k → ∀ a b, w[i]? = some a → w[k]? = some b → Disj a b) → A.length ≤ P.length := by
 intro A
 induction A with
 | nil => intro P _ _ _; simp
 | cons i A ih =>
  intro P hP hnd ha
  obtain ⟨a, hi, x, hx, hm⟩ := hP i List.mem_cons_self
  obtain ⟨hn1, hn2⟩ := List.nodup_cons.1 hnd
  have := ih (P := P.erase x) (fun k hk => by
   obtain ⟨b, hb, y, hy, hm2⟩ := hP k (List.mem_cons_of_mem _ hk)
   refine ⟨b, hb, y, ?_, hm2⟩
   have hne : i ≠ k := fun e => hn1 (e ▸ hk)
   have hd := ha i List.mem_cons_self k (List.mem_cons_of_mem _ hk) hne a b hi hb
   have hxy : y ≠ x := fun e => by subst e; simp only [Disj, Span.mem] at *; omega
   exact (List.mem_erase_of_ne hxy).2 hy) hn2 (fun i hi k hk => ha i (List.mem_cons_of_mem _ hi) k (List.mem_cons_of_mem _ hk))
  rw [List.length_erase_of_mem hx] at this
  have hpos := List.length_pos_of_mem hx
  rw [List.length_cons]
  omega
end Go.Proofs.YtohmhlkdgfcaeaaGreatDoor
namespace Go.Proofs.YtohmhlkdgfcaeaaGreatDoor
open Go Go.RowKit
def Err {α : Type} (o : Option (Except Value α)) : Prop := ∃ v, isRule v = true ∧ o = some (.error v)
theorem p_188 (n : Nat) (h : Int) {x y : Span} (hc : (cap x y).ne) : s_188 n h x y = some (.ok (cap x y)) := by
 unfold s_188
 have e : decide ((min x.high y.high) < (max x.low y.low)) = false := decide_eq_false (by simp only [Span.ne, cap] at hc; omega)
 rw [e]; rfl
theorem p_188e (n : Nat) (h : Int) {x y : Span} (hc : ¬ (cap x y).ne) : s_188 n h x y = some (.error (.iface 175 (.agg #[.int .i64 h]))) := by
 unfold s_188
 have e : decide ((min x.high y.high) < (max x.low y.low)) = true := decide_eq_true (by simp only [Span.ne, cap] at hc; omega)
 rw [e]; rfl
theorem capL_cap (l : List Span) : ∀ (s t : Span), capL (cap s t) l = cap (capL s l) t := by
 induction l with
 | nil => intro s t; rfl
 | cons u r ih =>
  intro s t
  show capL (cap (cap s t) u) r = cap (capL (cap s u) r) t
  rw [cap_comm, ih]
def full : Span := ⟨0, 1300⟩
theorem cap_full {s : Span} (h : 0 ≤ s.low ∧ s.high ≤ 1300) : cap full s = s := by
 obtain ⟨h1, h2⟩ := h
 ext
 ·simp only [cap, full]; omega
 ·simp only [cap, full]; omega
theorem capL_full {l : List Span} {s : Span} (h : 0 ≤ s.low ∧ s.high ≤ 1300) : cap (capL full l) s = capL s l := by
 rw [← capL_cap, cap_full h]
theorem ne_left {x y : Span} (h : (cap x y).ne) : x.ne := by simp only [Span.ne, cap] at *; omega
theorem capL_ne {l : List Span} : ∀ {s : Span}, (capL s l).ne → s.ne := by
 induction l with
 | nil => intro s h; exact h
 | cons t r ih => intro s h; exact ne_left (ih (s := cap s t) h)
section
variable {n : Nat} {d : Drum} {a : Acid} {H : Nat}
def lst (H : Nat) (c : Nat → Span) : List Span := (List.range H).map c
theorem lst_get {c : Nat → Span} {h : Nat} (hh : h < H) : (lst H c)[h]? = some (c h) := by
 unfold lst; rw [List.getElem?_map, List.getElem?_range hh]; rfl
theorem lst_set {c : Nat → Span} {m : Nat} {s : Span} : (lst H c).set m s = lst H (fun h => if h = m then s else c h) := by
 apply List.ext_getElem?
 intro i
 rw [List.getElem?_set]
 by_cases hi : i < H
 ·rw [lst_get hi, lst_get hi]
  by_cases hm : m = i
  ·subst hm
   rw [if_pos rfl, if_pos (by unfold lst; simpa using hi), if_pos rfl]
  ·rw [if_neg hm, if_neg (fun e => hm e.symm)]
 ·have e : ∀ c : Nat → Span, (lst H c)[i]? = none := fun c => by unfold lst; simp; omega
  rw [e, e]
  split
  ·rw [if_neg (by unfold lst; simp; omega)]
  ·rfl
theorem lst_congr {c c' : Nat → Span} (h : ∀ i, i < H → c i = c' i) : lst H c = lst H c' := by
 unfold lst
 exact List.map_congr_left (fun i hi => h i (by simpa using hi))
theorem p_173_strips (hd : d.ok) (hn : 100 ≤ n) (hH : d.hours = (H : Int)) (i : Int) (fin : List Span → Option (Except Value Filled)) (hfin : ∀ s, (ix s 0).bind (fun v120 => (ix d.adds 0).bind fun v121 => (ix d.adds 0).bind fun v122 =>
   (s_188 n 0 v120 (Span.mk (wr (a.strength.low + v121)) (wr (a.strength.high + v122)))).bind fun v123 => Except.casesOn (motive := fun _ => Option (Except Value (Filled))) v123 (fun p => some (.error p)) (fun v124 => (ix s 0).bind fun v125 => s_173_l2 n d i a n 1 (sts s 0 v124))) = fin s) :
  ((∀ h, h < H → (capL full (stripsAt d.strips h)).ne) → s_173_l1 n d i a n 0 (lst H (fun _ => full)) = fin (lst H (fun h => capL full (stripsAt d.strips h)))) ∧
  (¬ (∀ h, h < H → (capL full (stripsAt d.strips h)).ne) → Err (s_173_l1 n d i a n 0 (lst H (fun _ => full)))) := by
 have hst := hd.stl
 have h1 := loop_list d.strips (s_173_l1 n d i a) (fun _ x s K => (ix s x.hour).bind fun v => (s_188 n x.hour v x.span).bind fun r => Except.casesOn (motive := fun _ => Option (Except Value (Filled))) r (fun p => some (.error p)) (fun v' => (ix s x.hour).bind fun _ => K (sts s x.hour v')))
  fin (fun k j s => by
   rw [s_173_l1, hfin]
   by_cases hj : j < d.strips.length
   ·have hok := hd.st _ (List.getElem_mem hj)
    simp only [ix_at (List.getElem?_eq_getElem hj), Option.bind_some]
    obtain ⟨q1, q2, q3⟩ := hok
    rw [wr_of (x := d.strips[j].seen - d.strips[j].off) (by omega), wr_of (x := d.strips[j].seen + d.strips[j].off) (by omega)]
    rfl
   ·have e1 : decide ((j : Int) < ((d.strips.length : Nat) : Int)) = false := decide_eq_false (by omega)
    rw [e1, cond_false, cond_false]) (by omega) n 0 (lst H (fun _ => full)) (by omega) (by omega)
 rw [List.drop_zero, show ((0 : Nat) : Int) = 0 from rfl] at h1
 rw [h1]
 clear h1
 have key : ∀ (l : List Strip) (j : Nat) (c : Nat → Span), (∀ s ∈ l, s.ok d.hours) → (∀ h, h < H → (c h).ne) →
   ((∀ h, h < H → (capL (c h) (stripsAt l h)).ne) → fc (fun _ x s K => (ix s x.hour).bind fun v => (s_188 n x.hour v x.span).bind fun r => Except.casesOn (motive := fun _ => Option (Except Value (Filled))) r (fun p => some (.error p)) (fun v' => (ix s x.hour).bind fun _ => K (sts s x.hour v'))) fin j l (lst H c) = fin (lst H (fun h => capL (c h) (stripsAt l h)))) ∧
   (¬ (∀ h, h < H → (capL (c h) (stripsAt l h)).ne) → Err (fc (fun _ x s K => (ix s x.hour).bind fun v => (s_188 n x.hour v x.span).bind fun r => Except.casesOn (motive := fun _ => Option (Except Value (Filled))) r (fun p => some (.error p)) (fun v' => (ix s x.hour).bind fun _ => K (sts s x.hour v'))) fin j l (lst H c))) := by
  intro l
  induction l with
  | nil =>
   intro j c _ hc
   exact ⟨fun _ => rfl, fun h => absurd hc h⟩
  | cons x r ih =>
   intro j c hok hc
   obtain ⟨⟨q1, q2⟩, _⟩ := hok x List.mem_cons_self
   obtain ⟨m, hm⟩ := Int.eq_ofNat_of_zero_le q1
   have hmH : m < H := by omega
   simp only [fc]
   rw [hm, ix_at (lst_get hmH)]
   simp only [Option.bind_some]
   have hcap : ∀ h, capL (c h) (stripsAt (x :: r) h) = capL (if h = m then cap (c m) x.span else c h) (stripsAt r h) := by
    intro h
    rw [stripsAt_cons, hm]
    by_cases hh : h = m
    ·subst hh
     rw [if_pos rfl, if_pos rfl]; rfl
    ·rw [if_neg (by omega), if_neg hh]
   by_cases hx : (cap (c m) x.span).ne
   ·rw [p_188 n m hx]
    simp only [Option.bind_some]
    have hset : sts (lst H c) (m : Int) (cap (c m) x.span) = lst H (fun h => if h = m then cap (c m) x.span else c h) := lst_set
    rw [hset]
    have := ih (j + 1) (fun h => if h = m then cap (c m) x.span else c h) (fun s hs => hok s (List.mem_cons_of_mem _ hs)) (fun h hh => by
     by_cases e : h = m
     ·simp only [e, if_true]; exact hx
     ·simp only [e, if_false]; exact hc h hh)
    simp only [hcap]
    exact this
   ·rw [p_188e n m hx]
    constructor
    ·intro hall
     refine absurd ?_ hx
     have := hall m hmH
     rw [hcap, if_pos rfl] at this
     exact capL_ne this
    ·intro _
     exact ⟨_, rfl, rfl⟩
 exact key d.strips 0 (fun _ => full) hd.st (fun h _ => by simp [Span.ne, full])
def mixS (d : Drum) (a : Acid) (m : Nat) : Nat → Span := fun h => if h < m then fw d.adds d.strips a h else capL full (stripsAt d.strips h)
theorem aft_full (hd : d.ok) (ha : a.ok) {h : Nat} (hh : h + 1 < 12) : 0 ≤ (aft a (addAt d.adds (h + 1)) (fw d.adds d.strips a h)).low ∧ (aft a (addAt d.adds (h + 1)) (fw d.adds d.strips a h)).high ≤ 1300 := by
 have h1 := fw_low (st := d.strips) ha hd.ad h
 have h2 := addAt_le hd.ad (h + 1)
 obtain ⟨h3, h4⟩ := ha
 simp only [aft, Span.ok] at *
 omega
theorem p_173_l3 (hd : d.ok) (ha : a.ok) (hH : d.hours = (H : Int)) (hp : Poss d.adds d.strips a H) (i : Int) : ∀ (m k : Nat), m < k → m ≤ H - 1 → s_173_l3 n d i a k (m : Int) (mix d a H m) = some (.ok ⟨d, i, bdL d a H⟩) := by
 have hhr := hd.hr
 intro m
 induction m with
 | zero =>
  intro k hk hm
  obtain ⟨k, rfl⟩ : ∃ k', k = k' + 1 := ⟨k - 1, by omega⟩
  rw [s_173_l3, decide_eq_false (by omega), cond_false, mix_zero]
 | succ m ih =>
  intro k hk hm
  obtain ⟨k, rfl⟩ : ∃ k', k = k' + 1 := ⟨k - 1, by omega⟩
  have g1 := ix_at (mix_get (d := d) (a := a) (H := H) (m := m + 1) (h := m) (by omega))
  have g2 := ix_at (mix_get (d := d) (a := a) (H := H) (m := m + 1) (h := m + 1) (by omega))
  rw [if_pos (by omega)] at g1
  rw [if_neg (by omega)] at g2
  have e1 : wr (((m + 1 : Nat) : Int) - 1) = (m : Int) := by rw [wr_of (by omega)]; omega
  have hb := bd_small hd ha (by omega) hp (show m + 1 < H by omega)
  have hadd := addAt_le hd.ad (m + 1)
  have hok := (bd_ok ha hd.ad hp (show m < H by omega)).1
  rw [bd_step (ad := d.adds) (st := d.strips) (a := a) (show m + 1 < H by omega)] at hok
  have hset : sts (mix d a H (m + 1)) (m : Int) (bd d.adds d.strips a H m) = mix d a H m := mix_step (by omega)
  have key : ∀ low, low = (bef a (addAt d.adds (m + 1)) (bd d.adds d.strips a H (m + 1))).low → s_173_j6 n (s_173_l3 n d i a k) a ((m + 1 : Nat) : Int) (mix d a H (m + 1)) (bd d.adds d.strips a H (m + 1)) (addAt d.adds (m + 1)) low = some (.ok ⟨d, i, bdL d a H⟩) := by
   intro low hl
   have hhi : wr (wr ((bd d.adds d.strips a H (m + 1)).high - addAt d.adds (m + 1)) + a.fall.high) = (bef a (addAt d.adds (m + 1)) (bd d.adds d.strips a H (m + 1))).high := by
    obtain ⟨h3, h4⟩ := ha
    simp only [Span.small, Span.ok] at hb h3 h4
    rw [wr_of (x := _ - _) (by omega), wr_of (by omega)]
    rfl
   unfold s_173_j6
   rw [hhi, hl, e1, g1]
   simp only [Option.bind_some]
   rw [p_188 n m hok]
   simp only [Option.bind_some]
   rw [← bd_step (ad := d.adds) (st := d.strips) (a := a) (show m + 1 < H by omega), hset]
   exact ih k (by omega) (by omega)
  rw [s_173_l3, decide_eq_true (by omega), cond_true, g2, Option.bind_some, add_at hd (h := m + 1) (by omega), Option.bind_some]
  obtain ⟨h3, h4⟩ := ha
  simp only [Span.small, Span.ok] at hb h3 h4
  by_cases hc : addAt d.adds (m + 1) < (bd d.adds d.strips a H (m + 1)).low
  ·rw [decide_eq_true hc, cond_true]
   refine key _ ?_
   rw [wr_of (x := _ - _) (by omega), wr_of (by omega)]
   simp only [bef]
   rw [if_pos hc]
  ·rw [decide_eq_false hc, cond_false]
   refine key _ ?_
   simp only [bef]
   rw [if_neg hc]
theorem p_173_l2 (hd : d.ok) (hn : 100 ≤ n) (ha : a.ok) (hH : d.hours = (H : Int)) (i : Int) : ∀ (r m k : Nat), m + 1 + r = H → r < k → (∀ h, h < m + 1 → (fw d.adds d.strips a h).ne) →
  (Poss d.adds d.strips a H → s_173_l2 n d i a k ((m + 1 : Nat) : Int) (lst H (mixS d a (m + 1))) = some (.ok ⟨d, i, bdL d a H⟩)) ∧ (¬ Poss d.adds d.strips a H → Err (s_173_l2 n d i a k ((m + 1 : Nat) : Int) (lst H (mixS d a (m + 1))))) := by
 have hhr := hd.hr
 intro r
 induction r with
 | zero =>
  intro m k hm hk hne
  obtain ⟨k, rfl⟩ : ∃ k', k = k' + 1 := ⟨k - 1, by omega⟩
  have hm' : H = m + 1 := by omega
  subst hm'
  refine ⟨fun hp => ?_, fun hp => absurd hne hp⟩
  rw [s_173_l2, decide_eq_false (by omega), cond_false, hH]
  have := p_173_l3 (n := n) hd ha hH hp i m n (by omega) (by omega)
  have e1 : wr (((m + 1 : Nat) : Int) - 1) = (m : Int) := by rw [wr_of (by omega)]; omega
  rw [e1]
  have e2 : lst (m + 1) (mixS d a (m + 1)) = mix d a (m + 1) m := by
   unfold mix lst
   apply List.map_congr_left
   intro h hh
   rw [List.mem_range] at hh
   unfold mixS
   rw [if_pos hh]
   by_cases h1 : h < m
   ·rw [if_pos h1]
   ·have : h = m := by omega
    subst this
    rw [if_neg h1]
    exact (bd_last (ad := d.adds) (st := d.strips) (a := a) (H := h + 1) (by omega)).symm
  rw [e2]
  exact this
 | succ r ih =>
  intro m k hm hk hne
  obtain ⟨k, rfl⟩ : ∃ k', k = k' + 1 := ⟨k - 1, by omega⟩
  have g0 : ix (lst H (mixS d a (m + 1))) (m : Int) = some (fw d.adds d.strips a m) := by
   rw [ix_at (lst_get (by omega))]; unfold mixS; rw [if_pos (by omega)]
  have g1 : ix (lst H (mixS d a (m + 1))) ((m + 1 : Nat) : Int) = some (capL full (stripsAt d.strips (m + 1))) := by
   rw [ix_at (lst_get (by omega))]; unfold mixS; rw [if_neg (by omega)]
  have e1 : wr (((m + 1 : Nat) : Int) - 1) = (m : Int) := by rw [wr_of (by omega)]; omega
  have hsm := fw_small hd ha (show m < 12 by omega) (by
    rcases Nat.eq_zero_or_pos m with h | h
    ·exact .inl h
    ·exact .inr (hne (m - 1) (by omega)))
  have hadd := addAt_le hd.ad (m + 1)
  have haft : Span.mk (wr ((max 0 (wr ((fw d.adds d.strips a m).low - a.fall.high))) + addAt d.adds (m + 1))) (wr ((max 0 (wr ((fw d.adds d.strips a m).high - a.fall.low))) + addAt d.adds (m + 1))) = aft a (addAt d.adds (m + 1)) (fw d.adds d.strips a m) :=
   Option.some.inj (p_115 (n := n) ha hadd hsm)
  have hfw : cap (capL full (stripsAt d.strips (m + 1))) (aft a (addAt d.adds (m + 1)) (fw d.adds d.strips a m)) = fw d.adds d.strips a (m + 1) := capL_full (aft_full hd ha (by omega))
  rw [s_173_l2, decide_eq_true (by omega), cond_true, e1, g0, Option.bind_some, add_at hd (h := m + 1) (by omega), Option.bind_some, g1, Option.bind_some, haft]
  by_cases hf : (fw d.adds d.strips a (m + 1)).ne
  ·rw [p_188 n _ (by rw [hfw]; exact hf), hfw]
   simp only [Option.bind_some]
   have hset : sts (lst H (mixS d a (m + 1))) ((m + 1 : Nat) : Int) (fw d.adds d.strips a (m + 1)) = lst H (mixS d a (m + 1 + 1)) := by
    refine (lst_set (m := m + 1)).trans (lst_congr (fun h _ => ?_))
    unfold mixS
    by_cases e : h = m + 1
    ·subst e; rw [if_pos rfl, if_pos (by omega)]
    ·rw [if_neg e]
     by_cases h1 : h < m + 1
     ·rw [if_pos h1, if_pos (by omega)]
     ·rw [if_neg h1, if_neg (by omega)]
   rw [hset, wr_of (by omega)]
   have := ih (m + 1) k (by omega) (by omega) (fun h hh => by
    by_cases e : h = m + 1
    ·subst e; exact hf
    ·exact hne h (by omega))
   exact_mod_cast this
  ·rw [p_188e n _ (by rw [hfw]; exact hf)]
   exact ⟨fun hp => absurd (hp (m + 1) (by omega)) hf, fun _ => ⟨_, rfl, rfl⟩⟩
theorem p_173 (hd : d.ok) (hn : 100 ≤ n) {i : Nat} (hi : d.acids[i]? = some a) :
  (Poss d.adds d.strips a d.hours.toNat → s_173 n d i = some (.ok ⟨d, i, bdL d a d.hours.toNat⟩)) ∧ (¬ Poss d.adds d.strips a d.hours.toNat → Err (s_173 n d i)) := by
 have hhr := hd.hr
 have ha := hd.ac a (List.mem_of_getElem? hi)
 obtain ⟨H, hH⟩ := Int.eq_ofNat_of_zero_le (show 0 ≤ d.hours by omega)
 have hH' : d.hours.toNat = H := by omega
 rw [hH']
 unfold s_173
 rw [ix_at hi, Option.bind_some]
 have e187 : s_187 n [Span.mk 0 1300] d.hours = some (lst H (fun _ => full)) := by
  unfold s_187
  rw [decide_eq_true hhr.1, decide_eq_true hhr.2]
  simp only [Bool.and_self, cond_true, hH']
  refine congrArg some ?_
  unfold lst full
  apply List.ext_getElem?
  intro j
  simp [List.getElem?_replicate, List.getElem?_range]
  by_cases hj : j < H <;> simp [hj]
 rw [e187, Option.bind_some]
 obtain ⟨k1, k2⟩ := p_173_strips (n := n) (a := a) hd hn hH i _ (fun s => rfl)
 have hst0 : 0 ≤ (start a (addAt d.adds 0)).low ∧ (start a (addAt d.adds 0)).high ≤ 1300 := by
  have := addAt_le hd.ad 0
  obtain ⟨h3, h4⟩ := ha
  simp only [start, Span.ok] at *
  omega
 have hsub : ∀ h, h < H → (fw d.adds d.strips a h).ne → (capL full (stripsAt d.strips h)).ne := by
  intro h hh hf
  cases h with
  | zero => exact ne_left (y := start a (addAt d.adds 0)) (by rw [capL_full hst0]; exact hf)
  | succ h => exact ne_left (y := aft a (addAt d.adds (h + 1)) (fw d.adds d.strips a h)) (by rw [capL_full (aft_full hd ha (by omega))]; exact hf)
 by_cases hall : ∀ h, h < H → (capL full (stripsAt d.strips h)).ne
 ·rw [k1 hall]
  have g0 : ix (lst H (fun h => capL full (stripsAt d.strips h))) 0 = some (capL full (stripsAt d.strips 0)) := ix_at (lst_get (c := fun h => capL full (stripsAt d.strips h)) (h := 0) (by omega))
  have ga : ix d.adds 0 = some (addAt d.adds 0) := add_at hd (h := 0) (by omega)
  have hs0 : Span.mk (wr (a.strength.low + addAt d.adds 0)) (wr (a.strength.high + addAt d.adds 0)) = start a (addAt d.adds 0) := by
   have := addAt_le hd.ad 0
   obtain ⟨h3, h4⟩ := ha
   simp only [Span.ok] at h3 h4
   rw [wr_of (by omega), wr_of (by omega)]; rfl
  have hfw : cap (capL full (stripsAt d.strips 0)) (start a (addAt d.adds 0)) = fw d.adds d.strips a 0 := capL_full hst0
  simp only [g0, ga, Option.bind_some, hs0]
  by_cases hf : (fw d.adds d.strips a 0).ne
  ·rw [p_188 n _ (by rw [hfw]; exact hf), hfw]
   simp only [Option.bind_some]
   have hset : sts (lst H (fun h => capL full (stripsAt d.strips h))) 0 (fw d.adds d.strips a 0) = lst H (mixS d a (0 + 1)) := by
    refine (lst_set (m := 0)).trans (lst_congr (fun h _ => ?_))
    unfold mixS
    by_cases e : h = 0
    ·subst e; rw [if_pos rfl, if_pos (by omega)]
    ·rw [if_neg e, if_neg (by omega)]
   rw [hset]
   exact p_173_l2 (n := n) hd hn ha hH i (H - 1) 0 n (by omega) (by omega) (fun h hh => by
    have : h = 0 := by omega
    subst this; exact hf)
  ·rw [p_188e n _ (by rw [hfw]; exact hf)]
   exact ⟨fun hp => absurd (hp 0 (by omega)) hf, fun _ => ⟨_, rfl, rfl⟩⟩
 ·exact ⟨fun hp => absurd (fun h hh => hsub h hh (hp h hh)) hall, fun _ => k2 hall⟩
end
end Go.Proofs.YtohmhlkdgfcaeaaGreatDoor
namespace Go.Proofs.YtohmhlkdgfcaeaaGreatDoor
open Go Go.RowKit
def acidAt (d : Drum) (i : Nat) : Acid := d.acids.getD i default
def hrs (d : Drum) : Nat := d.hours.toNat
def PossI (d : Drum) (i : Nat) : Bool := hasB d.known i && decide (Poss d.adds d.strips (acidAt d i) (hrs d))
def bdI (d : Drum) (i : Nat) : List Span := bdL d (acidAt d i) (hrs d)
def idx (d : Drum) : List Nat := (List.range d.acids.length).filter (PossI d)
section
variable {n : Nat} {d : Drum}
theorem acidAt_get {i : Nat} (hi : i < d.acids.length) : d.acids[i]? = some (acidAt d i) := by
 unfold acidAt
 rw [List.getD_eq_getElem?_getD, List.getElem?_eq_getElem hi]; rfl
theorem acidAt_ok (hd : d.ok) {i : Nat} (hi : i < d.acids.length) : (acidAt d i).ok := hd.ac _ (List.mem_of_getElem? (acidAt_get hi))
theorem hrs_eq (hd : d.ok) : d.hours = (hrs d : Int) := by have := hd.hr; unfold hrs; omega
theorem hrs_le (hd : d.ok) : 1 ≤ hrs d ∧ hrs d ≤ 12 := by have := hd.hr; unfold hrs; omega
theorem q_173 (hd : d.ok) (hn : 100 ≤ n) {i : Nat} (hi : i < d.acids.length) : (Poss d.adds d.strips (acidAt d i) (hrs d) → s_173 n d i = some (.ok ⟨d, i, bdI d i⟩)) ∧ (¬ Poss d.adds d.strips (acidAt d i) (hrs d) → Err (s_173 n d i)) :=
 p_173 hd hn (acidAt_get hi)
theorem app_of {α : Type} {l l2 : List α} (h : l.length + l2.length ≤ 1000000) : app l l2 = some (l ++ l2) := by
 unfold app; rw [decide_eq_true h]; rfl
def err (d : Drum) (fine : Bool) : Int := bif !okD d || !fine then 2 else bif (idx d).isEmpty then 7 else 0
def filL (d : Drum) : List Filled := (idx d).map fun (i : Nat) => ⟨d, (i : Int), bdI d i⟩
theorem p_171 (hd : d.ok) (hn : 100 ≤ n) : s_171 n d n 0 [] = some (filL d) := by
 have hl := hd.acl
 have hkn := hd.kn
 have hpw := (pow_bound (i := d.acids.length) (by omega)).2
 have hpw4 : (2 : Int) ^ d.acids.length ≤ 16 := by
  have : (2 : Nat) ^ d.acids.length ≤ 2 ^ 4 := Nat.pow_le_pow_right (by omega) hl.2
  exact_mod_cast this
 have h1 := loop_nat ((d.acids.length : Nat) : Int) (s_171 n d) (fun i s K => (s_145 n d.known i).bind fun b => bif !b then K s else (s_173 n d i).bind fun r => match r with
     | .error v => bif isRule v then K s else none
     | .ok f => (app s [f]).bind fun l' => K l') (fun s => some s) (fun k i s => by rw [s_171]; rfl) (by omega) d.acids.length n 0 [] (by omega) (by omega) (by omega)
 rw [h1]
 have key : ∀ (r i : Nat) (s : List Filled), i + r = d.acids.length → s.length ≤ i → fn ((d.acids.length : Nat) : Int) (fun i s K => (s_145 n d.known i).bind fun b => bif !b then K s else (s_173 n d i).bind fun r => match r with
     | .error v => bif isRule v then K s else none
     | .ok f => (app s [f]).bind fun l' => K l') (fun s => some s) r (i : Int) s = some (s ++ ((List.range' i r).filter (PossI d)).map fun (i : Nat) => (⟨d, (i : Int), bdI d i⟩ : Filled)) := by
  intro r
  induction r with
  | zero => intro i s _ _; simp [fn]
  | succ r ih =>
   intro i s hi hs
   have hc : ((i : Int) + 1) = ((i + 1 : Nat) : Int) := by push_cast; rfl
   simp only [fn]
   rw [p_145 (by omega) (by omega) (by omega), Option.bind_some, List.range'_succ, List.filter_cons, hc]
   cases hp : hasB d.known i with
   | false =>
    have : PossI d i = false := by unfold PossI; rw [hp]; rfl
    rw [this]
    simp only [Bool.not_false, cond_true]
    rw [ih (i + 1) s (by omega) (by omega)]; rfl
   | true =>
    simp only [Bool.not_true, cond_false]
    obtain ⟨k1, k2⟩ := q_173 (n := n) hd hn (show i < d.acids.length by omega)
    by_cases hpo : Poss d.adds d.strips (acidAt d i) (hrs d)
    ·have : PossI d i = true := by unfold PossI; rw [hp, decide_eq_true hpo]; rfl
     rw [this, k1 hpo]
     simp only [Option.bind_some, if_true]
     rw [app_of (by simp; omega), Option.bind_some, ih (i + 1) _ (by omega) (by simp; omega)]
     simp
    ·have : PossI d i = false := by unfold PossI; rw [hp, decide_eq_false hpo]; rfl
     obtain ⟨v, hv, he⟩ := k2 hpo
     rw [this, he]
     simp only [Option.bind_some, hv, cond_true]
     rw [ih (i + 1) s (by omega) (by omega)]; rfl
 have := key d.acids.length 0 [] (by omega) (by simp)
 rw [← List.range_eq_range'] at this
 exact this
theorem p_84 (hn : 100 ≤ n) (hs : Short d) (fine : Bool) : s_84 n d fine = some (bif decide (err d fine = 0) then filL d else [], err d fine) := by
 unfold s_84 err
 rw [p_104 hn hs, Option.bind_some]
 cases hok : okD d with
 | false => rfl
 | true =>
  cases fine
  ·rfl
  ·simp only [Bool.not_true, Bool.or_self, cond_false]
   rw [p_171 (okD_iff.1 hok) hn, Option.bind_some]
   have : (filL d).isEmpty = (idx d).isEmpty := by unfold filL; cases idx d <;> rfl
   rw [this]
   cases (idx d).isEmpty <;> rfl
end
end Go.Proofs.YtohmhlkdgfcaeaaGreatDoor
namespace Go.Proofs.YtohmhlkdgfcaeaaGreatDoor
open Go Go.RowKit
def bdAt (d : Drum) (i h : Nat) : Span := bd d.adds d.strips (acidAt d i) (hrs d) h
section
variable {n : Nat} {d : Drum}
theorem bdI_lst (i : Nat) : bdI d i = lst (hrs d) (bdAt d i) := rfl
theorem bdI_get {i h : Nat} (hh : h < hrs d) : ix (bdI d i) (h : Int) = some (bdAt d i h) := ix_at (by rw [bdI_lst]; exact lst_get hh)
theorem p_85 {i h : Nat} (hh : h < hrs d) : s_85 n ⟨d, (i : Int), bdI d i⟩ (h : Int) = some (bdAt d i h).low := by unfold s_85; rw [bdI_get hh]; rfl
theorem p_86 {i h : Nat} (hh : h < hrs d) : s_86 n ⟨d, (i : Int), bdI d i⟩ (h : Int) = some (bdAt d i h).high := by unfold s_86; rw [bdI_get hh]; rfl
theorem idx_len (hd : d.ok) : (idx d).length ≤ 4 := by
 have := hd.acl
 have h1 := List.length_filter_le (PossI d) (List.range d.acids.length)
 unfold idx
 rw [List.length_range] at h1
 omega
theorem idx_mem {i : Nat} (h : i ∈ idx d) : i < d.acids.length ∧ PossI d i = true := by
 unfold idx at h
 rw [List.mem_filter, List.mem_range] at h
 exact h
end
end Go.Proofs.YtohmhlkdgfcaeaaGreatDoor
namespace Go.Proofs.YtohmhlkdgfcaeaaGreatDoor
open Go Go.RowKit
def firstH (p : Nat → Bool) : Nat → Nat → Int
 | 0, _ => -1
 | r + 1, m => bif p m then (m : Int) else firstH p r (m + 1)
end Go.Proofs.YtohmhlkdgfcaeaaGreatDoor
namespace Go.Proofs.YtohmhlkdgfcaeaaGreatDoor
open Go Go.RowKit
def qt (p x : Int) : Int := (x * p).tdiv 100
def cut (p : Int) (g : Nat → Int) : Nat → Int
 | 0 => 0
 | t + 1 => cut p g t + qt p (g t)
def stateAt (b : Batch) (g : Nat → Int) (t : Nat) : State := ⟨max 0 (b.rough - cut b.polish g t), max 0 (b.thick - cut b.eat g t)⟩
theorem qt_le {p x : Int} (hp : 0 ≤ p ∧ p ≤ 100) (hx : 0 ≤ x ∧ x ≤ 5000) : 0 ≤ qt p x ∧ qt p x ≤ 5000 := by
 unfold qt
 have h1 : 0 ≤ x * p := Int.mul_nonneg hx.1 hp.1
 have h2 : x * p ≤ x * 100 := Int.mul_le_mul_of_nonneg_left hp.2 hx.1
 rw [Int.tdiv_eq_ediv_of_nonneg h1]
 omega
theorem p_quo {p x : Int} (hp : 0 ≤ p ∧ p ≤ 100) (hx : 0 ≤ x ∧ x ≤ 5000) : quo .i64 (wr (x * p)) 100 = some (qt p x) := by
 have h1 : 0 ≤ x * p := Int.mul_nonneg hx.1 hp.1
 have h2 : x * p ≤ x * 100 := Int.mul_le_mul_of_nonneg_left hp.2 hx.1
 have h3 := qt_le hp hx
 rw [wr_of (by omega)]
 unfold quo
 rw [show decide ((100 : Int) = 0) = false from rfl, cond_false]
 exact congrArg some (wr_of (by unfold qt at h3; omega))
theorem cut_le {p : Int} {g : Nat → Int} (hp : 0 ≤ p ∧ p ≤ 100) : ∀ (t : Nat), (∀ h, h < t → 0 ≤ g h ∧ g h ≤ 5000) → 0 ≤ cut p g t ∧ cut p g t ≤ 5000 * t := by
 intro t
 induction t with
 | zero => intro _; simp [cut]
 | succ t ih =>
  intro h
  have h1 := ih (fun i hi => h i (by omega))
  have h2 := qt_le hp (h t (by omega))
  rw [cut]
  push_cast
  omega
def lstI (m : Nat) (c : Nat → Int) : List Int := (List.range m).map c
theorem lstI_succ (m : Nat) (c : Nat → Int) : lstI (m + 1) c = lstI m c ++ [c m] := by unfold lstI; rw [List.range_succ, List.map_append]; rfl
theorem lstI_length (m : Nat) (c : Nat → Int) : (lstI m c).length = m := by simp [lstI]
theorem lstI_get {m h : Nat} {c : Nat → Int} (hh : h < m) : (lstI m c)[h]? = some (c h) := by unfold lstI; rw [List.getElem?_map, List.getElem?_range hh]; rfl
section
variable {n : Nat} {d : Drum} {b : Batch} {g : Nat → Int} {t : Nat}
theorem p_166 {p : Int} (hp : 0 ≤ p ∧ p ≤ 100) (hn : 100 ≤ n) (ht : t ≤ 50) (hg : ∀ h, h < t → 0 ≤ g h ∧ g h ≤ 5000) : s_166 n (lstI t (fun h => qt p (g h))) = some (cut p g t) := by
 have key : ∀ (r m k : Nat), m + r = t → r < k → s_166_l1 (lstI t (fun h => qt p (g h))) k (cut p g m) (m : Int) = some (cut p g t) := by
  intro r
  induction r with
  | zero =>
   intro m k hm hk
   obtain ⟨k, rfl⟩ : ∃ k', k = k' + 1 := ⟨k - 1, by omega⟩
   have : m = t := by omega
   subst this
   rw [s_166_l1, decide_eq_false (by rw [lstI_length]; omega), cond_false]
  | succ r ih =>
   intro m k hm hk
   obtain ⟨k, rfl⟩ : ∃ k', k = k' + 1 := ⟨k - 1, by omega⟩
   have h1 := cut_le hp m (fun h hh => hg h (by omega))
   have h2 := qt_le hp (hg m (by omega))
   rw [s_166_l1, decide_eq_true (by rw [lstI_length]; omega), cond_true, ix_at (lstI_get (by omega)), Option.bind_some, wr_of (x := cut p g m + qt p (g m)) (by omega), wr_of (by omega)]
   exact_mod_cast ih (m + 1) k (by omega) (by omega)
 exact key t 0 n (by omega) (by omega)
theorem p_118 (hb : b.ok) (hn : 100 ≤ n) (ht : t ≤ 50) {f : Int → Option Int} (hf : ∀ h, h < t → f (h : Int) = some (g h)) (hg : ∀ h, h < t → 0 ≤ g h ∧ g h ≤ 5000) : s_118 n b (t : Int) f = some (stateAt b g t) := by
 obtain ⟨h1, h2, h3, h4, h5, h6⟩ := hb
 have key : ∀ (r m k : Nat), m + r = t → r < k → s_118_l1 n f b (t : Int) k (m : Int) (lstI m (fun h => qt b.polish (g h))) (lstI m (fun h => qt b.eat (g h))) = some (stateAt b g t) := by
  intro r
  induction r with
  | zero =>
   intro m k hm hk
   obtain ⟨k, rfl⟩ : ∃ k', k = k' + 1 := ⟨k - 1, by omega⟩
   have : m = t := by omega
   subst this
   have c1 := cut_le h5 m hg
   have c2 := cut_le h6 m hg
   rw [s_118_l1, decide_eq_false (by omega), cond_false, p_166 h5 hn ht hg, Option.bind_some, p_166 h6 hn ht hg, Option.bind_some, wr_of (by omega), wr_of (by omega)]
   rfl
  | succ r ih =>
   intro m k hm hk
   obtain ⟨k, rfl⟩ : ∃ k', k = k' + 1 := ⟨k - 1, by omega⟩
   rw [s_118_l1, decide_eq_true (by omega), cond_true, hf m (by omega), Option.bind_some, p_quo h5 (hg m (by omega)), Option.bind_some, app_of (by rw [lstI_length]; simp; omega), Option.bind_some,
    p_quo h6 (hg m (by omega)), Option.bind_some, app_of (by rw [lstI_length]; simp; omega), Option.bind_some, wr_of (by omega)]
   have := ih (m + 1) k (by omega) (by omega)
   rw [lstI_succ, lstI_succ] at this
   exact_mod_cast this
 exact key t 0 n (by omega) (by omega)
def loS (d : Drum) (b : Batch) (i t : Nat) : State := stateAt b (fun h => (bdAt d i h).low) t
def hiS (d : Drum) (b : Batch) (i t : Nat) : State := stateAt b (fun h => (bdAt d i h).high) t
def bOf (d : Drum) (b : Batch) (t i : Nat) : Bounds := ⟨⟨(hiS d b i t).rough, (loS d b i t).rough⟩, ⟨(hiS d b i t).thick, (loS d b i t).thick⟩⟩
def updB (x y : Bounds) : Bounds := ⟨⟨min x.rough.low y.rough.low, max x.rough.high y.rough.high⟩, ⟨min x.thick.low y.thick.low, max x.thick.high y.thick.high⟩⟩
def bnds (d : Drum) (b : Batch) (t : Nat) : Bounds := (idx d).foldl (fun s i => updB s (bOf d b t i)) (bOf d b t ((idx d).headD 0))
theorem updB_self (x : Bounds) : updB x x = x := by
 unfold updB
 ext <;> simp only <;> omega
theorem bdAt_pos (hd : d.ok) {i h : Nat} (hi : i ∈ idx d) (hh : h < hrs d) : 0 ≤ (bdAt d i h).low ∧ (bdAt d i h).low ≤ (bdAt d i h).high ∧ (bdAt d i h).high ≤ 1300 := by
 obtain ⟨m1, m2⟩ := idx_mem hi
 have hhr := hrs_le hd
 unfold PossI at m2
 simp only [Bool.and_eq_true, decide_eq_true_eq] at m2
 have h1 := fw_low (st := d.strips) (acidAt_ok hd m1) hd.ad h
 have h2 := bd_ok (acidAt_ok hd m1) hd.ad m2.2 hh
 simp only [Span.ne] at h2
 unfold bdAt
 omega
theorem p_118lo (hd : d.ok) (hn : 100 ≤ n) (hb : b.ok) {i : Nat} (hi : i ∈ idx d) (ht : t ≤ hrs d) : s_118 n b (t : Int) (fun z => s_85 n ⟨d, (i : Int), bdI d i⟩ z) = some (loS d b i t) := by
 have hhr := hrs_le hd
 exact p_118 hb hn (by omega) (fun h hh => p_85 (by omega)) (fun h hh => by have := bdAt_pos hd hi (show h < hrs d by omega); omega)
theorem p_118hi (hd : d.ok) (hn : 100 ≤ n) (hb : b.ok) {i : Nat} (hi : i ∈ idx d) (ht : t ≤ hrs d) : s_118 n b (t : Int) (fun z => s_86 n ⟨d, (i : Int), bdI d i⟩ z) = some (hiS d b i t) := by
 have hhr := hrs_le hd
 exact p_118 hb hn (by omega) (fun h hh => p_86 (by omega)) (fun h hh => by have := bdAt_pos hd hi (show h < hrs d by omega); omega)
theorem p_120 (hd : d.ok) (hn : 100 ≤ n) (hb : b.ok) (hne : idx d ≠ []) (ht : t ≤ hrs d) : s_120 n (filL d) b (t : Int) = some (bnds d b t) := by
 have hil := idx_len hd
 obtain ⟨i0, r0, hi0⟩ : ∃ i r, idx d = i :: r := by
  cases h : idx d with
  | nil => exact absurd h hne
  | cons i r => exact ⟨i, r, rfl⟩
 have hfl : (filL d).length = (idx d).length := by simp [filL]
 have rest : ∀ (r : List Nat) (p k : Nat) (x : Bounds), (idx d).drop p = r → 0 < p → p ≤ (idx d).length → (idx d).length < k + p → s_120_l1 n (filL d) b (t : Int) k (p : Int) x = some (r.foldl (fun s i => updB s (bOf d b t i)) x) := by
  intro r
  induction r with
  | nil =>
   intro p k x hr hp hp2 hk
   have hpl : (idx d).length ≤ p := List.drop_eq_nil_iff.1 hr
   obtain ⟨k, rfl⟩ : ∃ k', k = k' + 1 := ⟨k - 1, by omega⟩
   rw [s_120_l1, decide_eq_false (by omega), cond_false]
   rfl
  | cons j r ih =>
   intro p k x hr hp hp2 hk
   have hpl : p < (idx d).length := by
    rcases Nat.lt_or_ge p (idx d).length with h | h
    ·exact h
    ·rw [List.drop_eq_nil_of_le h] at hr; cases hr
   obtain ⟨k, rfl⟩ : ∃ k', k = k' + 1 := ⟨k - 1, by omega⟩
   rw [List.drop_eq_getElem_cons hpl] at hr
   obtain ⟨hj, hr2⟩ := List.cons.inj hr
   have hjm : j ∈ idx d := by rw [← hj]; exact List.getElem_mem hpl
   have gx : ix (filL d) (p : Int) = some ⟨d, (j : Int), bdI d j⟩ := ix_at (by unfold filL; rw [List.getElem?_map, List.getElem?_eq_getElem hpl, hj]; rfl)
   rw [s_120_l1, decide_eq_true (by omega), cond_true, gx, Option.bind_some, p_118lo hd hn hb hjm ht, Option.bind_some, p_118hi hd hn hb hjm ht, Option.bind_some, decide_eq_false (by omega), cond_false, wr_of (by omega)]
   exact_mod_cast ih (p + 1) k _ hr2 (by omega) (by omega) (by omega)
 obtain ⟨n', hn'⟩ : ∃ n', n = n' + 1 := ⟨n - 1, by omega⟩
 have him : i0 ∈ idx d := by rw [hi0]; exact List.mem_cons_self
 have g0 : ix (filL d) 0 = some ⟨d, (i0 : Int), bdI d i0⟩ := ix_at (i := 0) (by unfold filL; rw [hi0]; rfl)
 have h0 : s_120_l1 n (filL d) b (t : Int) (n' + 1) 0 (Bounds.mk (Span.mk 0 0) (Span.mk 0 0)) = s_120_l1 n (filL d) b (t : Int) n' 1 (bOf d b t i0) := by
  rw [s_120_l1, decide_eq_true (by rw [hfl, hi0]; simp), cond_true, g0, Option.bind_some, p_118lo hd hn hb him ht, Option.bind_some, p_118hi hd hn hb him ht, Option.bind_some]
  rfl
 unfold s_120
 rw [show s_120_l1 n (filL d) b (t : Int) n 0 (Bounds.mk (Span.mk 0 0) (Span.mk 0 0)) = s_120_l1 n (filL d) b (t : Int) (n' + 1) 0 (Bounds.mk (Span.mk 0 0) (Span.mk 0 0)) by rw [hn'], h0]
 have h1 := rest r0 1 n' (bOf d b t i0) (by rw [hi0]; rfl) (by omega) (by rw [hi0]; simp) (by omega)
 rw [show ((1 : Nat) : Int) = 1 from rfl] at h1
 rw [h1]
 unfold bnds
 rw [hi0]
 simp only [List.headD_cons, List.foldl_cons, updB_self]
end
end Go.Proofs.YtohmhlkdgfcaeaaGreatDoor
namespace Go.Proofs.YtohmhlkdgfcaeaaGreatDoor
open Go Go.RowKit
def lastH (p : Nat → Bool) : Nat → Int
 | 0 => -1
 | m + 1 => bif p m then (m : Int) else lastH p m
def smP (d : Drum) (b : Batch) (t : Nat) : Bool := decide ((bnds d b t).rough.high ≤ b.goal)
def thP (d : Drum) (b : Batch) (t : Nat) : Bool := decide (b.least ≤ (bnds d b t).thick.low)
section
variable {n : Nat} {d : Drum} {b : Batch}
theorem fil_head (hne : idx d ≠ []) : ∃ i0 : Nat, ix (filL d) 0 = some ⟨d, (i0 : Int), bdI d i0⟩ := by
 obtain ⟨i0, r0, hi0⟩ : ∃ i r, idx d = i :: r := by
  cases h : idx d with
  | nil => exact absurd h hne
  | cons i r => exact ⟨i, r, rfl⟩
 exact ⟨i0, ix_at (i := 0) (by unfold filL; rw [hi0]; rfl)⟩
theorem p_92 (hd : d.ok) (hn : 100 ≤ n) (hb : b.ok) (hne : idx d ≠ []) : s_92 n (filL d) b = some (firstH (smP d b) (hrs d + 1) 0) := by
 have hhr := hrs_le hd
 have hH := hrs_eq hd
 obtain ⟨i0, g0⟩ := fil_head hne
 have key : ∀ (r m k : Nat), m + r = hrs d + 1 → r < k → s_92_l1 n (filL d) b ⟨d, (i0 : Int), bdI d i0⟩ k (m : Int) = some (firstH (smP d b) r m) := by
  intro r
  induction r with
  | zero =>
   intro m k hm hk
   obtain ⟨k, rfl⟩ : ∃ k', k = k' + 1 := ⟨k - 1, by omega⟩
   rw [s_92_l1, wr_of (x := d.hours + 1) (by omega), decide_eq_false (by omega), cond_false]
   rfl
  | succ r ih =>
   intro m k hm hk
   obtain ⟨k, rfl⟩ : ∃ k', k = k' + 1 := ⟨k - 1, by omega⟩
   rw [s_92_l1, wr_of (x := d.hours + 1) (by omega), decide_eq_true (by omega), cond_true, p_120 hd hn hb hne (by omega), Option.bind_some, wr_of (by omega), firstH]
   have := ih (m + 1) k (by omega) (by omega)
   push_cast at this
   rw [this]
   show (bif smP d b m then _ else _) = _
   cases smP d b m <;> rfl
 unfold s_92
 rw [g0, Option.bind_some]
 exact key (hrs d + 1) 0 n (by omega) (by omega)
theorem p_93 (hd : d.ok) (hn : 100 ≤ n) (hb : b.ok) (hne : idx d ≠ []) : s_93 n (filL d) b = some (lastH (thP d b) (hrs d + 1)) := by
 have hhr := hrs_le hd
 have hH := hrs_eq hd
 obtain ⟨i0, g0⟩ := fil_head hne
 have key : ∀ (m k : Nat), m ≤ hrs d + 1 → m < k → s_93_l1 n (filL d) b k ((m : Int) - 1) = some (lastH (thP d b) m) := by
  intro m
  induction m with
  | zero =>
   intro k hm hk
   obtain ⟨k, rfl⟩ : ∃ k', k = k' + 1 := ⟨k - 1, by omega⟩
   rw [s_93_l1, decide_eq_false (by omega), cond_false]
   rfl
  | succ m ih =>
   intro k hm hk
   obtain ⟨k, rfl⟩ : ∃ k', k = k' + 1 := ⟨k - 1, by omega⟩
   have e0 : (((m + 1 : Nat) : Int) - 1) = (m : Int) := by omega
   rw [s_93_l1, e0, decide_eq_true (by omega), cond_true, p_120 hd hn hb hne (by omega), Option.bind_some, wr_of (by omega), lastH, ih k (by omega) (by omega)]
   show (bif thP d b m then _ else _) = _
   cases thP d b m <;> rfl
 unfold s_93
 rw [g0, Option.bind_some]
 have := key (hrs d + 1) n (by omega) (by omega)
 rw [show (((hrs d + 1 : Nat) : Int) - 1) = d.hours by omega] at this
 exact this
theorem err_zero {fine : Bool} (he : err d fine = 0) : okD d = true ∧ fine = true ∧ idx d ≠ [] := by
 unfold err at he
 cases h : okD d <;> cases h2 : fine <;> rw [h, h2] at he <;> simp at he
 refine ⟨rfl, rfl, fun h3 => ?_⟩
 rw [h3] at he
 simp at he
end
end Go.Proofs.YtohmhlkdgfcaeaaGreatDoor
namespace Go.Proofs.YtohmhlkdgfcaeaaGreatDoor
open Go Go.RowKit
theorem loop_app {α β γ : Type} (l : List α) (f : Nat → α → Option β) (g : α → β) (hf : ∀ i x, l[i]? = some x → f i x = some (g x)) (L : Nat → Int → List β → Option γ) (fin : List β → Option γ)
  (h : ∀ (k i : Nat) (s : List β), L (k + 1) (i : Int) s = bif decide ((i : Int) < ((l.length : Nat) : Int)) then (ix l (i : Int)).bind (fun x => (f i x).bind fun y => (app s [y]).bind fun s' => L k (wr ((i : Int) + 1)) s') else fin s)
  (hl : l.length ≤ 1000) {n : Nat} (hn : l.length < n) : L n 0 [] = fin (l.map g) := by
 have h1 := loop_list l L (fun i x s K => (f i x).bind fun y => (app s [y]).bind fun s' => K s') fin h (by omega) n 0 [] (by omega) (by omega)
 rw [show ((0 : Nat) : Int) = 0 from rfl] at h1
 rw [h1]
 have key : ∀ (r : List α) (i : Nat) (s : List β), l.drop i = r → s.length ≤ i → fc (fun i x s K => (f i x).bind fun y => (app s [y]).bind fun s' => K s') fin i r s = fin (s ++ r.map g) := by
  intro r
  induction r with
  | nil => intro i s _ _; simp [fc]
  | cons x r ih =>
   intro i s hi hs
   have hil : i < l.length := by
    rcases Nat.lt_or_ge i l.length with h | h
    ·exact h
    ·rw [List.drop_eq_nil_of_le h] at hi; cases hi
   rw [List.drop_eq_getElem_cons hil] at hi
   obtain ⟨hx, hr⟩ := List.cons.inj hi
   rw [fc, hf i x (by rw [List.getElem?_eq_getElem hil, hx]), Option.bind_some, app_of (by simp; omega), Option.bind_some, ih (i + 1) _ hr (by simp; omega)]
   simp
 rw [List.drop_zero]
 simpa using key l 0 [] (by simp) (by simp)
end Go.Proofs.YtohmhlkdgfcaeaaGreatDoor
namespace Go.Proofs.YtohmhlkdgfcaeaaGreatDoor
open Go Go.RowKit
section
variable {n : Nat} {d : Drum} {tr : Truth}
theorem err_of_ok (hok : okD d = true) : err d true = 0 ∨ err d true = 7 := by
 unfold err
 rw [hok]
 cases (idx d).isEmpty
 ·exact .inl rfl
 ·exact .inr rfl
end
end Go.Proofs.YtohmhlkdgfcaeaaGreatDoor
namespace Go.Proofs.YtohmhlkdgfcaeaaGreatDoor
open Go Go.RowKit
theorem lastH_spec (p : Nat → Bool) : ∀ (m : Nat), 0 ≤ lastH p m → p (lastH p m).toNat = true ∧ (lastH p m).toNat < m ∧ ∀ i : Nat, lastH p m < (i : Int) → i < m → p i = false := by
 intro m
 induction m with
 | zero => intro h; simp [lastH] at h
 | succ m ih =>
  intro h
  rcases Bool.eq_false_or_eq_true (p m) with hp | hp
  ·have e : lastH p (m + 1) = (m : Int) := by rw [lastH, hp, cond_true]
   rw [e]
   exact ⟨by simpa using hp, by simp, fun i h1 h2 => by omega⟩
  ·have e : lastH p (m + 1) = lastH p m := by rw [lastH, hp, cond_false]
   rw [e] at h ⊢
   obtain ⟨q1, q2, q3⟩ := ih h
   refine ⟨q1, by omega, fun i h1 h2 => ?_⟩
   by_cases e : i = m
   ·subst e; exact hp
   ·exact q3 i h1 (by omega)
end Go.Proofs.YtohmhlkdgfcaeaaGreatDoor
namespace Go.Proofs.YtohmhlkdgfcaeaaGreatDoor
open Go Go.RowKit
def winP (d : Drum) (b : Batch) : Span := bif decide (firstH (smP d b) (hrs d + 1) 0 < 0) then ⟨1, 0⟩ else ⟨firstH (smP d b) (hrs d + 1) 0, lastH (thP d b) (hrs d + 1)⟩
def wsP (d : Drum) : List Span := d.batches.map (winP d)
section
variable {n : Nat} {d : Drum}
theorem p_98 (hd : d.ok) (hn : 100 ≤ n) (hne : idx d ≠ []) : s_98 n d (filL d) = some ⟨wsP d⟩ := by
 have hbt := hd.btl
 unfold s_98
 refine loop_app d.batches (fun _ b => (s_92 n (filL d) b).bind fun v124 => (s_93 n (filL d) b).bind fun v125 => bif decide (v124 < 0) then s_144 n else some (Span.mk v124 v125)) (winP d) (fun i b hb => ?_) (s_98_l1 n d (filL d)) (fun s => some (Windows.mk s)) (fun k i s => ?_) (by omega) (by omega)
 ·have hb' := hd.bt b (List.mem_of_getElem? hb)
  rw [p_92 hd hn hb' hne, Option.bind_some, p_93 hd hn hb' hne, Option.bind_some]
  unfold winP s_144
  cases decide (firstH (smP d b) (hrs d + 1) 0 < 0) <;> rfl
 ·rw [s_98_l1]
  by_cases hi : i < d.batches.length
  ·have hb' := hd.bt _ (List.getElem_mem hi)
   rw [ix_at (List.getElem?_eq_getElem hi), Option.bind_some, Option.bind_some, p_92 hd hn hb' hne, Option.bind_some, Option.bind_some, p_93 hd hn hb' hne, Option.bind_some, Option.bind_some]
   unfold s_144 s_98_j5
   cases decide (firstH (smP d d.batches[i]) (hrs d + 1) 0 < 0) <;> rfl
  ·have e1 : decide ((i : Int) < ((d.batches.length : Nat) : Int)) = false := decide_eq_false (by omega)
   rw [e1, cond_false, cond_false]
theorem p_100 (n : Nat) (w : List Span) (hw : w.length ≤ 6) : s_100 n ⟨w⟩ = some (2 ^ w.length - 1) := by
 have hpv := pow_bound (i := w.length) hw
 unfold s_100
 have hshl : shl .i64 1 ((List.length w : Nat) : Int) = some (2 ^ w.length) := by
  unfold shl
  rw [show decide ((0 : Int) ≤ ((List.length w : Nat) : Int)) = true from decide_eq_true (by omega), cond_true]
  have hm : min ((List.length w : Nat) : Int).toNat IntKind.i64.bits = w.length := by
   show min w.length 64 = w.length
   omega
  rw [hm, Int.one_mul]
  exact congrArg some (wr_of (by omega))
 rw [hshl, Option.bind_some, wr_of (by omega)]
theorem hasB_full : ∀ m, m < 6 → ∀ i, i < m → hasB (2 ^ m - 1) i = true := by decide
end
end Go.Proofs.YtohmhlkdgfcaeaaGreatDoor
namespace Go.Proofs.YtohmhlkdgfcaeaaGreatDoor
open Go Go.RowKit
def pickF (set : Int) : Nat → List Span → List Span
 | _, [] => []
 | i, s :: r => if hasB set i = true then s :: pickF set (i + 1) r else pickF set (i + 1) r
def com (w : List Span) (set : Int) : Span := capL ⟨0, 12⟩ (pickF set 0 w)
theorem and_one6 : ∀ x : Nat, x < 64 → bits .and .i64 (x : Int) 1 = (x : Int) % 2 := by decide
section
variable {n : Nat} {d : Drum} {b : Batch}
theorem p_145w {set : Int} {i : Nat} (hi : i ≤ 6) (h0 : 0 ≤ set) (h1 : set ≤ 63) : s_145 n set i = some (hasB set i) := by
 unfold s_145
 have hp := pow_bound hi
 have e1 : shr .i64 set (i : Int) = some (set / 2 ^ i) := by
  unfold shr
  rw [show decide ((0 : Int) ≤ (i : Int)) = true from decide_eq_true (by omega), cond_true]
  have hm : min ((i : Nat) : Int).toNat IntKind.i64.bits = i := by
   show min i 64 = i
   omega
  rw [hm, Int.fdiv_eq_ediv_of_nonneg _ (by omega)]
 rw [e1, Option.bind_some, hasB]
 have h3 : 0 ≤ set / 2 ^ i := Int.ediv_nonneg h0 (by omega)
 have h4 : set / 2 ^ i ≤ set := Int.ediv_le_self _ h0
 obtain ⟨x, hx⟩ := Int.eq_ofNat_of_zero_le h3
 rw [hx, and_one6 x (by omega)]
theorem common_pick (set : Int) : ∀ (w : List Span) (i : Nat) (o : Span), commonFrom (w.map spanP) set i (o.low, o.high) = spanP (capL o (pickF set i w)) := by
 intro w
 induction w with
 | nil => intro i o; rfl
 | cons s r ih =>
  intro i o
  have e : setHas set i = hasB set i := by
   unfold setHas hasB
   rw [Bool.eq_iff_iff]
   simp
  rw [List.map_cons, commonFrom, e, pickF]
  by_cases h : hasB set i = true
  ·rw [if_pos h, if_pos h]
   exact ih (i + 1) (cap o s)
  ·rw [if_neg h, if_neg h]
   exact ih (i + 1) o
theorem p_102 (hn : 100 ≤ n) (w : List Span) (hw : w.length ≤ 6) {set : Int} (h0 : 0 ≤ set) (h1 : set ≤ 63) : s_102 n ⟨w⟩ set = some (com w set) := by
 have e : s_102m n ⟨w⟩ set = some (com w set) := by
  unfold s_102m
  have h1 := loop_list w (s_102m_l1 n ⟨w⟩ set) (fun i x s K => bif hasB set i then K (cap s x) else K s) (fun s => some s) (fun k i s => by
   rw [s_102m_l1]
   by_cases hi : i < w.length
   ·rw [ix_at (List.getElem?_eq_getElem hi), Option.bind_some, Option.bind_some, p_145w (by omega) h0 h1, Option.bind_some]
    rfl
   ·have e1 : decide ((i : Int) < ((w.length : Nat) : Int)) = false := decide_eq_false (by omega)
    simp only [e1, cond_false]) (by omega) n 0 ⟨0, 12⟩ (by omega) (by omega)
  rw [show ((0 : Nat) : Int) = 0 from rfl, List.drop_zero] at h1
  rw [h1]
  have key : ∀ (l : List Span) (i : Nat) (s : Span), fc (fun i x s K => bif hasB set i then K (cap s x) else K s) (fun s => some s) i l s = some (capL s (pickF set i l)) := by
   intro l
   induction l with
   | nil => intro i s; rfl
   | cons x r ih =>
    intro i s
    rw [fc, pickF]
    by_cases h : hasB set i = true
    ·rw [h, cond_true, if_pos rfl, ih]; rfl
    ·have h' : hasB set i = false := by simpa using h
     rw [h', cond_false, if_neg (by simp), ih]
  exact key w 0 _
 unfold s_102
 rw [e, Option.bind_some]
 have hc := common_pick set w 0 ⟨0, 12⟩
 have hcm : commonOf (w.map spanP) set = spanP (com w set) := hc
 simp only [hcm, decide_true, cond_true]
theorem p_99 (hn : 100 ≤ n) (w : List Span) (hw : w.length ≤ 6) {set : Int} (h0 : 0 ≤ set) (h1 : set ≤ 63) : s_99 n ⟨w⟩ set = some (decide (com w set).ne) := by
 unfold s_99
 rw [p_102 hn w hw h0 h1]
 rfl
theorem pickF_full : ∀ (w : List Span) (m i : Nat), m < 6 → i + w.length = m → pickF (2 ^ m - 1) i w = w := by
 intro w
 induction w with
 | nil => intro m i _ _; rfl
 | cons s r ih =>
  intro m i hm hi
  simp only [List.length_cons] at hi
  rw [pickF, if_pos (hasB_full m hm i (by omega)), ih m (i + 1) hm (by omega)]
theorem com_full (w : List Span) (hw : w.length < 6) : com w (2 ^ w.length - 1) = comm w := by
 unfold com comm
 rw [pickF_full w w.length 0 hw (by omega)]
theorem wsP_len : (wsP d).length = d.batches.length := by simp [wsP]
theorem p_46 (hn : 100 ≤ n) (hs : Short d) : s_46 n d = some (bif decide (err d true = 0) then (bif decide (comm (wsP d)).ne then (comm (wsP d), 0) else (⟨0, 0⟩, 5)) else (⟨0, 0⟩, err d true)) := by
 unfold s_46
 rw [p_84 hn hs, Option.bind_some]
 by_cases he : err d true = 0
 ·obtain ⟨h1, _, hne⟩ := err_zero he
  have hd := okD_iff.1 h1
  have hbt := hd.btl
  have hl : (wsP d).length ≤ 6 := by rw [wsP_len]; omega
  have hpv := pow_bound (i := (wsP d).length) hl
  simp only [he, decide_true, Bool.not_true, cond_false, cond_true]
  rw [p_98 hd hn hne, Option.bind_some, p_100 n _ hl, Option.bind_some, p_99 hn _ hl (by omega) (by omega), Option.bind_some, Option.bind_some, p_102 hn _ hl (by omega) (by omega), Option.bind_some, com_full _ (by rw [wsP_len]; omega)]
  cases decide (comm (wsP d)).ne <;> rfl
 ·simp only [decide_eq_false he, Bool.not_false, cond_true, cond_false]
end
end Go.Proofs.YtohmhlkdgfcaeaaGreatDoor
namespace Go.Proofs.YtohmhlkdgfcaeaaGreatDoor
open Go Go.RowKit
section
variable {n : Nat} {d : Drum} {tr : Truth}
theorem mem_ne {s : Span} {x : Int} (h : s.mem x) : s.ne := by unfold Span.mem Span.ne at *; omega
end
end Go.Proofs.YtohmhlkdgfcaeaaGreatDoor
namespace Go.Proofs.YtohmhlkdgfcaeaaGreatDoor
open Go Go.RowKit
section
variable {α : Type} (lt : α → α → Bool)
def least : α → List α → α
 | x, [] => x
 | x, y :: r => least (bif lt y x then y else x) r
theorem least_mem : ∀ (l : List α) (x : α), least lt x l = x ∨ least lt x l ∈ l := by
 intro l
 induction l with
 | nil => intro x; exact .inl rfl
 | cons y r ih =>
  intro x
  rw [least]
  cases lt y x
  ·rw [cond_false]
   rcases ih x with h | h
   ·exact .inl h
   ·exact .inr (List.mem_cons_of_mem _ h)
  ·rw [cond_true]
   rcases ih y with h | h
   ·exact .inr (by rw [h]; exact List.mem_cons_self)
   ·exact .inr (List.mem_cons_of_mem _ h)
theorem least_le (htr : ∀ a b c, lt a b = true → lt b c = true → lt a c = true) (htot : ∀ a b, a ≠ b → lt a b = true ∨ lt b a = true) : ∀ (l : List α) (x : α), ∀ y, (y = x ∨ y ∈ l) → y = least lt x l ∨ lt (least lt x l) y = true := by
 intro l
 induction l with
 | nil =>
  intro x y hy
  rcases hy with rfl | hy
  ·exact .inl rfl
  ·cases hy
 | cons z r ih =>
  intro x y hy
  rw [least]
  have hb : ∀ w, (w = x ∨ w = z) → w = (bif lt z x then z else x) ∨ lt (bif lt z x then z else x) w = true := by
   intro w hw
   rcases Bool.eq_false_or_eq_true (lt z x) with hc | hc
   ·rw [hc, cond_true]
    rcases hw with rfl | rfl
    ·exact .inr hc
    ·exact .inl rfl
   ·rw [hc, cond_false]
    rcases hw with rfl | rfl
    ·exact .inl rfl
    ·by_cases e : w = x
     ·exact .inl e
     ·rcases htot w x e with h | h
      ·rw [hc] at h; cases h
      ·exact .inr h
  have key : ∀ w, (w = (bif lt z x then z else x) ∨ lt (bif lt z x then z else x) w = true) → w = least lt (bif lt z x then z else x) r ∨ lt (least lt (bif lt z x then z else x) r) w = true := by
   intro w hw
   have h1 := ih (bif lt z x then z else x) _ (.inl rfl)
   rcases hw with rfl | hw
   ·exact h1
   ·rcases h1 with h1 | h1
    ·rw [← h1]; exact .inr hw
    ·exact .inr (htr _ _ _ h1 hw)
  rcases hy with rfl | hy
  ·exact key _ (hb _ (.inl rfl))
  ·rcases List.mem_cons.1 hy with rfl | hy
   ·exact key _ (hb _ (.inr rfl))
   ·exact ih _ y (.inr hy)
theorem least_head (htr : ∀ a b c, lt a b = true → lt b c = true → lt a c = true) (hir : ∀ a, lt a a = false) (htot : ∀ a b, a ≠ b → lt a b = true ∨ lt b a = true) {x y : α} {l r : List α} (hmem : ∀ z, (z = x ∨ z ∈ l) ↔ (z = y ∨ z ∈ r)) (hs : ∀ z ∈ r, lt y z = true) : least lt x l = y := by
 have h1 := least_le lt htr htot l x y ((hmem y).2 (.inl rfl))
 rcases h1 with h1 | h1
 ·exact h1.symm
 ·exfalso
  have h2 : least lt x l = x ∨ least lt x l ∈ l := least_mem lt l x
  rcases (hmem _).1 h2 with h3 | h3
  ·rw [h3, hir] at h1; cases h1
  ·have := htr _ _ _ (hs _ h3) h1
   rw [hir] at this
   cases this
end
end Go.Proofs.YtohmhlkdgfcaeaaGreatDoor
namespace Go.Proofs.YtohmhlkdgfcaeaaGreatDoor
open Go Go.RowKit
def lexC : List Int → List Int → Int
 | [], [] => 0
 | [], _ :: _ => -1
 | _ :: _, [] => 1
 | x :: r, y :: s => bif decide (x < y) then -1 else bif decide (y < x) then 1 else lexC r s
theorem lexC_refl : ∀ l : List Int, lexC l l = 0 := by
 intro l
 induction l with
 | nil => rfl
 | cons x r ih => rw [lexC, decide_eq_false (by omega), cond_false, cond_false, ih]
theorem lexC_three : ∀ l m : List Int, (lexC l m = -1 ∧ lexC m l = 1) ∨ (lexC l m = 1 ∧ lexC m l = -1) ∨ (l = m ∧ lexC l m = 0) := by
 intro l
 induction l with
 | nil =>
  intro m
  cases m with
  | nil => exact .inr (.inr ⟨rfl, rfl⟩)
  | cons y s => exact .inl ⟨rfl, rfl⟩
 | cons x r ih =>
  intro m
  cases m with
  | nil => exact .inr (.inl ⟨rfl, rfl⟩)
  | cons y s =>
   rw [lexC, lexC]
   by_cases h1 : x < y
   ·rw [decide_eq_true h1, decide_eq_false (show ¬ y < x by omega)]
    exact .inl ⟨rfl, rfl⟩
   ·by_cases h2 : y < x
    ·rw [decide_eq_false h1, decide_eq_true h2]
     exact .inr (.inl ⟨rfl, rfl⟩)
    ·rw [decide_eq_false h1, decide_eq_false h2]
     simp only [cond_false]
     have e : x = y := by omega
     subst e
     rcases ih s with h | h | ⟨h, h3⟩
     ·exact .inl h
     ·exact .inr (.inl h)
     ·subst h; exact .inr (.inr ⟨rfl, h3⟩)
theorem lexC_trans : ∀ l m q : List Int, lexC l m = -1 → lexC m q = -1 → lexC l q = -1 := by
 intro l
 induction l with
 | nil =>
  intro m q h1 h2
  cases m with
  | nil => cases h1
  | cons y s =>
   cases q with
   | nil => cases h2
   | cons z t => rfl
 | cons x r ih =>
  intro m q h1 h2
  cases m with
  | nil => cases h1
  | cons y s =>
   cases q with
   | nil => cases h2
   | cons z t =>
    rw [lexC] at h1 h2 ⊢
    by_cases a1 : x < y
    ·by_cases a2 : z < y
     ·rw [decide_eq_false (show ¬ y < z by omega), decide_eq_true a2] at h2
      cases h2
     ·rw [decide_eq_true (show x < z by omega), cond_true]
    ·rw [decide_eq_false a1, cond_false] at h1
     by_cases a3 : y < x
     ·rw [decide_eq_true a3] at h1; cases h1
     ·rw [decide_eq_false a3, cond_false] at h1
      have e : x = y := by omega
      subst e
      by_cases a4 : x < z
      ·rw [decide_eq_true a4, cond_true]
      ·rw [decide_eq_false a4, cond_false] at h2 ⊢
       by_cases a5 : z < x
       ·rw [decide_eq_true a5] at h2; cases h2
       ·rw [decide_eq_false a5, cond_false] at h2 ⊢
        exact ih s t h1 h2
section
variable {n : Nat}
theorem p_129 (hn : 100 ≤ n) (lt : List Int → List Int → Bool) (f : List Int → List Int → Option Bool) (x : List Int) (l : List (List Int)) (hl : l.length + 1 < n) (hl2 : l.length ≤ 10000) (hf : ∀ y z, (y = x ∨ y ∈ l) → (z = x ∨ z ∈ l) → f y z = some (lt y z)) : s_129 n (x :: l) f = some (least lt x l, true) := by
 unfold s_129
 have h1 := loop_list (x :: l) (fun k i s => s_129_l1 f (x :: l) k s i) (fun i y s K => bif decide ((i : Int) = 0) then K y else (f y s).bind fun b => bif b then K y else K s) (fun s => some (s, true)) (fun k i s => by
  simp only
  rw [s_129_l1]
  by_cases hi : i < (x :: l).length
  ·rw [ix_at (List.getElem?_eq_getElem hi)]
   simp only [Option.bind_some, s_129_j4, cond_true]
   rw [show decide ((0 : Int) < (((x :: l).length : Nat) : Int)) = true from decide_eq_true (by simp)]
  ·have e1 : decide ((i : Int) < (((x :: l).length : Nat) : Int)) = false := decide_eq_false (by omega)
   rw [e1, cond_false, cond_false, show decide ((0 : Int) < (((x :: l).length : Nat) : Int)) = true from decide_eq_true (by simp)]) (by simp; omega) n 0 [] (by simp; omega) (by omega)
 rw [show ((0 : Nat) : Int) = 0 from rfl, List.drop_zero] at h1
 refine h1.trans ?_
 rw [fc, show decide (((0 : Nat) : Int) = 0) = true from rfl, cond_true]
 have key : ∀ (r : List (List Int)) (i : Nat) (s : List Int), 0 < i → (∀ y ∈ r, y ∈ l) → (s = x ∨ s ∈ l) → fc (fun i y s K => bif decide ((i : Int) = 0) then K y else (f y s).bind fun b => bif b then K y else K s) (fun s => some (s, true)) i r s = some (least lt s r, true) := by
  intro r
  induction r with
  | nil => intro i s _ _ _; rfl
  | cons y r ih =>
   intro i s hi hr hs
   have hy := hr y List.mem_cons_self
   rw [fc, decide_eq_false (by omega), cond_false, hf y s (.inr hy) hs, Option.bind_some, least]
   cases lt y s
   ·exact ih (i + 1) s (by omega) (fun z hz => hr z (List.mem_cons_of_mem _ hz)) hs
   ·exact ih (i + 1) y (by omega) (fun z hz => hr z (List.mem_cons_of_mem _ hz)) (.inr hy)
 exact key l 1 x (by omega) (fun y hy => hy) (.inl rfl)
theorem p_169 (x y : Int) : s_169 n x y = some (bif decide (x < y) then -1 else bif decide (y < x) then 1 else 0) := by
 unfold s_169
 have e : ∀ z : Int, s_186 n z = some false := fun z => by unfold s_186; simp
 rw [e, e]
 simp only [Option.bind_some, cond_false]
 cases decide (x < y) <;> cases decide (y < x) <;> rfl
theorem p_133 (hn : 100 ≤ n) (l m : List Int) (hl : l.length ≤ 50) : s_133 n l m = some (lexC l m) := by
 unfold s_133
 have h1 := loop_list l (fun k i (_ : Unit) => s_133_l1 n l m k i) (fun i x s K => bif decide (((m.length : Nat) : Int) ≤ (i : Int)) then some 1 else (ix m (i : Int)).bind fun y => bif decide (x < y) then some (-1) else bif decide (y < x) then some 1 else K s) (fun _ => bif decide (((l.length : Nat) : Int) < ((m.length : Nat) : Int)) then some (-1) else some 0) (fun k i s => by
  simp only
  rw [s_133_l1]
  by_cases hi : i < l.length
  ·rw [ix_at (List.getElem?_eq_getElem hi)]
   simp only [Option.bind_some, p_169]
   congr 2
   congr 1
   funext y
   by_cases h1 : l[i] < y
   ·rw [decide_eq_true h1]; rfl
   ·rw [decide_eq_false h1]
    by_cases h2 : y < l[i]
    ·rw [decide_eq_true h2]; rfl
    ·rw [decide_eq_false h2]; rfl
  ·have e1 : decide ((i : Int) < ((l.length : Nat) : Int)) = false := decide_eq_false (by omega)
   rw [e1, cond_false, cond_false]) (by omega) n 0 () (by omega) (by omega)
 rw [show ((0 : Nat) : Int) = 0 from rfl, List.drop_zero] at h1
 refine h1.trans ?_
 have key : ∀ (r : List Int) (i : Nat), l.drop i = r → i ≤ l.length → i ≤ m.length → fc (σ := Unit) (fun i x s K => bif decide (((m.length : Nat) : Int) ≤ (i : Int)) then some 1 else (ix m (i : Int)).bind fun y => bif decide (x < y) then some (-1) else bif decide (y < x) then some 1 else K s) (fun _ => bif decide (((l.length : Nat) : Int) < ((m.length : Nat) : Int)) then some (-1) else some 0) i r () = some (lexC r (m.drop i)) := by
  intro r
  induction r with
  | nil =>
   intro i hi h2 h3
   have hil : l.length ≤ i := List.drop_eq_nil_iff.1 hi
   rw [fc]
   by_cases h : l.length < m.length
   ·rw [decide_eq_true (by omega), cond_true, List.drop_eq_getElem_cons (show i < m.length by omega)]
    rfl
   ·rw [decide_eq_false (by omega), cond_false, List.drop_eq_nil_of_le (by omega)]
    rfl
  | cons x r ih =>
   intro i hi h2 h3
   have hil : i < l.length := by
    rcases Nat.lt_or_ge i l.length with h | h
    ·exact h
    ·rw [List.drop_eq_nil_of_le h] at hi; cases hi
   have hr : l.drop (i + 1) = r := by
    rw [List.drop_eq_getElem_cons hil] at hi
    cases hi; rfl
   rw [fc]
   by_cases h : i < m.length
   ·rw [decide_eq_false (by omega), cond_false, ix_at (List.getElem?_eq_getElem h), Option.bind_some, List.drop_eq_getElem_cons h, lexC, ih (i + 1) hr (by omega) (by omega)]
    cases decide (x < m[i]) <;> cases decide (m[i] < x) <;> rfl
   ·rw [decide_eq_true (by omega), cond_true, List.drop_eq_nil_of_le (by omega)]
    rfl
 exact key l 0 rfl (by omega) (by omega)
end
end Go.Proofs.YtohmhlkdgfcaeaaGreatDoor
namespace Go.Proofs.YtohmhlkdgfcaeaaGreatDoor
open Go Go.RowKit
def listsOf (m k : Nat) : List (List Int) := (s_135 1000 0 (m : Int) (k : Int)).getD []
def allLists (m : Nat) : List (List Int) := (List.range (m + 1)).flatMap (listsOf m)
def allSets (m : Nat) : List (List Int) := (List.range (2 ^ m)).map fun (s : Nat) => (s_131 1000 (s : Int)).getD []
def sortedB (lt : List Int → List Int → Bool) : List (List Int) → Bool
 | [] => true
 | x :: r => r.all (lt x) && sortedB lt r
theorem lists_same : ((List.range 6).all fun m => (allLists m).all (fun l => (allSets m).contains l) && (allSets m).all (fun l => (allLists m).contains l)) = true := by kernel_rfl
theorem sorted_filter (lt : List Int → List Int → Bool) (p : List Int → Bool) : ∀ l : List (List Int), sortedB lt l = true → sortedB lt (l.filter p) = true := by
 intro l
 induction l with
 | nil => intro _; rfl
 | cons x r ih =>
  intro h
  rw [sortedB, Bool.and_eq_true, List.all_eq_true] at h
  rw [List.filter_cons]
  cases p x
  ·exact ih h.2
  ·simp only [if_true]
   rw [sortedB, Bool.and_eq_true, List.all_eq_true]
   exact ⟨fun y hy => h.1 y (List.mem_filter.1 hy).1, ih h.2⟩
theorem lists_mem {m : Nat} (hm : m < 6) (z : List Int) : z ∈ allSets m ↔ z ∈ allLists m := by
 have h := List.all_eq_true.1 lists_same m (List.mem_range.2 hm)
 rw [Bool.and_eq_true, List.all_eq_true, List.all_eq_true] at h
 constructor
 ·intro hz
  have := h.2 z hz
  simpa using this
 ·intro hz
  have := h.1 z hz
  simpa using this
end Go.Proofs.YtohmhlkdgfcaeaaGreatDoor
namespace Go.Proofs.YtohmhlkdgfcaeaaGreatDoor
open Go Go.RowKit
def memb (s : Nat) : List Int := (s_131 1000 (s : Int)).getD []
def restS (m s : Nat) : Int := bits .andNot .i64 (2 ^ m - 1) (s : Int)
theorem sets_ok : ((List.range 6).all fun m => (List.range (2 ^ m)).all fun s => (s_131 1000 (s : Int)).isSome && (decide ((memb s).length ≤ 50) && (decide (0 ≤ restS m s) && (decide (restS m s ≤ 63) && (List.range m).all fun i => hasB (restS m s) i == !(memb s).any (fun y => decide (y = (i : Int))))))) = true := by kernel_rfl
theorem sets_ok' {m s : Nat} (hm : m < 6) (hs : s < 2 ^ m) : s_131 1000 (s : Int) = some (memb s) ∧ (memb s).length ≤ 50 ∧ (0 ≤ restS m s ∧ restS m s ≤ 63) ∧ ∀ i, i < m → hasB (restS m s) i = !(memb s).any (fun y => decide (y = (i : Int))) := by
 have h := List.all_eq_true.1 (List.all_eq_true.1 sets_ok m (List.mem_range.2 hm)) s (List.mem_range.2 hs)
 simp only [Bool.and_eq_true, decide_eq_true_eq, List.all_eq_true, beq_iff_eq, List.mem_range] at h
 obtain ⟨h1, h2, h3, h4, h5⟩ := h
 obtain ⟨l, hl⟩ := Option.isSome_iff_exists.1 h1
 refine ⟨?_, h2, ⟨h3, h4⟩, h5⟩
 unfold memb
 rw [hl]; rfl
end Go.Proofs.YtohmhlkdgfcaeaaGreatDoor
namespace Go.Proofs.YtohmhlkdgfcaeaaGreatDoor
open Go Go.RowKit
def risB (m : Int) : Int → List Int → Bool
 | _, [] => true
 | p, x :: r => decide (p < x) && (decide (x < m) && risB m x r)
theorem risB_cons {m p x : Int} {r : List Int} : risB m p (x :: r) = true ↔ p < x ∧ x < m ∧ risB m x r = true := by
 rw [risB, Bool.and_eq_true, Bool.and_eq_true, decide_eq_true_eq, decide_eq_true_eq]
theorem risB_len {m : Int} : ∀ (l : List Int) (p : Int), risB m p l = true → -1 ≤ p → p < m → (l.length : Int) + p + 1 ≤ m := by
 intro l
 induction l with
 | nil => intro p _ _ h; simp; omega
 | cons x r ih =>
  intro p h hp hm
  obtain ⟨h1, h2, h3⟩ := risB_cons.1 h
  have := ih x h3 (by omega) h2
  simp only [List.length_cons]
  push_cast
  omega
def enumR (m : Nat) : Nat → Int → List (List Int)
 | 0, _ => [[]]
 | k + 1, p => [] :: (List.range m).flatMap fun (x : Nat) => bif decide (p < (x : Int)) then (enumR m k (x : Int)).map ((x : Int) :: ·) else []
theorem enumR_mem {m : Nat} : ∀ (l : List Int) (p : Int) (k : Nat), risB m p l = true → -1 ≤ p → l.length ≤ k → l ∈ enumR m k p := by
 intro l
 induction l with
 | nil =>
  intro p k _ _ _
  cases k with
  | zero => exact List.mem_cons_self
  | succ k => exact List.mem_cons_self
 | cons x r ih =>
  intro p k h hp hk
  obtain ⟨h1, h2, h3⟩ := risB_cons.1 h
  obtain ⟨n, rfl⟩ := Int.eq_ofNat_of_zero_le (show 0 ≤ x by omega)
  obtain ⟨k, rfl⟩ : ∃ k', k = k' + 1 := ⟨k - 1, by simp at hk; omega⟩
  rw [enumR]
  refine List.mem_cons_of_mem _ (List.mem_flatMap.2 ⟨n, List.mem_range.2 (by omega), ?_⟩)
  rw [decide_eq_true h1, cond_true]
  exact List.mem_map_of_mem (ih _ k h3 (by omega) (by simp at hk; omega))
theorem lists_rising : ((List.range 6).all fun m => (allLists m).all fun l => risB m (-1) l && (decide (l.length < m) || decide (l = (List.range m).map (fun (i : Nat) => (i : Int))))) = true := by kernel_rfl
theorem lists_all : ((List.range 6).all fun m => (enumR m 6 (-1)).all fun l => (allLists m).contains l) = true := by kernel_rfl
theorem ris_mem {m : Nat} (hm : m < 6) {l : List Int} : risB m (-1) l = true ↔ l ∈ allLists m := by
 constructor
 ·intro h
  by_cases h0 : m = 0
  ·subst h0
   cases l with
   | nil =>
    have := enumR_mem (m := 0) [] (-1) 6 rfl (by omega) (by simp)
    simpa using List.all_eq_true.1 (List.all_eq_true.1 lists_all 0 (List.mem_range.2 hm)) _ this
   | cons x r =>
    obtain ⟨h1, h2, _⟩ := risB_cons.1 h
    omega
  ·have hl := risB_len l (-1) h (by omega) (by omega)
   have := enumR_mem l (-1) 6 h (by omega) (by omega)
   simpa using List.all_eq_true.1 (List.all_eq_true.1 lists_all m (List.mem_range.2 hm)) _ this
 ·intro h
  have := List.all_eq_true.1 (List.all_eq_true.1 lists_rising m (List.mem_range.2 hm)) l h
  rw [Bool.and_eq_true] at this
  exact this.1
section
variable {n : Nat} {d : Drum}
theorem p_64 (hn : 100 ≤ n) (d : Drum) (l : List Int) (hl : l.length ≤ 50) : s_64 n d l = some (risB d.batches.length (-1) l) := by
 unfold s_64
 have key : ∀ (r : List Int) (i k : Nat) (p : Int), l.drop i = r → i ≤ l.length → l.length < k + i → -1 ≤ p → (i = 0 → p = -1) → (∀ j, i = j + 1 → 0 ≤ p ∧ l[j]? = some p) → s_64_l1 d l k (i : Int) = some (risB d.batches.length p r) := by
  intro r
  induction r with
  | nil =>
   intro i k p hi h2 hk hp h0 h1
   have hil : l.length ≤ i := List.drop_eq_nil_iff.1 hi
   obtain ⟨k, rfl⟩ : ∃ k', k = k' + 1 := ⟨k - 1, by omega⟩
   rw [s_64_l1, decide_eq_false (by omega), cond_false]
   rfl
  | cons x r ih =>
   intro i k p hi h2 hk hp h0 h1
   have hil : i < l.length := by
    rcases Nat.lt_or_ge i l.length with h | h
    ·exact h
    ·rw [List.drop_eq_nil_of_le h] at hi; cases hi
   obtain ⟨k, rfl⟩ : ∃ k', k = k' + 1 := ⟨k - 1, by omega⟩
   rw [List.drop_eq_getElem_cons hil] at hi
   obtain ⟨hx, hr⟩ := List.cons.inj hi
   have hg : l[i]? = some x := by rw [List.getElem?_eq_getElem hil, hx]
   rw [s_64_l1, decide_eq_true (by omega), cond_true, ix_at hg, Option.bind_some, Option.bind_some, risB]
   by_cases c1 : x < 0
   ·rw [decide_eq_true c1, cond_true, decide_eq_false (show ¬ p < x by omega)]
    rfl
   ·rw [decide_eq_false c1, cond_false]
    by_cases c2 : ((d.batches.length : Nat) : Int) ≤ x
    ·rw [decide_eq_true c2, cond_true, decide_eq_false (show ¬ x < ((d.batches.length : Nat) : Int) by omega), Bool.false_and, Bool.and_false]
     rfl
    ·rw [decide_eq_false c2, cond_false, decide_eq_true (show x < ((d.batches.length : Nat) : Int) by omega), Bool.true_and]
     have step : s_64_j13 (s_64_l1 d l k) (i : Int) false = some (risB d.batches.length x r) := by
      unfold s_64_j13
      rw [cond_false, wr_of (by omega)]
      have := ih (i + 1) k x hr (by omega) (by omega) (by omega) (by omega) (fun j hj => by
       obtain rfl : j = i := by omega
       exact ⟨by omega, hg⟩)
      push_cast at this
      exact this
     cases i with
     | zero =>
      have := h0 rfl
      subst this
      rw [decide_eq_false (show ¬ (0 : Int) < ((0 : Nat) : Int) by omega), cond_false, decide_eq_true (show (-1 : Int) < x by omega), Bool.true_and]
      exact step
     | succ j =>
      obtain ⟨hp0, hp1⟩ := h1 j rfl
      rw [decide_eq_true (show (0 : Int) < ((j + 1 : Nat) : Int) by omega), cond_true, Option.bind_some, wr_of (by omega), show (((j + 1 : Nat) : Int) - 1) = ((j : Nat) : Int) by omega, ix_at hp1, Option.bind_some]
      by_cases c3 : x ≤ p
      ·rw [decide_eq_true c3, decide_eq_false (show ¬ p < x by omega)]
       rfl
      ·rw [decide_eq_false c3, decide_eq_true (show p < x by omega), Bool.true_and]
       exact step
 exact key l 0 n (-1) (by simp) (by omega) (by omega) (by omega) (fun _ => rfl) (fun j hj => by omega)
theorem p_66 (hn : 100 ≤ n) (l m : List Int) (hl : l.length ≤ 50) : s_66 n l m = some (decide (lexC l m = -1)) := by
 unfold s_66
 have key : ∀ (r : List Int) (i k : Nat), l.drop i = r → i ≤ l.length → i ≤ m.length → l.length < k + i → s_66_l1 l m k (i : Int) = some (decide (lexC r (m.drop i) = -1)) := by
  intro r
  induction r with
  | nil =>
   intro i k hi h2 h3 hk
   have hil : l.length ≤ i := List.drop_eq_nil_iff.1 hi
   obtain ⟨k, rfl⟩ : ∃ k', k = k' + 1 := ⟨k - 1, by omega⟩
   rw [s_66_l1, decide_eq_false (by omega), cond_false]
   unfold s_66_j4
   rw [cond_false]
   by_cases h : i < m.length
   ·rw [decide_eq_true (by omega), List.drop_eq_getElem_cons h]; rfl
   ·rw [decide_eq_false (by omega), List.drop_eq_nil_of_le (by omega)]; rfl
  | cons y r ih =>
   intro i k hi h2 h3 hk
   have hil : i < l.length := by
    rcases Nat.lt_or_ge i l.length with h | h
    ·exact h
    ·rw [List.drop_eq_nil_of_le h] at hi; cases hi
   obtain ⟨k, rfl⟩ : ∃ k', k = k' + 1 := ⟨k - 1, by omega⟩
   rw [List.drop_eq_getElem_cons hil] at hi
   obtain ⟨hx, hr⟩ := List.cons.inj hi
   rw [s_66_l1, decide_eq_true (by omega), cond_true]
   unfold s_66_j4
   by_cases h : i < m.length
   ·rw [decide_eq_true (by omega), cond_true, ix_at (List.getElem?_eq_getElem hil), ix_at (List.getElem?_eq_getElem h), Option.bind_some, Option.bind_some, Option.bind_some, Option.bind_some, hx, List.drop_eq_getElem_cons h, lexC]
    by_cases e : y = m[i]
    ·rw [decide_eq_true e, Bool.not_true, cond_false, decide_eq_false (show ¬ y < m[i] by omega), decide_eq_false (show ¬ m[i] < y by omega), cond_false, cond_false, wr_of (by omega)]
     have := ih (i + 1) k hr (by omega) (by omega) (by omega)
     push_cast at this
     exact this
    ·rw [decide_eq_false e, Bool.not_false, cond_true]
     by_cases h1 : y < m[i]
     ·rw [decide_eq_true h1]; rfl
     ·rw [decide_eq_false h1, decide_eq_true (show m[i] < y by omega)]; rfl
   ·rw [decide_eq_false (by omega), cond_false, decide_eq_false (by omega), List.drop_eq_nil_of_le (by omega)]
    rfl
 exact key l 0 n (by simp) (by omega) (by omega) (by omega)
theorem ne_zero_err (hok : okD d = true) (he : err d true ≠ 0) : err d true = 7 := by
 rcases err_of_ok hok with h | h
 ·exact absurd h he
 ·exact h
end
end Go.Proofs.YtohmhlkdgfcaeaaGreatDoor
