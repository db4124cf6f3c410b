/- What all claims of this seat share, part 6: the engine, the contracts, the frame. -/
import Derived.Tactics
import Derived.Tactics2
import Derived.Defers
import Derived.Recover
import Derived.Laws.Pointers
import Derived.RangeFuncIn
import Derived.RangeFuncLeaves
import Derived.RangeFuncFrom
import Derived.RangeFuncNested
import Derived.TacticsIn
import Derived.KernelRfl
import Derived.Test.YtohmhlkdgfcaeaaGreatDoorK5
set_option linter.unusedVariables false
set_option linter.unusedSimpArgs false
namespace Go.Proofs.YtohmhlkdgfcaeaaGreatDoor
open Go Go.RowKit
set_option maxRecDepth 4000
attribute [local irreducible] W Ops GS GSG
def s_92_l1 (n : Nat) (v0 : (List Filled)) (v1 : Batch) (v101 : Filled) : Nat → Int → Option (Int)
| 0, _ => none
| k1 + 1, v103 => bif (decide (v103 < (wr (v101.drum.hours + 1)))) then ( (s_120 n v0 v1 v103).bind fun v105 => bif (decide (v105.rough.high ≤ v1.goal)) then ( some (v103) ) else ( (s_92_l1 n v0 v1 v101 k1) (wr (v103 + 1)) ) ) else ( some ((-1)) )
def s_92 (n : Nat) (v0 : (List Filled)) (v1 : Batch) : Option (Int) := (ix v0 0).bind fun v101 => s_92_l1 n v0 v1 v101 n 0
theorem c_92 (n : Nat) (v0 : (List Filled)) (v1 : Batch) {r : (Int)} (h : s_92 n v0 v1 = some r) :
  Fun Tryz.prog 92 [.sl (v0.map cFilled), .agg (cBatch v1)] (.ret (.val (.int .i64 r))) := by
 unfold s_92 at h
 refine enterW 26 Tryz.func92 q q q ?_
 intro w0 F0
 change W _ _ (Ev [(0, .pv (.sl (List.map cFilled v0))), (1, .pv (.agg (cBatch v1)))]) _
 refine W.seq<|W.region<|ob (g_box q q q q q) q q<|va q q q q q<|on0<|Sq.n<|W.seq<|W.seq<|W.region<|vm q q q q q ?_
 obtain ⟨v101, e101, h⟩ := bind_some h
 refine ov (g_idxI (l := v0) (enc := cFilled) e101 q q q q q el_111 q) q<|ov (g_fldR q q q q fl_115_0 q) q<|ov (g_fldR q q q q fl_27_2 q) q<|ov (g_loadR1 q q q q q ag_3) q<|ov (g_add q q q q q) q<|vm q q q q q<|on0<|Sq.n<|W.block<|W.loop (σ := Nat × Int) (fun s => (⟨[(0, .pv (.sl (List.map cFilled v0))), (3, .box 3 0), (11, .pv (.val (.int .i64 (wr (v101.drum.hours + 1))))), (12, .pv (.i s.2))], [(3, 67, [.pv (.i v1.rough), .pv (.i v1.goal), .pv (.i v1.thick), .pv (.i v1.least), .pv (.i v1.polish), .pv (.i v1.eat)])], []⟩ : Env)) (fun s => s_92_l1 n v0 v1 v101 s.1 s.2 = some r) (fun s => s.1) (n, 0) h (has_mk ⟨q, q, q, q, trivial⟩ ⟨q, trivial⟩ trivial q) ?_
 rintro ⟨k1, v103⟩ h
 change s_92_l1 n v0 v1 v101 k1 v103 = some r at h
 rcases k1 with _ | k1
 ·rw [s_92_l1] at h
  cases h
 ·rw [s_92_l1] at h
  change W _ _ (⟨[(0, .pv (.sl (List.map cFilled v0))), (3, .box 3 0), (11, .pv (.val (.int .i64 (wr (v101.drum.hours + 1))))), (12, .pv (.i v103))], [(3, 67, [.pv (.i v1.rough), .pv (.i v1.goal), .pv (.i v1.thick), .pv (.i v1.least), .pv (.i v1.polish), .pv (.i v1.eat)])], []⟩ : Env) _
  refine W.seq<|W.region<|ov (g_lss q q q q q) q<|on0<|Sq.n<|W.seq<|W.cond (b := (decide (v103 < (wr (v101.drum.hours + 1))))) q (fun hc => ?_) (fun hc => ?_)
  ·have h := bif_t h hc
   refine W.skip<|Sq.n<|W.seq<|W.block<|W.seq<|W.region<|vm q q q q q<|va q q q q q<|on0<|Sq.n<|W.seq ?_
   obtain ⟨v105, e105, h⟩ := bind_some h
   refine W.draw (m := 8) Checked.mixed (Pre.v (GSG.of q (g_move q q q q)) ((Pre.v (GSG.of q (g_loadA q q q q q ag_67 sz_67 q q)) ((Pre.v (GSG.of q (g_move q q q q)) ((Pre.v (GSG.of q (g_call q q q ca_120 q (c_120 _ _ _ _ e105))) ((Pre.v (GSG.of q (g_fieldAV q q q q fv_71_0 ag_57 sz_57 q q)) ((Pre.v (GSG.of q (g_field1V q q q q fv_57_1 ag_3 q)) ((Pre.v (GSG.of q (g_fld q q q q fl_67_1)) ((Pre.v (GSG.of q (g_load1 q q q q q q ag_3)) (Pre.nil _)))))))))))))))) (by kernel_rfl)<|ov (g_leq q q q q q) q<|on0<|Sq.n<|W.cond (b := (decide (v105.rough.high ≤ v1.goal))) q (fun hc => ?_) (fun hc => ?_)
   ·have h := bif_t h hc
    refine W.seq<|W.region<|vm q q q q q<|va q q q q q<|on0<|Sq.n<|W.ret<|Bl.r<|Sq.r<|Sq.r<|Bl.r<|Sq.r ?_
    obtain rfl := Option.some.inj h
    exact Fin.r q (.cons (.tmp _ _ q) .nil) q
   ·have h := bif_f h hc
    exact W.skip<|Bl.n<|Sq.n<|W.region<|ov (g_add q q q q q) q<|vm q q q q q<|on0<|Sq.n<|⟨(k1, wr (v103 + 1)), h, Nat.lt_succ_self _, has_mk ⟨q, q, q, q, trivial⟩ ⟨q, trivial⟩ trivial q⟩
  ·have h := bif_f h hc
   refine W.exit<|Sq.e<|Sq.e<|Bl.e<|Sq.n<|W.seq<|W.region<|va q q q q q<|on0<|Sq.n<|W.ret ?_
   obtain rfl := Option.some.inj h
   exact Fin.r q (.cons (.tmp _ _ q) .nil) q
def s_93_l1 (n : Nat) (v0 : (List Filled)) (v1 : Batch) : Nat → Int → Option (Int)
| 0, _ => none
| k1 + 1, v103 => bif (decide (0 ≤ v103)) then ( (s_120 n v0 v1 v103).bind fun v105 => bif (decide (v1.least ≤ v105.thick.low)) then ( some (v103) ) else ( (s_93_l1 n v0 v1 k1) (wr (v103 - 1)) ) ) else ( some ((-1)) )
def s_93 (n : Nat) (v0 : (List Filled)) (v1 : Batch) : Option (Int) := (ix v0 0).bind fun v101 => s_93_l1 n v0 v1 n v101.drum.hours
theorem c_93 (n : Nat) (v0 : (List Filled)) (v1 : Batch) {r : (Int)} (h : s_93 n v0 v1 = some r) :
  Fun Tryz.prog 93 [.sl (v0.map cFilled), .agg (cBatch v1)] (.ret (.val (.int .i64 r))) := by
 unfold s_93 at h
 refine enterW 25 Tryz.func93 q q q ?_
 intro w0 F0
 change W _ _ (Ev [(0, .pv (.sl (List.map cFilled v0))), (1, .pv (.agg (cBatch v1)))]) _
 refine W.seq<|W.region<|ob (g_box q q q q q) q q<|va q q q q q<|on0<|Sq.n<|W.seq<|W.seq<|W.region<|vm q q q q q ?_
 obtain ⟨v101, e101, h⟩ := bind_some h
 refine ov (g_idxI (l := v0) (enc := cFilled) e101 q q q q q el_111 q) q<|ov (g_fldR q q q q fl_115_0 q) q<|ov (g_fldR q q q q fl_27_2 q) q<|ov (g_loadR1 q q q q q ag_3) q<|va q q q q q<|on0<|Sq.n<|W.block<|W.loop (σ := Nat × Int) (fun s => (⟨[(0, .pv (.sl (List.map cFilled v0))), (3, .box 3 0), (5, .pv (.i s.2))], [(3, 67, [.pv (.i v1.rough), .pv (.i v1.goal), .pv (.i v1.thick), .pv (.i v1.least), .pv (.i v1.polish), .pv (.i v1.eat)])], []⟩ : Env)) (fun s => s_93_l1 n v0 v1 s.1 s.2 = some r) (fun s => s.1) (n, v101.drum.hours) h (has_mk ⟨q, q, q, trivial⟩ ⟨q, trivial⟩ trivial q) ?_
 rintro ⟨k1, v103⟩ h
 change s_93_l1 n v0 v1 k1 v103 = some r at h
 rcases k1 with _ | k1
 ·rw [s_93_l1] at h
  cases h
 ·rw [s_93_l1] at h
  change W _ _ (⟨[(0, .pv (.sl (List.map cFilled v0))), (3, .box 3 0), (5, .pv (.i v103))], [(3, 67, [.pv (.i v1.rough), .pv (.i v1.goal), .pv (.i v1.thick), .pv (.i v1.least), .pv (.i v1.polish), .pv (.i v1.eat)])], []⟩ : Env) _
  refine W.seq<|W.seq<|W.region<|vm q q q q q<|ov (g_geq q q q q q) q<|on0<|Sq.n<|W.cond (b := (decide (0 ≤ v103))) q (fun hc => ?_) (fun hc => ?_)
  ·have h := bif_t h hc
   refine W.skip<|Sq.n<|W.seq<|W.block<|W.seq ?_
   obtain ⟨v105, e105, h⟩ := bind_some h
   refine W.draw (m := 8) Checked.mixed (Pre.v (GSG.of q (g_move q q q q)) ((Pre.v (GSG.of q (g_loadA q q q q q ag_67 sz_67 q q)) ((Pre.v (GSG.of q (g_move q q q q)) ((Pre.v (GSG.of q (g_call q q q ca_120 q (c_120 _ _ _ _ e105))) ((Pre.v (GSG.of q (g_fieldAV q q q q fv_71_1 ag_57 sz_57 q q)) ((Pre.v (GSG.of q (g_field1V q q q q fv_57_0 ag_3 q)) ((Pre.v (GSG.of q (g_fld q q q q fl_67_3)) ((Pre.v (GSG.of q (g_load1 q q q q q q ag_3)) (Pre.nil _)))))))))))))))) (by kernel_rfl)<|ov (g_geq q q q q q) q<|on0<|Sq.n<|W.cond (b := (decide (v1.least ≤ v105.thick.low))) q (fun hc => ?_) (fun hc => ?_)
   ·have h := bif_t h hc
    refine W.seq<|W.region<|vm q q q q q<|va q q q q q<|on0<|Sq.n<|W.ret<|Bl.r<|Sq.r<|Sq.r<|Bl.r<|Sq.r ?_
    obtain rfl := Option.some.inj h
    exact Fin.r q (.cons (.tmp _ _ q) .nil) q
   ·have h := bif_f h hc
    exact W.skip<|Bl.n<|Sq.n<|W.region<|vm q q q q q<|ov (g_sub q q q q q) q<|va q q q q q<|on0<|Sq.n<|⟨(k1, wr (v103 - 1)), h, Nat.lt_succ_self _, has_mk ⟨q, q, q, trivial⟩ ⟨q, trivial⟩ trivial q⟩
  ·have h := bif_f h hc
   refine W.exit<|Sq.e<|Sq.e<|Bl.e<|Sq.n<|W.seq<|W.region<|va q q q q q<|on0<|Sq.n<|W.ret ?_
   obtain rfl := Option.some.inj h
   exact Fin.r q (.cons (.tmp _ _ q) .nil) q
def s_124_l1 (n : Nat) (v0 : Windows) : Nat → Int → Option (Bool)
| 0, _ => none
| k1 + 1, v103 => bif (decide (v103 < (v0.own.length : Int))) then ( (shl .i64 1 v103).bind fun v106 => (s_99 n v0 v106).bind fun v107 => bif (!v107) then ( some (false) ) else ( (s_124_l1 n v0 k1) (wr (v103 + 1)) ) ) else ( some (true) )
def s_124 (n : Nat) (v0 : Windows) : Option (Bool) := s_124_l1 n v0 n 0
theorem c_124 (n : Nat) (v0 : Windows) {r : (Bool)} (h : s_124 n v0 = some r) :
  Fun Tryz.prog 124 [.agg (cWindows v0)] (.ret (.b r)) := by
 unfold s_124 at h
 refine enterW 16 Tryz.func124 q q q ?_
 intro w0 F0
 change W _ _ (Ev [(0, .pv (.agg [.sl (List.map cSpan v0.own), .cache (List.map spanP v0.own)]))]) _
 refine W.seq<|W.region<|ob (g_box q q q q q) q q<|va q q q q q<|on0<|Sq.n<|W.seq<|W.seq<|W.region<|ov (g_fld q q q q fl_129_0) q<|ov (g_load1 q q q q q q ag_30) q<|ov (g_lenM (l := v0.own) (enc := cSpan) q ul_30 q q q) q<|vm q q q q q<|on0<|Sq.n<|W.block<|W.loop (σ := Nat × Int) (fun s => (⟨[(1, .box 1 0), (6, .pv (.val (.int .i64 (v0.own.length : Int)))), (7, .pv (.i s.2))], [(1, 129, [.pv (.sl (List.map cSpan v0.own)), .pv (.cache (List.map spanP v0.own))])], []⟩ : Env)) (fun s => s_124_l1 n v0 s.1 s.2 = some r) (fun s => s.1) (n, 0) h (has_mk ⟨q, q, q, trivial⟩ ⟨q, trivial⟩ trivial q) ?_
 rintro ⟨k1, v103⟩ h
 change s_124_l1 n v0 k1 v103 = some r at h
 rcases k1 with _ | k1
 ·rw [s_124_l1] at h
  cases h
 ·rw [s_124_l1] at h
  change W _ _ (⟨[(1, .box 1 0), (6, .pv (.val (.int .i64 (v0.own.length : Int)))), (7, .pv (.i v103))], [(1, 129, [.pv (.sl (List.map cSpan v0.own)), .pv (.cache (List.map spanP v0.own))])], []⟩ : Env) _
  refine W.seq<|W.region<|ov (g_lss q q q q q) q<|on0<|Sq.n<|W.seq<|W.cond (b := (decide (v103 < (v0.own.length : Int)))) q (fun hc => ?_) (fun hc => ?_)
  ·have h := bif_t h hc
   refine W.skip<|Sq.n<|W.seq<|W.block<|W.seq<|W.region<|vm q q q q q<|va q q q q q<|on0<|Sq.n<|W.seq ?_
   obtain ⟨v106, e106, h⟩ := bind_some h
   refine W.draw (m := 3) Checked.mixed (Pre.v (GSG.of q (g_loadA q q q q q ag_129 sz_129 q q)) ((Pre.v (GSG.of q (g_move q q q q)) ((Pre.v (GSG.of q (g_shlI e106 q q q q q)) (Pre.nil _)))))) (by kernel_rfl) ?_
   obtain ⟨v107, e107, h⟩ := bind_some h
   refine ov (g_call q q q ca_99 q (c_99 _ _ _ e107)) q<|ov (g_not q q q q) q<|on0<|Sq.n<|W.cond (b := (!v107)) q (fun hc => ?_) (fun hc => ?_)
   ·have h := bif_t h hc
    refine W.seq<|W.region<|va q q q q q<|on0<|Sq.n<|W.ret<|Bl.r<|Sq.r<|Sq.r<|Bl.r<|Sq.r ?_
    obtain rfl := Option.some.inj h
    exact Fin.r q (.cons (.tmp _ _ q) .nil) q
   ·have h := bif_f h hc
    exact W.skip<|Bl.n<|Sq.n<|W.region<|ov (g_add q q q q q) q<|vm q q q q q<|on0<|Sq.n<|⟨(k1, wr (v103 + 1)), h, Nat.lt_succ_self _, has_mk ⟨q, q, q, trivial⟩ ⟨q, trivial⟩ trivial q⟩
  ·have h := bif_f h hc
   refine W.exit<|Sq.e<|Sq.e<|Bl.e<|Sq.n<|W.seq<|W.region<|va q q q q q<|on0<|Sq.n<|W.ret ?_
   obtain rfl := Option.some.inj h
   exact Fin.r q (.cons (.tmp _ _ q) .nil) q
def s_132 (n : Nat) (v0 : (List Int)) (v1 : (List Int)) : Option (Bool) := bif (decide ((v1.length : Int) < (v0.length : Int))) then ( some (true) ) else ( bif (decide ((v0.length : Int) = (v1.length : Int))) then ( (s_133 n v0 v1).bind fun v101 => some ((decide (v101 < 0))) ) else ( some (false) ) )
theorem c_132 (n : Nat) (v0 : (List Int)) (v1 : (List Int)) {r : (Bool)} (h : s_132 n v0 v1 = some r) :
  Fun Tryz.prog 132 [.sl (v0.map eI), .sl (v1.map eI)] (.ret (.b r)) := by
 unfold s_132 at h
 refine enterW 23 Tryz.func132 q q q ?_
 intro w0 F0
 change W _ _ (Ev [(0, .pv (.sl (List.map eI v0))), (1, .pv (.sl (List.map eI v1)))]) _
 refine W.seq<|W.region<|va q q q q q<|on0<|Sq.n<|W.seq<|W.region<|vm q q q q q<|ov (g_lenM (l := v0) (enc := eI) q ul_23 q q q) q<|vm q q q q q<|ov (g_lenM (l := v1) (enc := eI) q ul_23 q q q) q<|ov (g_gtr q q q q q) q<|vm q q q q q<|Ops.split 10 q (fun hb => ?_) (fun hb => ?_)
 ·have h := bif_t h hb
  refine o2 q q q q q q<|o2 q q q q q q<|o2 q q q q q q<|o2 q q q q q q<|o2 q q q q q q<|o2 q q q q q q<|o2 q q q q q q<|o2 q q q q q q<|o2 q q q q q q<|o2 q q q q q q<|o2 q q q q q q<|vt q q q q q q<|va q q q q q<|on0<|Sq.n<|W.ret ?_
  obtain rfl := Option.some.inj h
  exact Fin.r q (.cons (.tmp _ _ q) .nil) q
 ·have h := bif_f h hb
  refine on q q q<|vm q q q q q<|on q q q<|ov (g_lenM (l := v0) (enc := eI) q ul_23 q q q) q<|on q q q<|vm q q q q q<|on q q q<|ov (g_lenM (l := v1) (enc := eI) q ul_23 q q q) q<|on q q q<|ov (g_eql q q q q q) q<|on q q q<|vm q q q q q<|Ops.split 16 q (fun hb => ?_) (fun hb => ?_)
  ·have h := bif_t h hb
   refine on q q q<|vm q q q q q<|on q q q<|vm q q q q q<|on q q q ?_
   obtain ⟨v101, e101, h⟩ := bind_some h
   refine ov (g_call q q q ca_133 q (c_133 _ _ _ e101)) q<|on q q q<|ov (g_lss q q q q q) q<|on q q q<|vt q q q q q q<|vf q q q q q q<|va q q q q q<|on0<|Sq.n<|W.ret ?_
   obtain rfl := Option.some.inj h
   exact Fin.r q (.cons (.tmp _ _ q) .nil) q
  ·have h := bif_f h hb
   refine o2 q q q q q q<|o2 q q q q q q<|o2 q q q q q q<|o2 q q q q q q<|on q q q<|vf q q q q q q<|vf q q q q q q<|va q q q q q<|on0<|Sq.n<|W.ret ?_
   obtain rfl := Option.some.inj h
   exact Fin.r q (.cons (.tmp _ _ q) .nil) q
def s_137 (n : Nat) (v0 : (List Int)) (v1 : (List Int)) : Option (Bool) := bif (decide ((v0.length : Int) < (v1.length : Int))) then ( some (true) ) else ( bif (decide ((v0.length : Int) = (v1.length : Int))) then ( (s_133 n v0 v1).bind fun v101 => some ((decide (v101 < 0))) ) else ( some (false) ) )
theorem c_137 (n : Nat) (v0 : (List Int)) (v1 : (List Int)) {r : (Bool)} (h : s_137 n v0 v1 = some r) :
  Fun Tryz.prog 137 [.sl (v0.map eI), .sl (v1.map eI)] (.ret (.b r)) := by
 unfold s_137 at h
 refine enterW 23 Tryz.func137 q q q ?_
 intro w0 F0
 change W _ _ (Ev [(0, .pv (.sl (List.map eI v0))), (1, .pv (.sl (List.map eI v1)))]) _
 refine W.seq<|W.region<|va q q q q q<|on0<|Sq.n<|W.seq<|W.region<|vm q q q q q<|ov (g_lenM (l := v0) (enc := eI) q ul_23 q q q) q<|vm q q q q q<|ov (g_lenM (l := v1) (enc := eI) q ul_23 q q q) q<|ov (g_lss q q q q q) q<|vm q q q q q<|Ops.split 10 q (fun hb => ?_) (fun hb => ?_)
 ·have h := bif_t h hb
  refine o2 q q q q q q<|o2 q q q q q q<|o2 q q q q q q<|o2 q q q q q q<|o2 q q q q q q<|o2 q q q q q q<|o2 q q q q q q<|o2 q q q q q q<|o2 q q q q q q<|o2 q q q q q q<|o2 q q q q q q<|vt q q q q q q<|va q q q q q<|on0<|Sq.n<|W.ret ?_
  obtain rfl := Option.some.inj h
  exact Fin.r q (.cons (.tmp _ _ q) .nil) q
 ·have h := bif_f h hb
  refine on q q q<|vm q q q q q<|on q q q<|ov (g_lenM (l := v0) (enc := eI) q ul_23 q q q) q<|on q q q<|vm q q q q q<|on q q q<|ov (g_lenM (l := v1) (enc := eI) q ul_23 q q q) q<|on q q q<|ov (g_eql q q q q q) q<|on q q q<|vm q q q q q<|Ops.split 16 q (fun hb => ?_) (fun hb => ?_)
  ·have h := bif_t h hb
   refine on q q q<|vm q q q q q<|on q q q<|vm q q q q q<|on q q q ?_
   obtain ⟨v101, e101, h⟩ := bind_some h
   refine ov (g_call q q q ca_133 q (c_133 _ _ _ e101)) q<|on q q q<|ov (g_lss q q q q q) q<|on q q q<|vt q q q q q q<|vf q q q q q q<|va q q q q q<|on0<|Sq.n<|W.ret ?_
   obtain rfl := Option.some.inj h
   exact Fin.r q (.cons (.tmp _ _ q) .nil) q
  ·have h := bif_f h hb
   refine o2 q q q q q q<|o2 q q q q q q<|o2 q q q q q q<|o2 q q q q q q<|on q q q<|vf q q q q q q<|vf q q q q q q<|va q q q q q<|on0<|Sq.n<|W.ret ?_
   obtain rfl := Option.some.inj h
   exact Fin.r q (.cons (.tmp _ _ q) .nil) q
def s_104 (n : Nat) (v0 : Drum) : Option (Bool) := (s_87 n (v0.acids.length : Int) 1 4).bind fun v108 => bif v108 then ( (shl .i64 1 (v0.acids.length : Int)).bind fun v109 => (s_87 n v0.known 1 (wr (v109 - 1))).bind fun v110 => bif v110 then ( (s_87 n v0.hours 1 12).bind fun v111 => bif v111 then ( bif (decide ((v0.adds.length : Int) = v0.hours)) then (
 bif (decide ((v0.strips.length : Int) ≤ 6)) then ( (s_87 n (v0.batches.length : Int) 1 5).bind fun v112 => bif v112 then ( (s_146 n v0.acids (fun z0 => s_147 n z0)).bind fun v113 => bif (!v113) then ( (s_121 n v0.adds (fun z0 => s_149 n z0)).bind fun v114 => bif (!v114) then ( (s_95 n v0.strips (fun z0 => s_150 n z0 v0)).bind fun v115 => bif (!v115) then (
 (s_151 n v0.batches (fun z0 => s_152 n z0)).bind fun v116 => some ((!v116)) ) else ( some (false) ) ) else ( some (false) ) ) else ( some (false) ) ) else ( some (false) ) ) else ( some (false) ) ) else ( some (false) ) ) else ( some (false) ) ) else ( some (false) ) ) else ( some (false) )
theorem c_104 (n : Nat) (v0 : Drum) {r : (Bool)} (h : s_104 n v0 = some r) :
  Fun Tryz.prog 104 [.agg (cDrum v0)] (.ret (.b r)) := by
 unfold s_104 at h
 refine enterW 67 Tryz.func104 q q q ?_
 intro w0 F0
 change W _ _ (Ev [(0, .pv (.agg (cDrum v0)))]) _
 refine W.seq<|W.region<|ob (g_box q q q q q) q q<|va q q q q q<|on0<|Sq.n<|W.seq<|W.conv (Conv.freeze (k := 1) (cs := [.sl (List.map cAcid v0.acids), .val (.int .i64 v0.known), .val (.int .i64 v0.hours), .sl (List.map eI v0.adds), .sl (List.map cStrip v0.strips), .sl (List.map cBatch v0.batches)]) q) ?_
 obtain ⟨v108, e108, h⟩ := bind_some h
 rcases Bool.eq_false_or_eq_true (v108) with hb9 | hb9
 ·have h := bif_t h hb9
  obtain ⟨v109, e109, h⟩ := bind_some h
  obtain ⟨v110, e110, h⟩ := bind_some h
  rcases Bool.eq_false_or_eq_true (v110) with hb10 | hb10
  ·have h := bif_t h hb10
   obtain ⟨v111, e111, h⟩ := bind_some h
   rcases Bool.eq_false_or_eq_true (v111) with hb11 | hb11
   ·have h := bif_t h hb11
    rcases Bool.eq_false_or_eq_true ((decide ((v0.adds.length : Int) = v0.hours))) with hb12 | hb12
    ·have h := bif_t h hb12
     rcases Bool.eq_false_or_eq_true ((decide ((v0.strips.length : Int) ≤ 6))) with hb13 | hb13
     ·have h := bif_t h hb13
      obtain ⟨v112, e112, h⟩ := bind_some h
      rcases Bool.eq_false_or_eq_true (v112) with hb14 | hb14
      ·have h := bif_t h hb14
       obtain ⟨v113, e113, h⟩ := bind_some h
       rcases Bool.eq_false_or_eq_true ((!v113)) with hb15 | hb15
       ·have h := bif_t h hb15
        obtain ⟨v114, e114, h⟩ := bind_some h
        rcases Bool.eq_false_or_eq_true ((!v114)) with hb16 | hb16
        ·have h := bif_t h hb16
         refine W.draw (m := 55) Checked.mixed (Pre.v (GSG.of q (g_fldR q q q q fl_27_0 q)) ((Pre.v (GSG.of q (g_loadR1 q q q q q ag_22)) ((Pre.v (GSG.of q (g_lenM (l := v0.acids) (enc := cAcid) q ul_22 q q q)) ((Pre.v (GSG.of q (g_call q q q ca_87 q (c_87 _ _ _ _ e108))) ((Pre.v (GSG.as (GSG.of q (g_move q q q q)) (congrArg (fun b => TV.pv (PV.b b)) hb9)) ((Pre.v (GSG.on q q q (g_fldR q q q q fl_27_1 q)) ((Pre.v (GSG.on q q q (g_loadR1 q q q q q ag_3)) ((Pre.v (GSG.on q q q (g_fldR q q q q fl_27_0 q)) ((Pre.v (GSG.on q q q (g_loadR1 q q q q q ag_22)) ((Pre.v (GSG.on q q q (g_lenM (l := v0.acids) (enc := cAcid) q ul_22 q q q)) ((Pre.v (GSG.on q q q (g_shlI e109 q q q q q)) ((Pre.v (GSG.on q q q (g_sub q q q q q)) ((Pre.v (GSG.on q q q (g_call q q q ca_87 q (c_87 _ _ _ _ e110))) ((Pre.v (GSG.of q (g_pickT q q q q q)) ((Pre.v (GSG.as (GSG.of q (g_move q q q q)) (congrArg (fun b => TV.pv (PV.b b)) hb10)) ((Pre.v (GSG.on q q q (g_fldR q q q q fl_27_2 q)) ((Pre.v (GSG.on q q q (g_loadR1 q q q q q ag_3)) ((Pre.v (GSG.on q q q (g_call q q q ca_87 q (c_87 _ _ _ _ e111))) ((Pre.v (GSG.of q (g_pickT q q q q q)) ((Pre.v (GSG.as (GSG.of q (g_move q q q q)) (congrArg (fun b => TV.pv (PV.b b)) hb11)) ((Pre.v (GSG.on q q q (g_fldR q q q q fl_27_3 q)) ((Pre.v (GSG.on q q q (g_loadR1 q q q q q ag_23)) ((Pre.v (GSG.on q q q (g_lenM (l := v0.adds) (enc := eI) q ul_23 q q q)) ((Pre.v (GSG.on q q q (g_fldR q q q q fl_27_2 q)) ((Pre.v (GSG.on q q q (g_loadR1 q q q q q ag_3)) ((Pre.v (GSG.on q q q (g_eql q q q q q)) ((Pre.v (GSG.of q (g_pickT q q q q q)) ((Pre.v (GSG.as (GSG.of q (g_move q q q q)) (congrArg (fun b => TV.pv (PV.b b)) hb12)) ((Pre.v (GSG.on q q q (g_fldR q q q q fl_27_4 q)) ((Pre.v (GSG.on q q q (g_loadR1 q q q q q ag_24)) ((Pre.v (GSG.on q q q (g_lenM (l := v0.strips) (enc := cStrip) q ul_24 q q q)) ((Pre.v (GSG.on q q q (g_leq q q q q q)) ((Pre.v (GSG.of q (g_pickT q q q q q)) ((Pre.v (GSG.as (GSG.of q (g_move q q q q)) (congrArg (fun b => TV.pv (PV.b b)) hb13)) ((Pre.v (GSG.on q q q (g_fldR q q q q fl_27_5 q)) ((Pre.v (GSG.on q q q (g_loadR1 q q q q q ag_25)) ((Pre.v (GSG.on q q q (g_lenM (l := v0.batches) (enc := cBatch) q ul_25 q q q)) ((Pre.v (GSG.on q q q (g_call q q q ca_87 q (c_87 _ _ _ _ e112))) ((Pre.v (GSG.of q (g_pickT q q q q q)) ((Pre.v (GSG.as (GSG.of q (g_move q q q q)) (congrArg (fun b => TV.pv (PV.b b)) hb14)) ((Pre.v (GSG.on q q q (g_fldR q q q q fl_27_0 q)) ((Pre.v (GSG.on q q q (g_loadR1 q q q q q ag_22)) ((Pre.v (GSG.on q q q (g_call q q q ca_146 q (c_146 _ _ _ ca_147 (fun _ y e => c_147 _ _ e) e113))) ((Pre.v (GSG.on q q q (g_not q q q q)) ((Pre.v (GSG.of q (g_pickT q q q q q)) ((Pre.v (GSG.as (GSG.of q (g_move q q q q)) (congrArg (fun b => TV.pv (PV.b b)) hb15)) ((Pre.v (GSG.on q q q (g_fldR q q q q fl_27_3 q)) ((Pre.v (GSG.on q q q (g_loadR1 q q q q q ag_23)) ((Pre.v (GSG.on q q q (g_call q q q ca_121 q (c_121 _ _ _ ca_149 (fun _ y e => c_149 _ _ e) e114))) ((Pre.v (GSG.on q q q (g_not q q q q)) ((Pre.v (GSG.of q (g_pickT q q q q q)) ((Pre.v (GSG.as (GSG.of q (g_move q q q q)) (congrArg (fun b => TV.pv (PV.b b)) hb16)) ((Pre.v (GSG.on q q q (g_fldR q q q q fl_27_4 q)) ((Pre.v (GSG.on q q q (g_loadR1 q q q q q ag_24)) ((Pre.v (GSG.on q q q (g_makeFunc q q q q q)) (Pre.nil _)))))))))))))))))))))))))))))))))))))))))))))))))))))))))))))))))))))))))))))))))))))))))))))))))))))))))))))) (by kernel_rfl)<|on q q q ?_
         obtain ⟨v115, e115, h⟩ := bind_some h
         refine ov (g_call q q q ca_95 q (c_95 _ _ _ ca_150 (fun _ y e => c_150 _ _ _ e) e115)) q<|on q q q<|ov (g_not q q q q) q<|vt q q q q q q<|vm q q q q q<|Ops.split 61 q (fun hb => ?_) (fun hb => ?_)
         ·have h := bif_t h hb
          refine on q q q<|ov (g_fldR q q q q fl_27_5 q) q<|on q q q<|ov (g_loadR1 q q q q q ag_25) q<|on q q q ?_
          obtain ⟨v116, e116, h⟩ := bind_some h
          refine ov (g_call q q q ca_151 q (c_151 _ _ _ ca_152 (fun _ y e => c_152 _ _ e) e116)) q<|on q q q<|ov (g_not q q q q) q<|vt q q q q q q<|va q q q q q<|on0<|Sq.n<|W.ret ?_
          obtain rfl := Option.some.inj h
          exact Fin.r q (.cons (.tmp _ _ q) .nil) q
         ·have h := bif_f h hb
          refine o2 q q q q q q<|o2 q q q q q q<|o2 q q q q q q<|o2 q q q q q q<|vf q q q q q q<|va q q q q q<|on0<|Sq.n<|W.ret ?_
          obtain rfl := Option.some.inj h
          exact Fin.r q (.cons (.tmp _ _ q) .nil) q
        ·have h := bif_f h hb16
         refine W.draw (m := 55) Checked.mixed (Pre.v (GSG.of q (g_fldR q q q q fl_27_0 q)) ((Pre.v (GSG.of q (g_loadR1 q q q q q ag_22)) ((Pre.v (GSG.of q (g_lenM (l := v0.acids) (enc := cAcid) q ul_22 q q q)) ((Pre.v (GSG.of q (g_call q q q ca_87 q (c_87 _ _ _ _ e108))) ((Pre.v (GSG.as (GSG.of q (g_move q q q q)) (congrArg (fun b => TV.pv (PV.b b)) hb9)) ((Pre.v (GSG.on q q q (g_fldR q q q q fl_27_1 q)) ((Pre.v (GSG.on q q q (g_loadR1 q q q q q ag_3)) ((Pre.v (GSG.on q q q (g_fldR q q q q fl_27_0 q)) ((Pre.v (GSG.on q q q (g_loadR1 q q q q q ag_22)) ((Pre.v (GSG.on q q q (g_lenM (l := v0.acids) (enc := cAcid) q ul_22 q q q)) ((Pre.v (GSG.on q q q (g_shlI e109 q q q q q)) ((Pre.v (GSG.on q q q (g_sub q q q q q)) ((Pre.v (GSG.on q q q (g_call q q q ca_87 q (c_87 _ _ _ _ e110))) ((Pre.v (GSG.of q (g_pickT q q q q q)) ((Pre.v (GSG.as (GSG.of q (g_move q q q q)) (congrArg (fun b => TV.pv (PV.b b)) hb10)) ((Pre.v (GSG.on q q q (g_fldR q q q q fl_27_2 q)) ((Pre.v (GSG.on q q q (g_loadR1 q q q q q ag_3)) ((Pre.v (GSG.on q q q (g_call q q q ca_87 q (c_87 _ _ _ _ e111))) ((Pre.v (GSG.of q (g_pickT q q q q q)) ((Pre.v (GSG.as (GSG.of q (g_move q q q q)) (congrArg (fun b => TV.pv (PV.b b)) hb11)) ((Pre.v (GSG.on q q q (g_fldR q q q q fl_27_3 q)) ((Pre.v (GSG.on q q q (g_loadR1 q q q q q ag_23)) ((Pre.v (GSG.on q q q (g_lenM (l := v0.adds) (enc := eI) q ul_23 q q q)) ((Pre.v (GSG.on q q q (g_fldR q q q q fl_27_2 q)) ((Pre.v (GSG.on q q q (g_loadR1 q q q q q ag_3)) ((Pre.v (GSG.on q q q (g_eql q q q q q)) ((Pre.v (GSG.of q (g_pickT q q q q q)) ((Pre.v (GSG.as (GSG.of q (g_move q q q q)) (congrArg (fun b => TV.pv (PV.b b)) hb12)) ((Pre.v (GSG.on q q q (g_fldR q q q q fl_27_4 q)) ((Pre.v (GSG.on q q q (g_loadR1 q q q q q ag_24)) ((Pre.v (GSG.on q q q (g_lenM (l := v0.strips) (enc := cStrip) q ul_24 q q q)) ((Pre.v (GSG.on q q q (g_leq q q q q q)) ((Pre.v (GSG.of q (g_pickT q q q q q)) ((Pre.v (GSG.as (GSG.of q (g_move q q q q)) (congrArg (fun b => TV.pv (PV.b b)) hb13)) ((Pre.v (GSG.on q q q (g_fldR q q q q fl_27_5 q)) ((Pre.v (GSG.on q q q (g_loadR1 q q q q q ag_25)) ((Pre.v (GSG.on q q q (g_lenM (l := v0.batches) (enc := cBatch) q ul_25 q q q)) ((Pre.v (GSG.on q q q (g_call q q q ca_87 q (c_87 _ _ _ _ e112))) ((Pre.v (GSG.of q (g_pickT q q q q q)) ((Pre.v (GSG.as (GSG.of q (g_move q q q q)) (congrArg (fun b => TV.pv (PV.b b)) hb14)) ((Pre.v (GSG.on q q q (g_fldR q q q q fl_27_0 q)) ((Pre.v (GSG.on q q q (g_loadR1 q q q q q ag_22)) ((Pre.v (GSG.on q q q (g_call q q q ca_146 q (c_146 _ _ _ ca_147 (fun _ y e => c_147 _ _ e) e113))) ((Pre.v (GSG.on q q q (g_not q q q q)) ((Pre.v (GSG.of q (g_pickT q q q q q)) ((Pre.v (GSG.as (GSG.of q (g_move q q q q)) (congrArg (fun b => TV.pv (PV.b b)) hb15)) ((Pre.v (GSG.on q q q (g_fldR q q q q fl_27_3 q)) ((Pre.v (GSG.on q q q (g_loadR1 q q q q q ag_23)) ((Pre.v (GSG.on q q q (g_call q q q ca_121 q (c_121 _ _ _ ca_149 (fun _ y e => c_149 _ _ e) e114))) ((Pre.v (GSG.on q q q (g_not q q q q)) ((Pre.v (GSG.of q (g_pickT q q q q q)) ((Pre.v (GSG.as (GSG.of q (g_move q q q q)) (congrArg (fun b => TV.pv (PV.b b)) hb16)) ((Pre.v (GSG.off2 q q q q q q) ((Pre.v (GSG.off2 q q q q q q) ((Pre.v (GSG.off2 q q q q q q) (Pre.nil _)))))))))))))))))))))))))))))))))))))))))))))))))))))))))))))))))))))))))))))))))))))))))))))))))))))))))))))) (by kernel_rfl)<|o2 q q q q q q<|o2 q q q q q q<|vf q q q q q q<|vm q q q q q<|o2 q q q q q q<|o2 q q q q q q<|o2 q q q q q q<|o2 q q q q q q<|vf q q q q q q<|va q q q q q<|on0<|Sq.n<|W.ret ?_
         obtain rfl := Option.some.inj h
         exact Fin.r q (.cons (.tmp _ _ q) .nil) q
       ·have h := bif_f h hb15
        refine W.draw (m := 55) Checked.mixed (Pre.v (GSG.of q (g_fldR q q q q fl_27_0 q)) ((Pre.v (GSG.of q (g_loadR1 q q q q q ag_22)) ((Pre.v (GSG.of q (g_lenM (l := v0.acids) (enc := cAcid) q ul_22 q q q)) ((Pre.v (GSG.of q (g_call q q q ca_87 q (c_87 _ _ _ _ e108))) ((Pre.v (GSG.as (GSG.of q (g_move q q q q)) (congrArg (fun b => TV.pv (PV.b b)) hb9)) ((Pre.v (GSG.on q q q (g_fldR q q q q fl_27_1 q)) ((Pre.v (GSG.on q q q (g_loadR1 q q q q q ag_3)) ((Pre.v (GSG.on q q q (g_fldR q q q q fl_27_0 q)) ((Pre.v (GSG.on q q q (g_loadR1 q q q q q ag_22)) ((Pre.v (GSG.on q q q (g_lenM (l := v0.acids) (enc := cAcid) q ul_22 q q q)) ((Pre.v (GSG.on q q q (g_shlI e109 q q q q q)) ((Pre.v (GSG.on q q q (g_sub q q q q q)) ((Pre.v (GSG.on q q q (g_call q q q ca_87 q (c_87 _ _ _ _ e110))) ((Pre.v (GSG.of q (g_pickT q q q q q)) ((Pre.v (GSG.as (GSG.of q (g_move q q q q)) (congrArg (fun b => TV.pv (PV.b b)) hb10)) ((Pre.v (GSG.on q q q (g_fldR q q q q fl_27_2 q)) ((Pre.v (GSG.on q q q (g_loadR1 q q q q q ag_3)) ((Pre.v (GSG.on q q q (g_call q q q ca_87 q (c_87 _ _ _ _ e111))) ((Pre.v (GSG.of q (g_pickT q q q q q)) ((Pre.v (GSG.as (GSG.of q (g_move q q q q)) (congrArg (fun b => TV.pv (PV.b b)) hb11)) ((Pre.v (GSG.on q q q (g_fldR q q q q fl_27_3 q)) ((Pre.v (GSG.on q q q (g_loadR1 q q q q q ag_23)) ((Pre.v (GSG.on q q q (g_lenM (l := v0.adds) (enc := eI) q ul_23 q q q)) ((Pre.v (GSG.on q q q (g_fldR q q q q fl_27_2 q)) ((Pre.v (GSG.on q q q (g_loadR1 q q q q q ag_3)) ((Pre.v (GSG.on q q q (g_eql q q q q q)) ((Pre.v (GSG.of q (g_pickT q q q q q)) ((Pre.v (GSG.as (GSG.of q (g_move q q q q)) (congrArg (fun b => TV.pv (PV.b b)) hb12)) ((Pre.v (GSG.on q q q (g_fldR q q q q fl_27_4 q)) ((Pre.v (GSG.on q q q (g_loadR1 q q q q q ag_24)) ((Pre.v (GSG.on q q q (g_lenM (l := v0.strips) (enc := cStrip) q ul_24 q q q)) ((Pre.v (GSG.on q q q (g_leq q q q q q)) ((Pre.v (GSG.of q (g_pickT q q q q q)) ((Pre.v (GSG.as (GSG.of q (g_move q q q q)) (congrArg (fun b => TV.pv (PV.b b)) hb13)) ((Pre.v (GSG.on q q q (g_fldR q q q q fl_27_5 q)) ((Pre.v (GSG.on q q q (g_loadR1 q q q q q ag_25)) ((Pre.v (GSG.on q q q (g_lenM (l := v0.batches) (enc := cBatch) q ul_25 q q q)) ((Pre.v (GSG.on q q q (g_call q q q ca_87 q (c_87 _ _ _ _ e112))) ((Pre.v (GSG.of q (g_pickT q q q q q)) ((Pre.v (GSG.as (GSG.of q (g_move q q q q)) (congrArg (fun b => TV.pv (PV.b b)) hb14)) ((Pre.v (GSG.on q q q (g_fldR q q q q fl_27_0 q)) ((Pre.v (GSG.on q q q (g_loadR1 q q q q q ag_22)) ((Pre.v (GSG.on q q q (g_call q q q ca_146 q (c_146 _ _ _ ca_147 (fun _ y e => c_147 _ _ e) e113))) ((Pre.v (GSG.on q q q (g_not q q q q)) ((Pre.v (GSG.of q (g_pickT q q q q q)) ((Pre.v (GSG.as (GSG.of q (g_move q q q q)) (congrArg (fun b => TV.pv (PV.b b)) hb15)) ((Pre.v (GSG.off2 q q q q q q) ((Pre.v (GSG.off2 q q q q q q) ((Pre.v (GSG.off2 q q q q q q) ((Pre.v (GSG.off2 q q q q q q) ((Pre.v (GSG.of q (g_pickF q q q q q)) ((Pre.v (GSG.of q (g_move q q q q)) ((Pre.v (GSG.off2 q q q q q q) ((Pre.v (GSG.off2 q q q q q q) ((Pre.v (GSG.off2 q q q q q q) (Pre.nil _)))))))))))))))))))))))))))))))))))))))))))))))))))))))))))))))))))))))))))))))))))))))))))))))))))))))))))))) (by kernel_rfl)<|o2 q q q q q q<|o2 q q q q q q<|vf q q q q q q<|vm q q q q q<|o2 q q q q q q<|o2 q q q q q q<|o2 q q q q q q<|o2 q q q q q q<|vf q q q q q q<|va q q q q q<|on0<|Sq.n<|W.ret ?_
        obtain rfl := Option.some.inj h
        exact Fin.r q (.cons (.tmp _ _ q) .nil) q
      ·have h := bif_f h hb14
       refine W.draw (m := 55) Checked.mixed (Pre.v (GSG.of q (g_fldR q q q q fl_27_0 q)) ((Pre.v (GSG.of q (g_loadR1 q q q q q ag_22)) ((Pre.v (GSG.of q (g_lenM (l := v0.acids) (enc := cAcid) q ul_22 q q q)) ((Pre.v (GSG.of q (g_call q q q ca_87 q (c_87 _ _ _ _ e108))) ((Pre.v (GSG.as (GSG.of q (g_move q q q q)) (congrArg (fun b => TV.pv (PV.b b)) hb9)) ((Pre.v (GSG.on q q q (g_fldR q q q q fl_27_1 q)) ((Pre.v (GSG.on q q q (g_loadR1 q q q q q ag_3)) ((Pre.v (GSG.on q q q (g_fldR q q q q fl_27_0 q)) ((Pre.v (GSG.on q q q (g_loadR1 q q q q q ag_22)) ((Pre.v (GSG.on q q q (g_lenM (l := v0.acids) (enc := cAcid) q ul_22 q q q)) ((Pre.v (GSG.on q q q (g_shlI e109 q q q q q)) ((Pre.v (GSG.on q q q (g_sub q q q q q)) ((Pre.v (GSG.on q q q (g_call q q q ca_87 q (c_87 _ _ _ _ e110))) ((Pre.v (GSG.of q (g_pickT q q q q q)) ((Pre.v (GSG.as (GSG.of q (g_move q q q q)) (congrArg (fun b => TV.pv (PV.b b)) hb10)) ((Pre.v (GSG.on q q q (g_fldR q q q q fl_27_2 q)) ((Pre.v (GSG.on q q q (g_loadR1 q q q q q ag_3)) ((Pre.v (GSG.on q q q (g_call q q q ca_87 q (c_87 _ _ _ _ e111))) ((Pre.v (GSG.of q (g_pickT q q q q q)) ((Pre.v (GSG.as (GSG.of q (g_move q q q q)) (congrArg (fun b => TV.pv (PV.b b)) hb11)) ((Pre.v (GSG.on q q q (g_fldR q q q q fl_27_3 q)) ((Pre.v (GSG.on q q q (g_loadR1 q q q q q ag_23)) ((Pre.v (GSG.on q q q (g_lenM (l := v0.adds) (enc := eI) q ul_23 q q q)) ((Pre.v (GSG.on q q q (g_fldR q q q q fl_27_2 q)) ((Pre.v (GSG.on q q q (g_loadR1 q q q q q ag_3)) ((Pre.v (GSG.on q q q (g_eql q q q q q)) ((Pre.v (GSG.of q (g_pickT q q q q q)) ((Pre.v (GSG.as (GSG.of q (g_move q q q q)) (congrArg (fun b => TV.pv (PV.b b)) hb12)) ((Pre.v (GSG.on q q q (g_fldR q q q q fl_27_4 q)) ((Pre.v (GSG.on q q q (g_loadR1 q q q q q ag_24)) ((Pre.v (GSG.on q q q (g_lenM (l := v0.strips) (enc := cStrip) q ul_24 q q q)) ((Pre.v (GSG.on q q q (g_leq q q q q q)) ((Pre.v (GSG.of q (g_pickT q q q q q)) ((Pre.v (GSG.as (GSG.of q (g_move q q q q)) (congrArg (fun b => TV.pv (PV.b b)) hb13)) ((Pre.v (GSG.on q q q (g_fldR q q q q fl_27_5 q)) ((Pre.v (GSG.on q q q (g_loadR1 q q q q q ag_25)) ((Pre.v (GSG.on q q q (g_lenM (l := v0.batches) (enc := cBatch) q ul_25 q q q)) ((Pre.v (GSG.on q q q (g_call q q q ca_87 q (c_87 _ _ _ _ e112))) ((Pre.v (GSG.of q (g_pickT q q q q q)) ((Pre.v (GSG.as (GSG.of q (g_move q q q q)) (congrArg (fun b => TV.pv (PV.b b)) hb14)) ((Pre.v (GSG.off2 q q q q q q) ((Pre.v (GSG.off2 q q q q q q) ((Pre.v (GSG.off2 q q q q q q) ((Pre.v (GSG.off2 q q q q q q) ((Pre.v (GSG.of q (g_pickF q q q q q)) ((Pre.v (GSG.of q (g_move q q q q)) ((Pre.v (GSG.off2 q q q q q q) ((Pre.v (GSG.off2 q q q q q q) ((Pre.v (GSG.off2 q q q q q q) ((Pre.v (GSG.off2 q q q q q q) ((Pre.v (GSG.of q (g_pickF q q q q q)) ((Pre.v (GSG.of q (g_move q q q q)) ((Pre.v (GSG.off2 q q q q q q) ((Pre.v (GSG.off2 q q q q q q) ((Pre.v (GSG.off2 q q q q q q) (Pre.nil _)))))))))))))))))))))))))))))))))))))))))))))))))))))))))))))))))))))))))))))))))))))))))))))))))))))))))))))) (by kernel_rfl)<|o2 q q q q q q<|o2 q q q q q q<|vf q q q q q q<|vm q q q q q<|o2 q q q q q q<|o2 q q q q q q<|o2 q q q q q q<|o2 q q q q q q<|vf q q q q q q<|va q q q q q<|on0<|Sq.n<|W.ret ?_
       obtain rfl := Option.some.inj h
       exact Fin.r q (.cons (.tmp _ _ q) .nil) q
     ·have h := bif_f h hb13
      refine W.draw (m := 55) Checked.mixed (Pre.v (GSG.of q (g_fldR q q q q fl_27_0 q)) ((Pre.v (GSG.of q (g_loadR1 q q q q q ag_22)) ((Pre.v (GSG.of q (g_lenM (l := v0.acids) (enc := cAcid) q ul_22 q q q)) ((Pre.v (GSG.of q (g_call q q q ca_87 q (c_87 _ _ _ _ e108))) ((Pre.v (GSG.as (GSG.of q (g_move q q q q)) (congrArg (fun b => TV.pv (PV.b b)) hb9)) ((Pre.v (GSG.on q q q (g_fldR q q q q fl_27_1 q)) ((Pre.v (GSG.on q q q (g_loadR1 q q q q q ag_3)) ((Pre.v (GSG.on q q q (g_fldR q q q q fl_27_0 q)) ((Pre.v (GSG.on q q q (g_loadR1 q q q q q ag_22)) ((Pre.v (GSG.on q q q (g_lenM (l := v0.acids) (enc := cAcid) q ul_22 q q q)) ((Pre.v (GSG.on q q q (g_shlI e109 q q q q q)) ((Pre.v (GSG.on q q q (g_sub q q q q q)) ((Pre.v (GSG.on q q q (g_call q q q ca_87 q (c_87 _ _ _ _ e110))) ((Pre.v (GSG.of q (g_pickT q q q q q)) ((Pre.v (GSG.as (GSG.of q (g_move q q q q)) (congrArg (fun b => TV.pv (PV.b b)) hb10)) ((Pre.v (GSG.on q q q (g_fldR q q q q fl_27_2 q)) ((Pre.v (GSG.on q q q (g_loadR1 q q q q q ag_3)) ((Pre.v (GSG.on q q q (g_call q q q ca_87 q (c_87 _ _ _ _ e111))) ((Pre.v (GSG.of q (g_pickT q q q q q)) ((Pre.v (GSG.as (GSG.of q (g_move q q q q)) (congrArg (fun b => TV.pv (PV.b b)) hb11)) ((Pre.v (GSG.on q q q (g_fldR q q q q fl_27_3 q)) ((Pre.v (GSG.on q q q (g_loadR1 q q q q q ag_23)) ((Pre.v (GSG.on q q q (g_lenM (l := v0.adds) (enc := eI) q ul_23 q q q)) ((Pre.v (GSG.on q q q (g_fldR q q q q fl_27_2 q)) ((Pre.v (GSG.on q q q (g_loadR1 q q q q q ag_3)) ((Pre.v (GSG.on q q q (g_eql q q q q q)) ((Pre.v (GSG.of q (g_pickT q q q q q)) ((Pre.v (GSG.as (GSG.of q (g_move q q q q)) (congrArg (fun b => TV.pv (PV.b b)) hb12)) ((Pre.v (GSG.on q q q (g_fldR q q q q fl_27_4 q)) ((Pre.v (GSG.on q q q (g_loadR1 q q q q q ag_24)) ((Pre.v (GSG.on q q q (g_lenM (l := v0.strips) (enc := cStrip) q ul_24 q q q)) ((Pre.v (GSG.on q q q (g_leq q q q q q)) ((Pre.v (GSG.of q (g_pickT q q q q q)) ((Pre.v (GSG.as (GSG.of q (g_move q q q q)) (congrArg (fun b => TV.pv (PV.b b)) hb13)) ((Pre.v (GSG.off2 q q q q q q) ((Pre.v (GSG.off2 q q q q q q) ((Pre.v (GSG.off2 q q q q q q) ((Pre.v (GSG.off2 q q q q q q) ((Pre.v (GSG.of q (g_pickF q q q q q)) ((Pre.v (GSG.of q (g_move q q q q)) ((Pre.v (GSG.off2 q q q q q q) ((Pre.v (GSG.off2 q q q q q q) ((Pre.v (GSG.off2 q q q q q q) ((Pre.v (GSG.off2 q q q q q q) ((Pre.v (GSG.of q (g_pickF q q q q q)) ((Pre.v (GSG.of q (g_move q q q q)) ((Pre.v (GSG.off2 q q q q q q) ((Pre.v (GSG.off2 q q q q q q) ((Pre.v (GSG.off2 q q q q q q) ((Pre.v (GSG.off2 q q q q q q) ((Pre.v (GSG.of q (g_pickF q q q q q)) ((Pre.v (GSG.of q (g_move q q q q)) ((Pre.v (GSG.off2 q q q q q q) ((Pre.v (GSG.off2 q q q q q q) ((Pre.v (GSG.off2 q q q q q q) (Pre.nil _)))))))))))))))))))))))))))))))))))))))))))))))))))))))))))))))))))))))))))))))))))))))))))))))))))))))))))))) (by kernel_rfl)<|o2 q q q q q q<|o2 q q q q q q<|vf q q q q q q<|vm q q q q q<|o2 q q q q q q<|o2 q q q q q q<|o2 q q q q q q<|o2 q q q q q q<|vf q q q q q q<|va q q q q q<|on0<|Sq.n<|W.ret ?_
      obtain rfl := Option.some.inj h
      exact Fin.r q (.cons (.tmp _ _ q) .nil) q
    ·have h := bif_f h hb12
     refine W.draw (m := 55) Checked.mixed (Pre.v (GSG.of q (g_fldR q q q q fl_27_0 q)) ((Pre.v (GSG.of q (g_loadR1 q q q q q ag_22)) ((Pre.v (GSG.of q (g_lenM (l := v0.acids) (enc := cAcid) q ul_22 q q q)) ((Pre.v (GSG.of q (g_call q q q ca_87 q (c_87 _ _ _ _ e108))) ((Pre.v (GSG.as (GSG.of q (g_move q q q q)) (congrArg (fun b => TV.pv (PV.b b)) hb9)) ((Pre.v (GSG.on q q q (g_fldR q q q q fl_27_1 q)) ((Pre.v (GSG.on q q q (g_loadR1 q q q q q ag_3)) ((Pre.v (GSG.on q q q (g_fldR q q q q fl_27_0 q)) ((Pre.v (GSG.on q q q (g_loadR1 q q q q q ag_22)) ((Pre.v (GSG.on q q q (g_lenM (l := v0.acids) (enc := cAcid) q ul_22 q q q)) ((Pre.v (GSG.on q q q (g_shlI e109 q q q q q)) ((Pre.v (GSG.on q q q (g_sub q q q q q)) ((Pre.v (GSG.on q q q (g_call q q q ca_87 q (c_87 _ _ _ _ e110))) ((Pre.v (GSG.of q (g_pickT q q q q q)) ((Pre.v (GSG.as (GSG.of q (g_move q q q q)) (congrArg (fun b => TV.pv (PV.b b)) hb10)) ((Pre.v (GSG.on q q q (g_fldR q q q q fl_27_2 q)) ((Pre.v (GSG.on q q q (g_loadR1 q q q q q ag_3)) ((Pre.v (GSG.on q q q (g_call q q q ca_87 q (c_87 _ _ _ _ e111))) ((Pre.v (GSG.of q (g_pickT q q q q q)) ((Pre.v (GSG.as (GSG.of q (g_move q q q q)) (congrArg (fun b => TV.pv (PV.b b)) hb11)) ((Pre.v (GSG.on q q q (g_fldR q q q q fl_27_3 q)) ((Pre.v (GSG.on q q q (g_loadR1 q q q q q ag_23)) ((Pre.v (GSG.on q q q (g_lenM (l := v0.adds) (enc := eI) q ul_23 q q q)) ((Pre.v (GSG.on q q q (g_fldR q q q q fl_27_2 q)) ((Pre.v (GSG.on q q q (g_loadR1 q q q q q ag_3)) ((Pre.v (GSG.on q q q (g_eql q q q q q)) ((Pre.v (GSG.of q (g_pickT q q q q q)) ((Pre.v (GSG.as (GSG.of q (g_move q q q q)) (congrArg (fun b => TV.pv (PV.b b)) hb12)) ((Pre.v (GSG.off2 q q q q q q) ((Pre.v (GSG.off2 q q q q q q) ((Pre.v (GSG.off2 q q q q q q) ((Pre.v (GSG.off2 q q q q q q) ((Pre.v (GSG.of q (g_pickF q q q q q)) ((Pre.v (GSG.of q (g_move q q q q)) ((Pre.v (GSG.off2 q q q q q q) ((Pre.v (GSG.off2 q q q q q q) ((Pre.v (GSG.off2 q q q q q q) ((Pre.v (GSG.off2 q q q q q q) ((Pre.v (GSG.of q (g_pickF q q q q q)) ((Pre.v (GSG.of q (g_move q q q q)) ((Pre.v (GSG.off2 q q q q q q) ((Pre.v (GSG.off2 q q q q q q) ((Pre.v (GSG.off2 q q q q q q) ((Pre.v (GSG.off2 q q q q q q) ((Pre.v (GSG.of q (g_pickF q q q q q)) ((Pre.v (GSG.of q (g_move q q q q)) ((Pre.v (GSG.off2 q q q q q q) ((Pre.v (GSG.off2 q q q q q q) ((Pre.v (GSG.off2 q q q q q q) ((Pre.v (GSG.off2 q q q q q q) ((Pre.v (GSG.of q (g_pickF q q q q q)) ((Pre.v (GSG.of q (g_move q q q q)) ((Pre.v (GSG.off2 q q q q q q) ((Pre.v (GSG.off2 q q q q q q) ((Pre.v (GSG.off2 q q q q q q) (Pre.nil _)))))))))))))))))))))))))))))))))))))))))))))))))))))))))))))))))))))))))))))))))))))))))))))))))))))))))))))) (by kernel_rfl)<|o2 q q q q q q<|o2 q q q q q q<|vf q q q q q q<|vm q q q q q<|o2 q q q q q q<|o2 q q q q q q<|o2 q q q q q q<|o2 q q q q q q<|vf q q q q q q<|va q q q q q<|on0<|Sq.n<|W.ret ?_
     obtain rfl := Option.some.inj h
     exact Fin.r q (.cons (.tmp _ _ q) .nil) q
   ·have h := bif_f h hb11
    refine W.draw (m := 55) Checked.mixed (Pre.v (GSG.of q (g_fldR q q q q fl_27_0 q)) ((Pre.v (GSG.of q (g_loadR1 q q q q q ag_22)) ((Pre.v (GSG.of q (g_lenM (l := v0.acids) (enc := cAcid) q ul_22 q q q)) ((Pre.v (GSG.of q (g_call q q q ca_87 q (c_87 _ _ _ _ e108))) ((Pre.v (GSG.as (GSG.of q (g_move q q q q)) (congrArg (fun b => TV.pv (PV.b b)) hb9)) ((Pre.v (GSG.on q q q (g_fldR q q q q fl_27_1 q)) ((Pre.v (GSG.on q q q (g_loadR1 q q q q q ag_3)) ((Pre.v (GSG.on q q q (g_fldR q q q q fl_27_0 q)) ((Pre.v (GSG.on q q q (g_loadR1 q q q q q ag_22)) ((Pre.v (GSG.on q q q (g_lenM (l := v0.acids) (enc := cAcid) q ul_22 q q q)) ((Pre.v (GSG.on q q q (g_shlI e109 q q q q q)) ((Pre.v (GSG.on q q q (g_sub q q q q q)) ((Pre.v (GSG.on q q q (g_call q q q ca_87 q (c_87 _ _ _ _ e110))) ((Pre.v (GSG.of q (g_pickT q q q q q)) ((Pre.v (GSG.as (GSG.of q (g_move q q q q)) (congrArg (fun b => TV.pv (PV.b b)) hb10)) ((Pre.v (GSG.on q q q (g_fldR q q q q fl_27_2 q)) ((Pre.v (GSG.on q q q (g_loadR1 q q q q q ag_3)) ((Pre.v (GSG.on q q q (g_call q q q ca_87 q (c_87 _ _ _ _ e111))) ((Pre.v (GSG.of q (g_pickT q q q q q)) ((Pre.v (GSG.as (GSG.of q (g_move q q q q)) (congrArg (fun b => TV.pv (PV.b b)) hb11)) ((Pre.v (GSG.off2 q q q q q q) ((Pre.v (GSG.off2 q q q q q q) ((Pre.v (GSG.off2 q q q q q q) ((Pre.v (GSG.off2 q q q q q q) ((Pre.v (GSG.off2 q q q q q q) ((Pre.v (GSG.off2 q q q q q q) ((Pre.v (GSG.of q (g_pickF q q q q q)) ((Pre.v (GSG.of q (g_move q q q q)) ((Pre.v (GSG.off2 q q q q q q) ((Pre.v (GSG.off2 q q q q q q) ((Pre.v (GSG.off2 q q q q q q) ((Pre.v (GSG.off2 q q q q q q) ((Pre.v (GSG.of q (g_pickF q q q q q)) ((Pre.v (GSG.of q (g_move q q q q)) ((Pre.v (GSG.off2 q q q q q q) ((Pre.v (GSG.off2 q q q q q q) ((Pre.v (GSG.off2 q q q q q q) ((Pre.v (GSG.off2 q q q q q q) ((Pre.v (GSG.of q (g_pickF q q q q q)) ((Pre.v (GSG.of q (g_move q q q q)) ((Pre.v (GSG.off2 q q q q q q) ((Pre.v (GSG.off2 q q q q q q) ((Pre.v (GSG.off2 q q q q q q) ((Pre.v (GSG.off2 q q q q q q) ((Pre.v (GSG.of q (g_pickF q q q q q)) ((Pre.v (GSG.of q (g_move q q q q)) ((Pre.v (GSG.off2 q q q q q q) ((Pre.v (GSG.off2 q q q q q q) ((Pre.v (GSG.off2 q q q q q q) ((Pre.v (GSG.off2 q q q q q q) ((Pre.v (GSG.of q (g_pickF q q q q q)) ((Pre.v (GSG.of q (g_move q q q q)) ((Pre.v (GSG.off2 q q q q q q) ((Pre.v (GSG.off2 q q q q q q) ((Pre.v (GSG.off2 q q q q q q) (Pre.nil _)))))))))))))))))))))))))))))))))))))))))))))))))))))))))))))))))))))))))))))))))))))))))))))))))))))))))))))) (by kernel_rfl)<|o2 q q q q q q<|o2 q q q q q q<|vf q q q q q q<|vm q q q q q<|o2 q q q q q q<|o2 q q q q q q<|o2 q q q q q q<|o2 q q q q q q<|vf q q q q q q<|va q q q q q<|on0<|Sq.n<|W.ret ?_
    obtain rfl := Option.some.inj h
    exact Fin.r q (.cons (.tmp _ _ q) .nil) q
  ·have h := bif_f h hb10
   refine W.draw (m := 55) Checked.mixed (Pre.v (GSG.of q (g_fldR q q q q fl_27_0 q)) ((Pre.v (GSG.of q (g_loadR1 q q q q q ag_22)) ((Pre.v (GSG.of q (g_lenM (l := v0.acids) (enc := cAcid) q ul_22 q q q)) ((Pre.v (GSG.of q (g_call q q q ca_87 q (c_87 _ _ _ _ e108))) ((Pre.v (GSG.as (GSG.of q (g_move q q q q)) (congrArg (fun b => TV.pv (PV.b b)) hb9)) ((Pre.v (GSG.on q q q (g_fldR q q q q fl_27_1 q)) ((Pre.v (GSG.on q q q (g_loadR1 q q q q q ag_3)) ((Pre.v (GSG.on q q q (g_fldR q q q q fl_27_0 q)) ((Pre.v (GSG.on q q q (g_loadR1 q q q q q ag_22)) ((Pre.v (GSG.on q q q (g_lenM (l := v0.acids) (enc := cAcid) q ul_22 q q q)) ((Pre.v (GSG.on q q q (g_shlI e109 q q q q q)) ((Pre.v (GSG.on q q q (g_sub q q q q q)) ((Pre.v (GSG.on q q q (g_call q q q ca_87 q (c_87 _ _ _ _ e110))) ((Pre.v (GSG.of q (g_pickT q q q q q)) ((Pre.v (GSG.as (GSG.of q (g_move q q q q)) (congrArg (fun b => TV.pv (PV.b b)) hb10)) ((Pre.v (GSG.off2 q q q q q q) ((Pre.v (GSG.off2 q q q q q q) ((Pre.v (GSG.off2 q q q q q q) ((Pre.v (GSG.of q (g_pickF q q q q q)) ((Pre.v (GSG.of q (g_move q q q q)) ((Pre.v (GSG.off2 q q q q q q) ((Pre.v (GSG.off2 q q q q q q) ((Pre.v (GSG.off2 q q q q q q) ((Pre.v (GSG.off2 q q q q q q) ((Pre.v (GSG.off2 q q q q q q) ((Pre.v (GSG.off2 q q q q q q) ((Pre.v (GSG.of q (g_pickF q q q q q)) ((Pre.v (GSG.of q (g_move q q q q)) ((Pre.v (GSG.off2 q q q q q q) ((Pre.v (GSG.off2 q q q q q q) ((Pre.v (GSG.off2 q q q q q q) ((Pre.v (GSG.off2 q q q q q q) ((Pre.v (GSG.of q (g_pickF q q q q q)) ((Pre.v (GSG.of q (g_move q q q q)) ((Pre.v (GSG.off2 q q q q q q) ((Pre.v (GSG.off2 q q q q q q) ((Pre.v (GSG.off2 q q q q q q) ((Pre.v (GSG.off2 q q q q q q) ((Pre.v (GSG.of q (g_pickF q q q q q)) ((Pre.v (GSG.of q (g_move q q q q)) ((Pre.v (GSG.off2 q q q q q q) ((Pre.v (GSG.off2 q q q q q q) ((Pre.v (GSG.off2 q q q q q q) ((Pre.v (GSG.off2 q q q q q q) ((Pre.v (GSG.of q (g_pickF q q q q q)) ((Pre.v (GSG.of q (g_move q q q q)) ((Pre.v (GSG.off2 q q q q q q) ((Pre.v (GSG.off2 q q q q q q) ((Pre.v (GSG.off2 q q q q q q) ((Pre.v (GSG.off2 q q q q q q) ((Pre.v (GSG.of q (g_pickF q q q q q)) ((Pre.v (GSG.of q (g_move q q q q)) ((Pre.v (GSG.off2 q q q q q q) ((Pre.v (GSG.off2 q q q q q q) ((Pre.v (GSG.off2 q q q q q q) (Pre.nil _)))))))))))))))))))))))))))))))))))))))))))))))))))))))))))))))))))))))))))))))))))))))))))))))))))))))))))))) (by kernel_rfl)<|o2 q q q q q q<|o2 q q q q q q<|vf q q q q q q<|vm q q q q q<|o2 q q q q q q<|o2 q q q q q q<|o2 q q q q q q<|o2 q q q q q q<|vf q q q q q q<|va q q q q q<|on0<|Sq.n<|W.ret ?_
   obtain rfl := Option.some.inj h
   exact Fin.r q (.cons (.tmp _ _ q) .nil) q
 ·have h := bif_f h hb9
  refine W.draw (m := 55) Checked.mixed (Pre.v (GSG.of q (g_fldR q q q q fl_27_0 q)) ((Pre.v (GSG.of q (g_loadR1 q q q q q ag_22)) ((Pre.v (GSG.of q (g_lenM (l := v0.acids) (enc := cAcid) q ul_22 q q q)) ((Pre.v (GSG.of q (g_call q q q ca_87 q (c_87 _ _ _ _ e108))) ((Pre.v (GSG.as (GSG.of q (g_move q q q q)) (congrArg (fun b => TV.pv (PV.b b)) hb9)) ((Pre.v (GSG.off2 q q q q q q) ((Pre.v (GSG.off2 q q q q q q) ((Pre.v (GSG.off2 q q q q q q) ((Pre.v (GSG.off2 q q q q q q) ((Pre.v (GSG.off2 q q q q q q) ((Pre.v (GSG.off2 q q q q q q) ((Pre.v (GSG.off2 q q q q q q) ((Pre.v (GSG.off2 q q q q q q) ((Pre.v (GSG.of q (g_pickF q q q q q)) ((Pre.v (GSG.of q (g_move q q q q)) ((Pre.v (GSG.off2 q q q q q q) ((Pre.v (GSG.off2 q q q q q q) ((Pre.v (GSG.off2 q q q q q q) ((Pre.v (GSG.of q (g_pickF q q q q q)) ((Pre.v (GSG.of q (g_move q q q q)) ((Pre.v (GSG.off2 q q q q q q) ((Pre.v (GSG.off2 q q q q q q) ((Pre.v (GSG.off2 q q q q q q) ((Pre.v (GSG.off2 q q q q q q) ((Pre.v (GSG.off2 q q q q q q) ((Pre.v (GSG.off2 q q q q q q) ((Pre.v (GSG.of q (g_pickF q q q q q)) ((Pre.v (GSG.of q (g_move q q q q)) ((Pre.v (GSG.off2 q q q q q q) ((Pre.v (GSG.off2 q q q q q q) ((Pre.v (GSG.off2 q q q q q q) ((Pre.v (GSG.off2 q q q q q q) ((Pre.v (GSG.of q (g_pickF q q q q q)) ((Pre.v (GSG.of q (g_move q q q q)) ((Pre.v (GSG.off2 q q q q q q) ((Pre.v (GSG.off2 q q q q q q) ((Pre.v (GSG.off2 q q q q q q) ((Pre.v (GSG.off2 q q q q q q) ((Pre.v (GSG.of q (g_pickF q q q q q)) ((Pre.v (GSG.of q (g_move q q q q)) ((Pre.v (GSG.off2 q q q q q q) ((Pre.v (GSG.off2 q q q q q q) ((Pre.v (GSG.off2 q q q q q q) ((Pre.v (GSG.off2 q q q q q q) ((Pre.v (GSG.of q (g_pickF q q q q q)) ((Pre.v (GSG.of q (g_move q q q q)) ((Pre.v (GSG.off2 q q q q q q) ((Pre.v (GSG.off2 q q q q q q) ((Pre.v (GSG.off2 q q q q q q) ((Pre.v (GSG.off2 q q q q q q) ((Pre.v (GSG.of q (g_pickF q q q q q)) ((Pre.v (GSG.of q (g_move q q q q)) ((Pre.v (GSG.off2 q q q q q q) ((Pre.v (GSG.off2 q q q q q q) ((Pre.v (GSG.off2 q q q q q q) (Pre.nil _)))))))))))))))))))))))))))))))))))))))))))))))))))))))))))))))))))))))))))))))))))))))))))))))))))))))))))))) (by kernel_rfl)<|o2 q q q q q q<|o2 q q q q q q<|vf q q q q q q<|vm q q q q q<|o2 q q q q q q<|o2 q q q q q q<|o2 q q q q q q<|o2 q q q q q q<|vf q q q q q q<|va q q q q q<|on0<|Sq.n<|W.ret ?_
  obtain rfl := Option.some.inj h
  exact Fin.r q (.cons (.tmp _ _ q) .nil) q
end Go.Proofs.YtohmhlkdgfcaeaaGreatDoor
namespace Go.Proofs.YtohmhlkdgfcaeaaGreatDoor
open Go Go.RowKit
set_option maxRecDepth 4000
attribute [local irreducible] W Ops GS GSG
def s_168 (n : Nat) (v0 : Int) (v1 : Windows) : Option (Bool) := (s_99 n v1 v0).bind fun v101 => some ((!v101))
theorem c_168 (n : Nat) (v0 : Int) (v1 : Windows) {r : (Bool)} (h : s_168 n v0 v1 = some r) :
  Fun Tryz.prog 168 [.val (.int .i64 v0), .ref [.sl (List.map cSpan v1.own), .cache (List.map spanP v1.own)]] (.ret (.b r)) := by
 unfold s_168 at h
 refine enterW 8 Tryz.func168 q q q ?_
 intro w0 F0
 change W _ _ (Ev [(0, .pv (.i v0)), (1, .pv (.ref [.sl (List.map cSpan v1.own), .cache (List.map spanP v1.own)]))]) _
 refine W.seq<|W.region<|va q q q q q<|on0<|Sq.n<|W.seq<|W.region<|ov (g_loadRA q q q q ag_129 sz_129 q q) q<|vm q q q q q ?_
 obtain ⟨v101, e101, h⟩ := bind_some h
 refine ov (g_call q q q ca_99 q (c_99 _ _ _ e101)) q<|ov (g_not q q q q) q<|va q q q q q<|on0<|Sq.n<|W.ret ?_
 obtain rfl := Option.some.inj h
 exact Fin.r q (.cons (.tmp _ _ q) .nil) q
end Go.Proofs.YtohmhlkdgfcaeaaGreatDoor
namespace Go.Proofs.YtohmhlkdgfcaeaaGreatDoor
open Go Go.RowKit
set_option maxRecDepth 4000
attribute [local irreducible] W Ops GS GSG
def s_98_j5 (K1 : Int → (List Span) → Option (Windows)) (v115 : Int) (v116 : (List Span)) (v127 : Span) : Option (Windows) := (app v116 ([v127])).bind fun v128 => K1 (wr (v115 + 1)) v128
def s_98_l1 (n : Nat) (v0 : Drum) (v1 : (List Filled)) : Nat → Int → (List Span) → Option (Windows)
| 0, _, _ => none
| k1 + 1, v115, v116 => bif (decide (v115 < (v0.batches.length : Int))) then ( (ix v0.batches v115).bind fun v123 => (s_92 n v1 v123).bind fun v124 => (s_93 n v1 v123).bind fun v125 => bif (decide (v124 < 0)) then ( (s_144 n ).bind fun v126 => s_98_j5 (s_98_l1 n v0 v1 k1) v115 v116 v126 ) else ( s_98_j5 (s_98_l1 n v0 v1 k1) v115 v116 (Span.mk v124 v125) ) ) else (
 some ((Windows.mk v116)) )
def s_98 (n : Nat) (v0 : Drum) (v1 : (List Filled)) : Option (Windows) := s_98_l1 n v0 v1 n 0 []
theorem c_98 (n : Nat) (v0 : Drum) (v1 : (List Filled)) {r : (Windows)} (h : s_98 n v0 v1 = some r) :
  Fun Tryz.prog 98 [.agg (cDrum v0), .sl (v1.map cFilled)] (.ret (.agg (cWindows r))) := by
 unfold s_98 at h
 refine enterW 40 Tryz.func98 q q q ?_
 intro w0 F0
 change W _ _ (Ev [(0, .pv (.agg (cDrum v0))), (1, .pv (.sl (List.map cFilled v1)))]) _
 refine W.seq<|W.region<|ob (g_box q q q q q) q q<|ob (g_alloc q q q zr_129) q q<|on0<|Sq.n<|W.seq<|W.region<|ov (g_makeMap (List.map spanP r.own) q q q) q<|ov (g_build (cs := [.val (.slice none 0 0), .cache (List.map spanP r.own)]) q q q zr_129 st_129 q q) q<|ob (g_alloc q q q zr_129) q q<|Ops.step q (s_storeB q q q q q q sz_129 q q)<|on0<|Sq.n<|W.seq<|W.seq<|W.region<|ov (g_fld q q q q fl_27_5) q<|ov (g_load1 q q q q q q ag_25) q<|ov (g_lenM (l := v0.batches) (enc := cBatch) q ul_25 q q q) q<|vm q q q q q<|on0<|Sq.n<|W.block<|W.conv (Conv.nilcell 5 0 36 57 2 q q q)<|W.loop (σ := Nat × Int × (List Span)) (fun s => (⟨[(1, .pv (.sl (List.map cFilled v1))), (4, .box 4 0), (5, .box 5 0), (14, .pv (.sl (List.map cBatch v0.batches))), (15, .pv (.val (.int .i64 (v0.batches.length : Int)))), (16, .pv (.i s.2.1))], [(4, 129, [.pv (.val (.slice none 0 0)), .pv (.val (.map none))]), (5, 129, [.row 36, .pv (.cache (List.map spanP r.own))])], [(36, ⟨57, 2, List.map cSpan s.2.2⟩)]⟩ : Env)) (fun s => s_98_l1 n v0 v1 s.1 s.2.1 s.2.2 = some r) (fun s => s.1) (n, 0, []) h (has_mk ⟨q, q, q, q, q, q, trivial⟩ ⟨q, q, trivial⟩ ⟨q, trivial⟩ q) ?_
 rintro ⟨k1, v115, v116⟩ h
 change s_98_l1 n v0 v1 k1 v115 v116 = some r at h
 rcases k1 with _ | k1
 ·rw [s_98_l1] at h
  cases h
 ·rw [s_98_l1] at h
  change W _ _ (⟨[(1, .pv (.sl (List.map cFilled v1))), (4, .box 4 0), (5, .box 5 0), (14, .pv (.sl (List.map cBatch v0.batches))), (15, .pv (.val (.int .i64 (v0.batches.length : Int)))), (16, .pv (.i v115))], [(4, 129, [.pv (.val (.slice none 0 0)), .pv (.val (.map none))]), (5, 129, [.row 36, .pv (.cache (List.map spanP r.own))])], [(36, ⟨57, 2, List.map cSpan v116⟩)]⟩ : Env) _
  refine W.seq<|W.region<|ov (g_lss q q q q q) q<|on0<|Sq.n<|W.seq<|W.cond (b := (decide (v115 < (v0.batches.length : Int)))) q (fun hc => ?_) (fun hc => ?_)
  ·have h := bif_t h hc
   refine W.skip<|Sq.n<|W.seq<|W.block<|W.seq<|W.region ?_
   obtain ⟨v123, e123, h⟩ := bind_some h
   refine ov (g_idxI (l := v0.batches) (enc := cBatch) e123 q q q q q el_25 q) q<|ov (g_loadRA q q q q ag_67 sz_67 q q) q<|ob (g_alloc q q q zr_67) q q<|Ops.step q (s_storeB q q q q q q sz_67 q q)<|on0<|Sq.n<|W.seq ?_
   obtain ⟨v124, e124, h⟩ := bind_some h
   refine W.draw (m := 5) Checked.mixed (Pre.v (GSG.of q (g_move q q q q)) ((Pre.v (GSG.of q (g_loadA q q q q q ag_67 sz_67 q q)) ((Pre.v (GSG.of q (g_call q q q ca_92 q (c_92 _ _ _ e124))) ((Pre.v (GSG.of q (g_move q q q q)) ((Pre.v (GSG.of q (g_loadA q q q q q ag_67 sz_67 q q)) (Pre.nil _)))))))))) (by kernel_rfl) ?_
   obtain ⟨v125, e125, h⟩ := bind_some h
   refine ov (g_call q q q ca_93 q (c_93 _ _ _ e125)) q<|va q q q q q<|va q q q q q<|on0<|Sq.n<|W.seq<|W.region<|vm q q q q q<|vm q q q q q<|ov (g_build (cs := (cSpan (Span.mk v124 v125))) q q q zr_57 st_57 q q) q<|ob (g_alloc q q q zr_57) q q<|Ops.step q (s_storeB q q q q q q sz_57 q q)<|on0<|Sq.n<|W.seqJ (σ := Span) (fun s => (⟨[(1, .pv (.sl (List.map cFilled v1))), (4, .box 4 0), (5, .box 5 0), (10, .box 10 0), (14, .pv (.sl (List.map cBatch v0.batches))), (15, .pv (.val (.int .i64 (v0.batches.length : Int)))), (16, .pv (.i v115))], [(4, 129, [.pv (.val (.slice none 0 0)), .pv (.val (.map none))]), (5, 129, [.row 36, .pv (.cache (List.map spanP r.own))]), (10, 57, [.pv (.i s.low), .pv (.i s.high)])], [(36, ⟨57, 2, List.map cSpan v116⟩)]⟩ : Env)) (fun s => s_98_j5 (s_98_l1 n v0 v1 k1) v115 v116 s = some r) ?_ ?_
   ·refine W.seq<|W.region<|vm q q q q q<|ov (g_lss q q q q q) q<|on0<|Sq.n<|W.cond (b := (decide (v124 < 0))) q (fun hc => ?_) (fun hc => ?_)
    ·have h := bif_t h hc
     refine W.region ?_
     obtain ⟨v126, e126, h⟩ := bind_some h
     refine ov (g_call q q q ca_144 q (c_144 _  e126)) q<|Ops.step q (s_storeB q q q q q q sz_57 q q)<|on0<|Sq.n<|⟨v126, h, has_mk ⟨q, q, q, q, q, q, q, trivial⟩ ⟨q, q, q, trivial⟩ ⟨q, trivial⟩ q⟩
    ·have h := bif_f h hc
     refine W.skip<|Sq.n<|⟨(Span.mk v124 v125), h, has_mk ⟨q, q, q, q, q, q, q, trivial⟩ ⟨q, q, q, trivial⟩ ⟨q, trivial⟩ q⟩
   ·rintro v127 h
    change s_98_j5 (s_98_l1 n v0 v1 k1) v115 v116 v127 = some r at h
    unfold s_98_j5 at h
    change W _ _ (⟨[(1, .pv (.sl (List.map cFilled v1))), (4, .box 4 0), (5, .box 5 0), (10, .box 10 0), (14, .pv (.sl (List.map cBatch v0.batches))), (15, .pv (.val (.int .i64 (v0.batches.length : Int)))), (16, .pv (.i v115))], [(4, 129, [.pv (.val (.slice none 0 0)), .pv (.val (.map none))]), (5, 129, [.row 36, .pv (.cache (List.map spanP r.own))]), (10, 57, [.pv (.i v127.low), .pv (.i v127.high)])], [(36, ⟨57, 2, List.map cSpan v116⟩)]⟩ : Env) _
    refine W.region<|ov (g_fld q q q q fl_129_0) q<|ov (g_load1 q q q q q q ag_30) q<|ov (g_loadA q q q q q ag_57 sz_57 q q) q<|Ops.r (g_buildSlice (cs := [.val (.int .i64 v127.low), .val (.int .i64 v127.high)]) (es := List.map cSpan [v127]) q q q el_30 ⟨_, zr_57⟩ q q q q q q) q q ?_
    obtain ⟨v128, e128, h⟩ := bind_some h
    exact Ops.step q (s_appendR (enc := cSpan) e128 q q q q q q q q ex_30 (fun _ => q))<|ov (g_fld q q q q fl_129_0) q<|Ops.step q (s_storeB q q q q q q sz_30 q q)<|on0<|Bl.n<|Sq.n<|W.region<|ov (g_add q q q q q) q<|vm q q q q q<|on0<|Sq.n<|⟨(k1, wr (v115 + 1), v128), h, Nat.lt_succ_self _, has_mk ⟨q, q, q, q, q, q, trivial⟩ ⟨q, q, trivial⟩ ⟨q, trivial⟩ q⟩
  ·have h := bif_f h hc
   refine W.exit<|Sq.e<|Sq.e<|Bl.e<|Sq.n<|W.seq<|W.region<|Ops.share (k := 36) q<|ov (g_loadA q q q q q ag_129 sz_129 q q) q<|Ops.step q (s_storeB q q q q q q sz_129 q q)<|on0<|Sq.n<|W.ret ?_
   obtain rfl := Option.some.inj h
   exact Fin.r q (.cons (.agg _ _ _ _ ([.sl (List.map cSpan ((Windows.mk v116).own)), .cache (List.map spanP ((Windows.mk v116).own))]) q q ag_129 sz_129) .nil) q
def s_123 (n : Nat) (v0 : Windows) (v1 : (List Int)) : Option (Bool) := (s_126 n v1).bind fun v101 => bif v101.2 then ( (s_121 n v101.1 (fun z0 => s_168 n z0 v0)).bind fun v102 => some ((!v102)) ) else ( some (false) )
theorem c_123 (n : Nat) (v0 : Windows) (v1 : (List Int)) {r : (Bool)} (h : s_123 n v0 v1 = some r) :
  Fun Tryz.prog 123 [.agg (cWindows v0), .sl (v1.map eI)] (.ret (.b r)) := by
 unfold s_123 at h
 refine enterW 19 Tryz.func123 q q q ?_
 intro w0 F0
 change W _ _ (Ev [(0, .pv (.agg [.sl (List.map cSpan v0.own), .cache (List.map spanP v0.own)])), (1, .pv (.sl (List.map eI v1)))]) _
 refine W.seq<|W.region<|ob (g_box q q q q q) q q<|va q q q q q<|on0<|Sq.n<|W.seq<|W.region<|vm q q q q q ?_
 obtain ⟨v101, e101, h⟩ := bind_some h
 refine ov (g_call q q q ca_126 q (c_126 _ _ e101)) q<|vm q q q q q<|ov (g_extract q q q q q) q<|ov (g_extract q q q q q) q<|va q q q q q<|va q q q q q<|on0<|Sq.n<|W.seq<|W.region<|vm q q q q q<|vm q q q q q<|Ops.split 13 q (fun hb => ?_) (fun hb => ?_)
 ·have h := bif_t h hb
  refine on q q q<|vm q q q q q<|on q q q<|Ops.conv (Conv.freeze (k := 2) (cs := [.sl (List.map cSpan v0.own), .cache (List.map spanP v0.own)]) q)<|ov (g_makeFunc q q q q q) q<|on q q q ?_
  obtain ⟨v102, e102, h⟩ := bind_some h
  refine ov (g_call q q q ca_121 q (c_121 _ _ _ ca_168 (fun _ y e => c_168 _ _ _ e) e102)) q<|on q q q<|ov (g_not q q q q) q<|vt q q q q q q<|va q q q q q<|on0<|Sq.n<|W.ret ?_
  obtain rfl := Option.some.inj h
  exact Fin.r q (.cons (.tmp _ _ q) .nil) q
 ·have h := bif_f h hb
  refine o2 q q q q q q<|o2 q q q q q q<|o2 q q q q q q<|o2 q q q q q q<|vf q q q q q q<|va q q q q q<|on0<|Sq.n<|W.ret ?_
  obtain rfl := Option.some.inj h
  exact Fin.r q (.cons (.tmp _ _ q) .nil) q
end Go.Proofs.YtohmhlkdgfcaeaaGreatDoor
namespace Go.Proofs.YtohmhlkdgfcaeaaGreatDoor
open Go Go.RowKit
set_option maxRecDepth 4000
attribute [local irreducible] W Ops GS GSG
def s_97 (n : Nat) (l : List Int) : Option (List Int) := app [] l
theorem c_97 (n : Nat) (l : List Int) {r : List Int} (h : s_97 n l = some r) : FunOwn Tryz.prog 97 [.sl (l.map eI)] 3 1 (r.map eI) := by
 have hr : r = l := by have := (app_eq h).2; simpa using this
 unfold s_97 at h
 refine own_of_W 8 Tryz.func97 rfl rfl rfl ?_
 intro w0 F0
 change W _ _ (⟨[(0, .pv (.sl (List.map eI l)))], [], []⟩ : Env) _
 refine W.seq ?_
 refine W.region ?_
 refine Ops.v (g_assign rfl rfl rfl rfl) rfl ?_
 refine Ops.nil ?_
 refine Sq.n ?_
 refine W.seq ?_
 refine W.seq ?_
 refine W.region ?_
 refine Ops.v (g_move rfl rfl rfl rfl) rfl ?_
 refine Ops.eqnil rfl rfl rfl rfl rfl rfl ul_23 (fun b hb => ?_)
 refine Ops.nil ?_
 refine Sq.n ?_
 refine W.cond (b := b) rfl (fun hc => ?_) (fun hc => ?_)
 ·refine W.seq ?_
  refine W.region ?_
  refine Ops.v (g_assign rfl rfl rfl rfl) rfl ?_
  refine Ops.nil ?_
  refine Sq.n ?_
  refine W.conv (Conv.nilrow 2 100 3 1 rfl rfl) ?_
  refine W.ret ?_
  refine Sq.r ?_
  exact ⟨2, 100, rfl, rfl, by rw [hr, hb hc]; rfl⟩
 ·refine W.skip ?_
  refine Sq.n ?_
  refine W.seq ?_
  refine W.region ?_
  refine Ops.r (g_buildSlice (cs := []) (es := []) rfl rfl rfl el_23 ⟨_, zr_3⟩ rfl rfl rfl rfl rfl rfl) rfl rfl ?_
  refine Ops.v (g_move rfl rfl rfl rfl) rfl ?_
  refine Ops.step rfl (s_appendS (l := []) (enc := eI) h rfl rfl rfl rfl rfl rfl ex_23 (fun _ => rfl) (fun _ => rfl)) ?_
  refine Ops.v (g_assign rfl rfl rfl rfl) rfl ?_
  refine Ops.nil ?_
  refine Sq.n ?_
  refine W.ret ?_
  exact ⟨2, 5, rfl, rfl, rfl⟩
end Go.Proofs.YtohmhlkdgfcaeaaGreatDoor
namespace Go.Proofs.YtohmhlkdgfcaeaaGreatDoor
open Go Go.RowKit
set_option maxRecDepth 100000
set_option maxHeartbeats 1000000
theorem d158_idle (p : Addr) (w : World) : CallsD Tryz.prog 158 #[.pointer (some p)] .returning w fun e u' w' => e = .returned (.tuple #[]) ∧ u' = .returning ∧ w' = w := by
 refine callsD_of_wpS Tryz.func158 rfl fun c₀ cs hu => ?_
 apply wpS_seq
 apply wpS_region
 simp [wpOpsS, go_sem, recoverD, hu, Tryz.ntmps158, Exit.thenS]
 refine wpS_of_wp ?_
 go_wp2
 cases c₀
 simp_all [bodyPostS, results, Tryz.results158]
theorem run_taYes {P : Program} {T xT : TypeId} (hT : AggIs P T true) (v : Value) (w : World) : (Instr.typeAssert (.iface T v) xT T true).run P w = .ok (.tuple #[v, .bool true]) w := by
 obtain ⟨d, h1, h2⟩ := hT
 cases d <;> simp at h2 <;> simp [Instr.typeAssert, run_underlying h1]
theorem run_taNo {P : Program} {T T' xT : TypeId} {z : Value} (hT : AggIs P T true) (hne : T' ≠ T) (hz : ∃ i, P.info? T = some i ∧ i.zero = some z) (v : Value) (w : World) : (Instr.typeAssert (.iface T' v) xT T true).run P w = .ok (.tuple #[z, .bool false]) w := by
 obtain ⟨d, h1, h2⟩ := hT
 obtain ⟨i, h3, h4⟩ := hz
 have hzv : (zeroValue T).run P w = .ok z w := by simp [zeroValue, typeInfo, h3, h4]
 cases d <;> simp at h2 <;> simp [Instr.typeAssert, run_underlying h1, hne, hzv]
theorem ag175 : AggIs Tryz.prog 175 true := AggIs.mk (by kernel_rfl)
theorem ag177 : AggIs Tryz.prog 177 true := AggIs.mk (by kernel_rfl)
theorem z175 : ∃ i, Tryz.prog.info? 175 = some i ∧ i.zero = some (.agg #[.int .i64 0]) := by
 have h : (Tryz.prog.info? 175).bind (·.zero) = some (.agg #[.int .i64 0]) := by kernel_rfl
 exact Option.bind_eq_some_iff.1 h
theorem ev_same {a : Act} {d : Nat} {v : Value} (h : d < a.tmps.size) : (a.put (some d) v).eval (.tmp d) = v := by
 simp [Act.eval, Act.put, h]
theorem ev_ne {a : Act} {d t : Nat} {v : Value} (h : d ≠ t) : (a.put (some d) v).eval (.tmp t) = a.eval (.tmp t) := by
 simp only [Act.eval, Act.put, Array.getD_eq_getD_getElem?]
 rw [Array.getElem?_setIfInBounds_ne h]
theorem heap_alloc_old (w : World) (o : Obj) {k : Nat} (h : k < w.heap.size) : (w.alloc o).heap[k]? = w.heap[k]? := Below.heap_alloc w o k h
theorem wpList_none {P : Program} {ops : Array Oper} {rest : List Oper} {o : Oper} {a : Act} {w w' : World} {Q : Exit → Act → World → Prop} (hg : o.guard = none) (hd : o.dst = none) (hrun : (execOp a.eval o).run P w = .ok .skip w') (hk : wpList P ops Q rest a w') : wpList P ops Q (o :: rest) a w := by
 simp only [wpList, wantedNone hg, if_true]
 refine .inl ?_
 unfold Oper.wp
 rw [hrun]
 simp only [Oper.upon, hd]
 exact hk
theorem sz175 : SzIs Tryz.prog 175 1 := SzIs.mk (by kernel_rfl)
theorem sz177 : SzIs Tryz.prog 177 1 := SzIs.mk (by kernel_rfl)
theorem sz31 : SzIs Tryz.prog 31 1 := SzIs.mk (by kernel_rfl)
theorem ag31 : AggIs Tryz.prog 31 false := AggIs.mk (by kernel_rfl)
theorem z177 : ∃ i, Tryz.prog.info? 177 = some i ∧ i.zero = some (.agg #[.string ⟨#[]⟩]) := by
 have h : (Tryz.prog.info? 177).bind (·.zero) = some (.agg #[.string ⟨#[]⟩]) := by kernel_rfl
 exact Option.bind_eq_some_iff.1 h
theorem run_allocV {P : Program} {T : TypeId} {us : Array Value} {o : Oper} {ρ : Operand → Value} (hz : ∃ i, P.info? T = some i ∧ i.zero = some (.agg us)) (w : World) (ho : o.op = .alloc T := by rfl) : (execOp ρ o).run P w = .ok (.value (.pointer (some ⟨w.heap.size, 0, none⟩))) (w.alloc (.cells us T)) := by
 obtain ⟨i, h1, h2⟩ := hz
 have hzv : ∀ w, (zeroValue T).run P w = .ok (.agg us) w := fun w => by simp [zeroValue, typeInfo, h1, h2]
 simp [execOp, ho, hzv, Instr.alloc, Value.cells, newVar, newRow, newObj, Sem.run]
theorem run_store1 {P : Program} {T : TypeId} {o : Oper} {a : Act} {x y : Operand} {v u : Value} (hs : SzIs P T 1) (w : World) (b : Nat) (x0 : Value) (T' : TypeId) (hb : w.heap[b]? = some (.cells #[x0] T' (0, 0))) (hx : a.eval x = .pointer (some ⟨b, 0, none⟩)) (hy : a.eval y = v) (ho : o.op = .store T x y := by rfl) (h1 : v.cells = #[u] := by rfl) (h2 : u.oneCell' = true := by rfl) :
  (execOp a.eval o).run P w = .ok .skip (w.setRow b #[u]) := by
 have hst := run_storeCells_at P b 0 T' [u] 0 #[x0] w hb (by simp) (by simpa using h2)
 simp only [execOp, ho, hx, hy, Sem.run_bind, Instr.storeAt, Instr.sureAddr, storeVar, Sem.run_pure, Result.andThen_ok, hs.run, h1]
 simp at hst
 simp [hst]
theorem heap_setRow_ne (w : World) {b k : Nat} (us : Array Value) (h : k ≠ b) : (w.setRow b us).heap[k]? = w.heap[k]? := by
 simp only [World.setRow, Array.getElem?_modify]
 rw [if_neg (fun e => h e.symm)]
theorem wp_gen {P : Program} {c : Code} {Q : Exit → Act → World → Prop} {a : Act} {w : World} {Pr : Act → Prop} (h0 : Pr a) (h : ∀ a, Pr a → c.wp P Q a w) : c.wp P Q a w := h a h0
theorem d158_rule (b : Nat) (x : Value) (h : Int) (w : World) (hb : w.heap[b]? = some (.cells #[x] 31 (0, 0))) : CallsD Tryz.prog 158 #[.pointer (some ⟨b, 0, none⟩)] (.panicking [{ v := .iface 175 (.agg #[.int .i64 h]), recovered := false }]) w fun e u' w' =>
  e = .returned (.tuple #[]) ∧ u' = .panicking [{ v := .iface 175 (.agg #[.int .i64 h]), recovered := true }] ∧ w' = ((w.alloc (.cells #[.int .i64 0] 175)).setRow w.heap.size #[.int .i64 h]).setRow b #[.int .i64 7] := by
 have hlt := (Array.getElem?_eq_some_iff.1 hb).1
 refine callsD_of_wpS Tryz.func158 rfl fun c₀ cs hu => ?_
 apply wpS_seq
 apply wpS_region
 simp [wpOpsS, go_sem, recoverD, hu, Tryz.ntmps158, Exit.thenS]
 refine wpS_of_wp ?_
 refine wp_gen (Pr := fun a => a.tmps.size = 14 ∧ a.eval (.tmp 0) = .pointer (some ⟨b, 0, none⟩) ∧ a.eval (.tmp 5) = .iface 175 (.agg #[.int .i64 h]) ∧ a.defers = []) ⟨by simp, by simp [Act.eval], by simp [Act.eval], rfl⟩ ?_
 rintro a ⟨hs, h0, h5, hd⟩
 refine wp_block ?_
 refine wp_seq ?_
 refine wp_region_lit ?_
 refine wpList_val (v := .bool false) (w' := w) rfl rfl (by simp only [execOp, h5]; simp [go_sem]) ?_
 refine wp_cond (t := false) (ev_same (by omega)) ?_
 refine wp_seq ?_
 refine wp_region_lit ?_
 refine wpList_val (v := .tuple #[.agg #[.int .i64 h], .bool true]) (w' := w) rfl rfl (by simp only [execOp, ev_ne (show 7 ≠ 5 by decide), h5, Sem.run_bind, run_taYes ag175, Result.andThen_ok]; rfl) ?_
 refine wpList_val (v := .bool true) (w' := w) rfl rfl (by simp only [execOp, ev_same (a := a.put (some 7) (.bool false)) (show 8 < _ by simp [Act.put, hs])]; rfl) ?_
 refine wpList_val (v := .agg #[.int .i64 h]) (w' := w) rfl rfl (by simp only [execOp, ev_ne (show 9 ≠ 8 by decide), ev_same (a := a.put (some 7) (.bool false)) (show 8 < _ by simp [Act.put, hs])]; rfl) ?_
 refine wp_cond (t := true) (by rw [ev_ne (by decide)]; exact ev_same (by simp [Act.put, hs])) ?_
 refine wp_gen (Pr := fun a => a.tmps.size = 14 ∧ a.eval (.tmp 0) = .pointer (some ⟨b, 0, none⟩) ∧ a.eval (.tmp 10) = .agg #[.int .i64 h] ∧ a.defers = []) ?_ ?_
 ·refine ⟨by simp [Act.put, hs], ?_, ?_, hd⟩
  ·(repeat rw [ev_ne (by decide)]); exact h0
  ·exact ev_same (by simp [Act.put, hs])
 clear hs h0 h5 hd a
 rintro a ⟨hs, h0, h10, hd⟩
 refine wp_seq ?_
 refine wp_region_lit ?_
 refine wpList_val (v := .pointer (some ⟨w.heap.size, 0, none⟩)) (w' := w.alloc (.cells #[.int .i64 0] 175)) rfl rfl (run_allocV z175 w) ?_
 refine wpList_none (w' := (w.alloc (.cells #[.int .i64 0] 175)).setRow w.heap.size #[.int .i64 h]) rfl rfl (run_store1 (x := .tmp 2) (y := .tmp 10) (v := .agg #[.int .i64 h]) sz175 _ w.heap.size _ _ (heap_alloc_new w _) (ev_same (by omega)) (by rw [ev_ne (by decide)]; exact h10)) ?_
 show Code.wp Tryz.prog _ _ _ _
 refine wp_region_lit ?_
 refine wpList_none (w' := ((w.alloc (.cells #[.int .i64 0] 175)).setRow w.heap.size #[.int .i64 h]).setRow b #[.int .i64 7]) rfl rfl (run_store1 (x := .tmp 0) (v := .int .i64 7) sz31 _ b x 31 (by rw [heap_setRow_ne _ _ (by omega), heap_alloc_old _ _ hlt]; exact hb) (by rw [ev_ne (by decide)]; exact h0) rfl) ?_
 simp [wpList, Exit.inBlock, bodyPostS, results, Tryz.results158, hd, Act.put]
theorem d158_text (b : Nat) (x : Value) (s : ByteArray) (w : World) (hb : w.heap[b]? = some (.cells #[x] 31 (0, 0))) : CallsD Tryz.prog 158 #[.pointer (some ⟨b, 0, none⟩)] (.panicking [{ v := .iface 177 (.agg #[.string s]), recovered := false }]) w fun e u' w' =>
  e = .returned (.tuple #[]) ∧ u' = .panicking [{ v := .iface 177 (.agg #[.string s]), recovered := true }] ∧ w' = ((w.alloc (.cells #[.string ⟨#[]⟩] 177)).setRow w.heap.size #[.string s]).setRow b #[.int .i64 4] := by
 have hlt := (Array.getElem?_eq_some_iff.1 hb).1
 refine callsD_of_wpS Tryz.func158 rfl fun c₀ cs hu => ?_
 apply wpS_seq
 apply wpS_region
 simp [wpOpsS, go_sem, recoverD, hu, Tryz.ntmps158, Exit.thenS]
 refine wpS_of_wp ?_
 refine wp_gen (Pr := fun a => a.tmps.size = 14 ∧ a.eval (.tmp 0) = .pointer (some ⟨b, 0, none⟩) ∧ a.eval (.tmp 5) = .iface 177 (.agg #[.string s]) ∧ a.defers = []) ⟨by simp, by simp [Act.eval], by simp [Act.eval], rfl⟩ ?_
 rintro a ⟨hs, h0, h5, hd⟩
 refine wp_block ?_
 refine wp_seq ?_
 refine wp_region_lit ?_
 refine wpList_val (v := .bool false) (w' := w) rfl rfl (by simp only [execOp, h5]; simp [go_sem]) ?_
 refine wp_cond (t := false) (ev_same (by omega)) ?_
 refine wp_seq ?_
 refine wp_region_lit ?_
 refine wpList_val (v := .tuple #[.agg #[.int .i64 0], .bool false]) (w' := w) rfl rfl (by simp only [execOp, ev_ne (show 7 ≠ 5 by decide), h5, Sem.run_bind, run_taNo (T' := 177) ag175 (by decide) z175, Result.andThen_ok]; rfl) ?_
 refine wpList_val (v := .bool false) (w' := w) rfl rfl (by simp only [execOp, ev_same (a := a.put (some 7) (.bool false)) (show 8 < _ by simp [Act.put, hs])]; rfl) ?_
 refine wpList_val (v := .agg #[.int .i64 0]) (w' := w) rfl rfl (by simp only [execOp, ev_ne (show 9 ≠ 8 by decide), ev_same (a := a.put (some 7) (.bool false)) (show 8 < _ by simp [Act.put, hs])]; rfl) ?_
 refine wp_cond (t := false) (by rw [ev_ne (by decide)]; exact ev_same (by simp [Act.put, hs])) ?_
 refine wp_gen (Pr := fun a => a.tmps.size = 14 ∧ a.eval (.tmp 0) = .pointer (some ⟨b, 0, none⟩) ∧ a.eval (.tmp 5) = .iface 177 (.agg #[.string s]) ∧ a.defers = []) ?_ ?_
 ·refine ⟨by simp [Act.put, hs], ?_, ?_, hd⟩
  ·(repeat rw [ev_ne (by decide)]); exact h0
  ·(repeat rw [ev_ne (by decide)]); exact h5
 clear hs h0 h5 hd a
 rintro a ⟨hs, h0, h5, hd⟩
 refine wp_seq ?_
 refine wp_region_lit ?_
 refine wpList_val (v := .tuple #[.agg #[.string s], .bool true]) (w' := w) rfl rfl (by simp only [execOp, h5, Sem.run_bind, run_taYes ag177, Result.andThen_ok]; rfl) ?_
 refine wpList_val (v := .bool true) (w' := w) rfl rfl (by simp only [execOp, ev_same (a := a) (show 11 < _ by omega)]; rfl) ?_
 refine wpList_val (v := .agg #[.string s]) (w' := w) rfl rfl (by simp only [execOp, ev_ne (show 12 ≠ 11 by decide), ev_same (a := a) (show 11 < _ by omega)]; rfl) ?_
 refine wp_cond (t := true) (by rw [ev_ne (by decide)]; exact ev_same (by simp [Act.put, hs])) ?_
 refine wp_gen (Pr := fun a => a.tmps.size = 14 ∧ a.eval (.tmp 0) = .pointer (some ⟨b, 0, none⟩) ∧ a.eval (.tmp 13) = .agg #[.string s] ∧ a.defers = []) ?_ ?_
 ·refine ⟨by simp [Act.put, hs], ?_, ?_, hd⟩
  ·(repeat rw [ev_ne (by decide)]); exact h0
  ·exact ev_same (by simp [Act.put, hs])
 clear hs h0 h5 hd a
 rintro a ⟨hs, h0, h10, hd⟩
 refine wp_seq ?_
 refine wp_region_lit ?_
 refine wpList_val (v := .pointer (some ⟨w.heap.size, 0, none⟩)) (w' := w.alloc (.cells #[.string ⟨#[]⟩] 177)) rfl rfl (run_allocV z177 w) ?_
 refine wpList_none (w' := (w.alloc (.cells #[.string ⟨#[]⟩] 177)).setRow w.heap.size #[.string s]) rfl rfl (run_store1 (x := .tmp 3) (y := .tmp 13) (v := .agg #[.string s]) sz177 _ w.heap.size _ _ (heap_alloc_new w _) (ev_same (by omega)) (by rw [ev_ne (by decide)]; exact h10)) ?_
 show Code.wp Tryz.prog _ _ _ _
 refine wp_region_lit ?_
 refine wpList_none (w' := ((w.alloc (.cells #[.string ⟨#[]⟩] 177)).setRow w.heap.size #[.string s]).setRow b #[.int .i64 4]) rfl rfl (run_store1 (x := .tmp 0) (v := .int .i64 4) sz31 _ b x 31 (by rw [heap_setRow_ne _ _ (by omega), heap_alloc_old _ _ hlt]; exact hb) (by rw [ev_ne (by decide)]; exact h0) rfl) ?_
 simp [wpList, Exit.inBlock, bodyPostS, results, Tryz.results158, hd, Act.put]
end Go.Proofs.YtohmhlkdgfcaeaaGreatDoor
namespace Go.Proofs.YtohmhlkdgfcaeaaGreatDoor
open Go Go.RowKit
set_option maxRecDepth 100000
set_option maxHeartbeats 1000000
theorem c_try (g : FuncId) (caps : Array Value) (hg : ∀ (args : Array Value) (w : World), (callFunc g args).run Tryz.prog w = .ok (.enter g args) w) (w : World) (R : Ending → World → Prop)
  (h : Calls Tryz.prog g caps (w.alloc (.cells #[.int .i64 0] 31)) fun e w1 => w1.heap[w.heap.size]? = some (.cells #[.int .i64 0] 31 (0, 0)) ∧
   (((∃ v, e = .returned v) ∧ R (.returned (.int .i64 0)) (w1.setCell ⟨w.heap.size, 0, none⟩ (.int .i64 0))) ∨
    (∃ i, e = .panicked [{ v := .iface 175 (.agg #[.int .i64 i]), recovered := false }] ∧ R (.returned (.int .i64 7)) (((w1.alloc (.cells #[.int .i64 0] 175)).setRow w1.heap.size #[.int .i64 i]).setRow w.heap.size #[.int .i64 7])) ∨
    (∃ s, e = .panicked [{ v := .iface 177 (.agg #[.string s]), recovered := false }] ∧ R (.returned (.int .i64 4)) (((w1.alloc (.cells #[.string ⟨#[]⟩] 177)).setRow w1.heap.size #[.string s]).setRow w.heap.size #[.int .i64 4])))) :
  Calls Tryz.prog 108 #[.func (.func g) #[] caps] w R := by
 have hmf : ∀ (fn : Fn) (first cap : Array Value) (w : World), (Instr.makeFunc fn first cap).run Tryz.prog w = .ok (.func fn first cap) w := fun _ _ _ _ => rfl
 go_enter_defers Tryz.func108, Tryz.ntmps108
 go_wp2
 refine h.mono ?_
 rintro e w1 ⟨hcell, hcases⟩
 have hlt := (Array.getElem?_eq_some_iff.1 hcell).1
 have hc : w1.cell? ⟨w.heap.size, 0, none⟩ = some (.int .i64 0) := by simp [World.cell?, hcell]
 have hz : w1.frozen? ⟨w.heap.size, 0, none⟩ = false := by simp [World.frozen?, hcell]
 have hfin : ∀ (w2 : World) (c : Int), w2.heap[w.heap.size]? = some (.cells #[.int .i64 c] 31 (0, 0)) → ∀ tmps : Array Value, tmps.getD 2 undef = .pointer (some ⟨w.heap.size, 0, none⟩) → (results Tryz.f108 tmps).run Tryz.prog w2 = .ok (.int .i64 c) w2 := by
  intro w2 c h2 tmps h3
  have hc2 : w2.cell? ⟨w.heap.size, 0, none⟩ = some (.int .i64 c) := by simp [World.cell?, h2]
  rw [results_eq]
  have e : Tryz.f108.results = #[.cell 2 31] := rfl
  simp [e, resOf, h3, asAddr, loadVar, ag31.run, load, Sem.run, hc2]
 rcases hcases with ⟨⟨v, rfl⟩, hR⟩ | ⟨i, rfl, hR⟩ | ⟨s, rfl, hR⟩
 ·go_wp2
  refine leaves_cons (f := 158) (args := #[.pointer (some ⟨w.heap.size, 0, none⟩)]) (by simp) (by simp [go_sem]) ?_
  refine (d158_idle _ _).mono ?_
  rintro e u' w'' ⟨rfl, rfl, rfl⟩
  exact ⟨_, hfin _ 0 (by simp [World.setCell, Array.getElem?_modify, hcell]) _ rfl, hR⟩
 ·show Leaves Tryz.prog Tryz.f108 _ R _ (.panicking _) w1
  refine leaves_cons (f := 158) (args := #[.pointer (some ⟨w.heap.size, 0, none⟩)]) (by simp) (by simp [go_sem]) ?_
  refine (d158_rule w.heap.size _ _ w1 hcell).mono ?_
  rintro e u' w'' ⟨rfl, rfl, rfl⟩
  exact ⟨_, hfin _ 7 (setRow_heap _ _ #[.int .i64 0] _ 31 _ (by rw [heap_setRow_ne _ _ (by omega), heap_alloc_old _ _ hlt]; exact hcell)) _ rfl, hR⟩
 ·show Leaves Tryz.prog Tryz.f108 _ R _ (.panicking _) w1
  refine leaves_cons (f := 158) (args := #[.pointer (some ⟨w.heap.size, 0, none⟩)]) (by simp) (by simp [go_sem]) ?_
  refine (d158_text w.heap.size _ _ w1 hcell).mono ?_
  rintro e u' w'' ⟨rfl, rfl, rfl⟩
  exact ⟨_, hfin _ 4 (setRow_heap _ _ #[.int .i64 0] _ 31 _ (by rw [heap_setRow_ne _ _ (by omega), heap_alloc_old _ _ hlt]; exact hcell)) _ rfl, hR⟩
end Go.Proofs.YtohmhlkdgfcaeaaGreatDoor
namespace Go.Proofs.YtohmhlkdgfcaeaaGreatDoor
open Go Go.RowKit
theorem upon_mono {P : Program} {o : Oper} {a : Act} {K K' : Act → World → Prop} {Q Q' : Exit → Act → World → Prop} {r : Result Next} (h : o.upon P a K Q r)
  (hk : ∀ v w, K (a.put o.dst v) w → K' (a.put o.dst v) w) (hd : ∀ d v w, K ({ a with defers := d :: a.defers }.put o.dst v) w → K' ({ a with defers := d :: a.defers }.put o.dst v) w)
  (hq : ∀ ch w, Q (.panic ch) a w → Q' (.panic ch) a w) (ho : ¬ LetsOut Q) : o.upon P a K' Q' r := by
 unfold Oper.upon at h ⊢
 split at h
 ·exact hk _ _ h
 ·exact hk _ _ h
 ·exact hd _ _ _ h
 ·refine h.mono ?_
  intro e w'' he
  cases e with
  | returned v => exact hk _ _ he
  | panicked ch => exact hq _ _ he
  | outgrown => exact (ho he).elim
 ·exact h.mono (fun v w'' hv => hk _ _ hv)
 ·exact hq _ _ h
 ·exact h.elim
theorem wpList_mono' {P : Program} {ops : Array Oper} : ∀ (l : List Oper) (Q1 Q2 : Exit → Act → World → Prop) (a : Act) (w : World), (∀ e a w, Q1 e a w → Q2 e a w) → ¬ LetsOut Q1 → wpList P ops Q1 l a w → wpList P ops Q2 l a w := by
 intro l
 induction l with
 | nil => intro Q1 Q2 a w h _ h2; exact h _ _ _ h2
 | cons o l ih =>
  intro Q1 Q2 a w h hn h2
  simp only [wpList] at h2 ⊢
  split
  ·rename_i hw
   rw [if_pos hw] at h2
   rcases h2 with h2 | h2
   ·left
    exact upon_mono h2 (fun v w1 h3 => ih _ _ _ _ h hn h3) (fun d v w1 h3 => ih _ _ _ _ h hn h3) (fun ch w1 h3 => h _ _ _ h3) hn
   ·exact (hn h2.2).elim
  ·rename_i hw
   rw [if_neg hw] at h2
   exact ih _ _ _ _ h hn h2
theorem wpList_keep {P : Program} {ops : Array Oper} {Q : Exit → Act → World → Prop} (S : Nat → Prop) (ho : ¬ LetsOut Q) : ∀ (l : List Oper) (a : Act) (w : World), (∀ o ∈ l, ∀ t, S t → o.dst ≠ some t) → wpList P ops Q l a w →
  wpList P ops (fun e a' w' => Q e a' w' ∧ ∀ t, S t → a'.tmps[t]? = a.tmps[t]?) l a w := by
 have hput : ∀ (o : Oper) (a : Act) (v : Value), (∀ t, S t → o.dst ≠ some t) → ∀ t, S t → (a.put o.dst v).tmps[t]? = a.tmps[t]? := by
  intro o a v h t ht
  have h := h t ht
  cases hd : o.dst with
  | none => rfl
  | some d =>
   rw [hd] at h
   simp only [Act.put]
   exact Array.getElem?_setIfInBounds_ne (fun e => h (by rw [e]))
 have mono := fun (l : List Oper) (Q1 Q2 : Exit → Act → World → Prop) => wpList_mono' (P := P) (ops := ops) l Q1 Q2
 intro l
 induction l with
 | nil => intro a w _ h; exact ⟨h, fun _ _ => rfl⟩
 | cons o l ih =>
  intro a w hl h
  have hne := hl o List.mem_cons_self
  have hl' : ∀ o ∈ l, ∀ t, S t → o.dst ≠ some t := fun o ho => hl o (List.mem_cons_of_mem _ ho)
  have conv : ∀ (a1 : Act) (w1 : World), (∀ t, S t → a1.tmps[t]? = a.tmps[t]?) → wpList P ops Q l a1 w1 → wpList P ops (fun e a' w' => Q e a' w' ∧ ∀ t, S t → a'.tmps[t]? = a.tmps[t]?) l a1 w1 := by
   intro a1 w1 h1 h2
   exact mono _ _ _ _ _ (fun e a w hq => ⟨hq.1, fun t ht => (hq.2 t ht).trans (h1 t ht)⟩) (by rintro ⟨a, w, hq, _⟩; exact ho ⟨a, w, hq⟩) (ih a1 w1 hl' h2)
  simp only [wpList] at h ⊢
  split
  ·rename_i hw
   rw [if_pos hw] at h
   rcases h with h | h
   ·left
    exact upon_mono h (fun v w1 h2 => conv _ _ (hput o a v hne) h2) (fun d v w1 h2 => conv _ _ (hput o { a with defers := d :: a.defers } v hne) h2) (fun ch w1 h2 => ⟨h2, fun _ _ => rfl⟩) ho
   ·exact (ho h.2).elim
  ·rename_i hw
   rw [if_neg hw] at h
   exact conv _ _ (hput o a undef hne) h
def QN (K : Env → Prop) : Exit → Env → Prop
 | .normal, E => K E
 | _, _ => False
def keepB (ks : List Nat) (l : List Oper) : Bool := l.all fun o => match o.dst with | none => true | some d => ks.all fun t => !Nat.beq d t
theorem keepB_ne {ks : List Nat} {l : List Oper} (h : keepB ks l = true) : ∀ o ∈ l, ∀ t, t ∈ ks → o.dst ≠ some t := by
 intro o ho t ht e
 have h1 := List.all_eq_true.1 h o ho
 rw [e] at h1
 have h2 := List.all_eq_true.1 h1 t ht
 simp at h2
theorem reg_list {X : Cx} {l : List Oper} {E : Env} {K : Env → Prop} (ks : List Nat) (hkb : keepB ks l = true) {g : Ghost} {F : Foot} {a : Act} {w : World} (hr : Rel X.w0 X.F0 X.nt g F E a w) (h : Ops X l.toArray l E (QN K)) {Q : Exit → Act → World → Prop}
  (hk : ∀ a' w' g' F' E', Rel X.w0 X.F0 X.nt g' F' E' a' w' → K E' → (∀ t, t ∈ ks → a'.tmps[t]? = a.tmps[t]?) → Q .normal a' w') : wpList X.P l.toArray (fun e a' w' => e = .normal ∧ Q .normal a' w') l a w := by
 have h1 := wpList_keep (fun t => t ∈ ks) (Q := QQ X (QN K)) (by rintro ⟨a, w, g, F, E, _, hq⟩; exact hq) l a w (keepB_ne hkb) (h g F a w hr)
 have mono := wpList_mono' (P := X.P) (ops := l.toArray) l (fun e a' w' => QQ X (QN K) e a' w' ∧ ∀ t, t ∈ ks → a'.tmps[t]? = a.tmps[t]?) (fun e a' w' => e = .normal ∧ Q .normal a' w') a w ?_ ?_ h1
 ·exact mono
 ·rintro e a' w' ⟨⟨g', F', E', hr', hq⟩, hkeep⟩
  cases e with
  | normal => exact ⟨rfl, hk a' w' g' F' E' hr' hq hkeep⟩
  | _ => exact hq.elim
 ·rintro ⟨a, w, ⟨g, F, E, _, hq⟩, _⟩
  exact hq
end Go.Proofs.YtohmhlkdgfcaeaaGreatDoor
namespace Go.Proofs.YtohmhlkdgfcaeaaGreatDoor
open Go Go.RowKit
theorem Rel.slots {w0 : World} {F0 : Foot} {nt nt' : Nat} {g : Ghost} {F : Foot} {ts0 ts : List (Nat × TV)} {bs : List (Nat × TypeId × List TV)} {rs : List (Nat × RowS)} {a0 a : Act} {w : World} (h : Rel w0 F0 nt g F ⟨ts0, bs, rs⟩ a0 w)
  (hd : a.defers = []) (hs : a.tmps.size = nt') (ht : ∀ t v, lk ts t = some v → ∃ u, a.tmps[t]? = some u ∧ RelT w F g v u) : Rel w0 F0 nt' g F ⟨ts, bs, rs⟩ a w :=
 ⟨hd, hs, ht, h.bs, h.bd, h.bi, h.rs, h.rd, h.ri, h.rb, h.ok, h.ext, h.le⟩
def StoreFun (g : FuncId) (caps0 : List PV) (T : TypeId) (m : Nat) (r : Except Value (List PV)) : Prop :=
 ∀ (w : World) (F : Foot) (vs : Array Value) (b : Nat) (us : Array Value), F.ok w → RdL w F caps0 vs → w.heap[b]? = some (.cells us T (0, 0)) → us.size = m → (∀ o, ¬ F.c b o) → ¬ F.m b →
  Calls Tryz.prog g (vs.push (.pointer (some ⟨b, 0, none⟩))) w fun e w' => match r with
   | .ok cs => (∃ v, e = .returned v) ∧ ∃ us' F' w1, Ext F w w1 ∧ F.le F' w.heap.size ∧ F'.ok w1 ∧ us'.size = m ∧ cs.length = m ∧ (∀ (j : Nat) (c : PV) (u : Value), cs[j]? = some c → us'[j]? = some u → Rd w1 F' c u) ∧ w' = w1.setRow b us'
   | .error v => e = .panicked [{ v := v, recovered := false }] ∧ ∃ F', Ext F w w' ∧ F.le F' w.heap.size ∧ F'.ok w'
theorem RdL.two {w : World} {F : Foot} {x y : PV} {vs : Array Value} (h : RdL w F [x, y] vs) : ∃ v0 v1, vs = #[v0, v1] ∧ Rd w F x v0 ∧ Rd w F y v1 := by
 have hs : vs.size = 2 := h.1
 refine ⟨vs[0], vs[1], ?_, h.2 0 _ _ rfl (Array.getElem?_eq_getElem (by omega)), h.2 1 _ _ rfl (Array.getElem?_eq_getElem (by omega))⟩
 apply Array.ext
 ·simpa using hs
 ·intro i h1 h2
  match i with
  | 0 => rfl
  | 1 => rfl
  | i + 2 => exact absurd h2 (by simp)
theorem RdL.one {w : World} {F : Foot} {x : PV} {vs : Array Value} (h : RdL w F [x] vs) : ∃ v0, vs = #[v0] ∧ Rd w F x v0 := by
 have hs : vs.size = 1 := h.1
 refine ⟨vs[0], ?_, h.2 0 _ _ rfl (Array.getElem?_eq_getElem (by omega))⟩
 apply Array.ext
 ·simpa using hs
 ·intro i h1 h2
  match i with
  | 0 => rfl
  | i + 1 => exact absurd h2 (by simp)
theorem rd_loadA {P : Program} {T : TypeId} {n : Nat} {cs : List PV} {w : World} {F : Foot} {v : Value} {o : Oper} {a : Act} {x : Operand} (ha : AggIs P T true) (hs : SzIs P T n) (hl : cs.length = n) (h : Rd w F (.ref cs) v) (hx : a.eval x = v) (ho : o.op = .load T x := by rfl) :
  ∃ us, (execOp a.eval o).run P w = .ok (.value (.agg us)) w ∧ Rd w F (.agg cs) (.agg us) := by
 cases h with
 | ref _ ad us h2 h3 h4 =>
  have hrun := run_loadA (P := P) (w := w) (ad := ad) (us := (List.range n).map us) ha (by simpa using hs) (fun j u hj => by
   rw [List.getElem?_map] at hj
   obtain ⟨j', hj', rfl⟩ := Option.map_eq_some_iff.1 hj
   have hlt := (List.getElem?_eq_some_iff.1 hj').1
   simp only [List.length_range] at hlt
   rw [List.getElem?_range hlt] at hj'
   cases hj'
   exact h2 j _ (List.getElem?_eq_getElem (by omega)))
  refine ⟨_, by simp only [execOp, ho, hx, Sem.run_bind, hrun, Result.andThen_ok]; rfl, .agg _ _ (by simpa using hl.symm) ?_⟩
  intro j c u hj hu
  have hlt : j < n := by have := (List.getElem?_eq_some_iff.1 hj).1; omega
  simp only [List.getElem?_toArray, List.getElem?_map, List.getElem?_range hlt, Option.map_some, Option.some.injEq] at hu
  subst hu
  exact h4 j c hj
theorem rd_load1 {P : Program} {T : TypeId} {c : PV} {w : World} {F : Foot} {v : Value} {o : Oper} {a : Act} {x : Operand} (ha : AggIs P T false) (h : Rd w F (.ref [c]) v) (hx : a.eval x = v) (ho : o.op = .load T x := by rfl) :
  ∃ u, (execOp a.eval o).run P w = .ok (.value u) w ∧ Rd w F c u := by
 cases h with
 | ref _ ad us h2 h3 h4 =>
  have h5 := h2 0 c rfl
  have hz : ad.add 0 = ad := by simp [Addr.add]
  rw [hz] at h5
  refine ⟨us 0, ?_, h4 0 c rfl⟩
  simp only [execOp, ho, hx, Sem.run_bind, run_load1 ha h5, Result.andThen_ok]
  rfl
theorem wpList_callf {P : Program} {ops : Array Oper} {rest : List Oper} {o : Oper} {a : Act} {w : World} {Q : Exit → Act → World → Prop} {f : FuncId} {xs : List Operand} {tys : Array TypeId} {R : Ending → World → Prop}
  (hg : o.guard = none) (ho : o.op = .call { callee := .value (.func f), args := xs.toArray, argTypes := tys }) (hc : Callable P f)
  (h : Calls P f (xs.map a.eval).toArray w R) (h1 : ∀ v w', R (.returned v) w' → wpList P ops Q rest (a.put o.dst v) w') (h2 : ∀ ch w', R (.panicked ch) w' → Q (.panic ch) a w') (h3 : ∀ w', ¬ R .outgrown w') : wpList P ops Q (o :: rest) a w := by
 simp only [wpList, wantedNone hg, if_true]
 refine .inl ?_
 unfold Oper.wp
 simp only [execOp, ho, resolve, Act.eval, Deferred.ofValue, Sem.run_bind, Sem.run_pure, Result.andThen_ok, invoke, Array.append_empty, run_enter hc, Oper.upon]
 have e : (Array.map a.eval xs.toArray) = (xs.map a.eval).toArray := by simp
 refine Calls.mono (R := R) (by simpa using h) ?_
 intro e w'' he
 cases e with
 | returned v => exact h1 v w'' he
 | panicked ch => exact h2 ch w'' he
 | outgrown => exact (h3 _ he).elim
theorem run_storeN {P : Program} {T : TypeId} {n : Nat} {o : Oper} {a : Act} {x y : Operand} {us us' : Array Value} (hs : SzIs P T n) (hn : us'.size = n) (hn0 : us.size = n) (w : World) (b : Nat) (T' : TypeId) (hb : w.heap[b]? = some (.cells us T' (0, 0))) (hx : a.eval x = .pointer (some ⟨b, 0, none⟩)) (hy : a.eval y = .agg us') (h2 : ∀ u ∈ us', u.oneCell' = true) (ho : o.op = .store T x y := by rfl) :
  (execOp a.eval o).run P w = .ok .skip (w.setRow b us') := by
 have hst := run_storeCells_at P b 0 T' us'.toList 0 us w hb (by simp; omega) (fun u hu => h2 u (by simpa using hu))
 simp only [execOp, ho, hx, hy, Sem.run_bind, Instr.storeAt, Instr.sureAddr, storeVar, Sem.run_pure, Result.andThen_ok, hs.run, Value.cells]
 have e1 : (us.toList.take (0 + 0) ++ us'.toList ++ us.toList.drop (0 + 0 + us'.toList.length)).toArray = us' := by
  have : us.toList.drop (us'.toList.length) = [] := List.drop_eq_nil_of_le (by simp; omega)
  simp only [Nat.add_zero, List.take_zero, List.nil_append, Nat.zero_add, this, List.append_nil, Array.toArray_toList]
 rw [e1] at hst
 rw [if_neg (by simpa using hn)]
 simp [hst]
theorem agg_one {w : World} {F : Foot} {cs : List PV} {us : Array Value} (h : Rd w F (.agg cs) (.agg us)) (h1 : cs.all PV.one = true) : us.size = cs.length ∧ (∀ u ∈ us, u.oneCell' = true) ∧ ∀ (j : Nat) (c : PV) (u : Value), cs[j]? = some c → us[j]? = some u → Rd w F c u := by
 cases h with
 | agg _ _ hl hr =>
  refine ⟨hl, ?_, hr⟩
  intro u hu
  obtain ⟨j, hj⟩ := List.getElem?_of_mem (Array.mem_toList_iff.2 hu)
  have hj' : us[j]? = some u := by simpa using hj
  have hlt : j < cs.length := by have := (Array.getElem?_eq_some_iff.1 hj').1; omega
  exact (rd_one (hr j cs[j] u (List.getElem?_eq_getElem hlt) hj') (List.all_eq_true.1 h1 _ (List.getElem_mem hlt))).1
theorem Ext.at_b {F : Foot} {w w1 : World} (h : Ext F w w1) {b : Nat} {o : Obj} (hb : w.heap[b]? = some o) (hm : ¬ F.m b) : w1.heap[b]? = some o :=
 (h.blk b (Array.getElem?_eq_some_iff.1 hb).1 hm).trans hb
theorem ag27 : AggIs Tryz.prog 27 true := AggIs.mk (by kernel_rfl)
theorem sz27 : SzIs Tryz.prog 27 6 := SzIs.mk (by kernel_rfl)
theorem ag9 : AggIs Tryz.prog 9 false := AggIs.mk (by kernel_rfl)
theorem sz115 : SzIs Tryz.prog 115 8 := SzIs.mk (by kernel_rfl)
theorem ca173 : Callable Tryz.prog 173 := by unfold Callable; kernel_rfl
theorem ca110 : Callable Tryz.prog 110 := by unfold Callable; kernel_rfl
theorem ca108 : Callable Tryz.prog 108 := by unfold Callable; kernel_rfl
theorem st_of_172 (d : Drum) (acid : Int) (r : Except Value Filled) (hF : Fun Tryz.prog 173 [.agg (cDrum d), .val (.int .i64 acid)] (rs (fun r => .agg (cFilled r)) r)) : StoreFun 172 [.ref (cDrum d), .ref [.i acid]] 115 8 (r.map cFilled) := by
 intro w F vs b us hok hvs hb hus hnc hnm
 obtain ⟨v0, v1, rfl, h0, h1⟩ := hvs.two
 refine calls_of_wp Tryz.func172 rfl ?_
 refine wp_gen (Pr := fun a => a.tmps.size = 6 ∧ a.eval (.tmp 0) = v0 ∧ a.eval (.tmp 1) = v1 ∧ a.eval (.tmp 2) = .pointer (some ⟨b, 0, none⟩) ∧ a.defers = []) ⟨by simp [Tryz.ntmps172], by simp [Act.eval], by simp [Act.eval], by simp [Act.eval], rfl⟩ ?_
 rintro a ⟨hs, e0, e1, e2, hd⟩
 refine wp_region_lit ?_
 obtain ⟨ud, hr0, hd0⟩ := rd_loadA (P := Tryz.prog) (T := 27) (o := { (default : Oper) with op := .load 27 (.tmp 0) }) (x := .tmp 0) ag27 sz27 rfl h0 e0
 refine wpList_val (v := .agg ud) (w' := w) rfl rfl hr0 ?_
 obtain ⟨ui, hr1, hd1⟩ := rd_load1 (P := Tryz.prog) (T := 3) (o := { (default : Oper) with op := .load 3 (.tmp 1) }) (a := a.put (some 3) (.agg ud)) (x := .tmp 1) ag3 h1 (by rw [ev_ne (by decide)]; exact e1)
 refine wpList_val (v := ui) (w' := w) rfl rfl hr1 ?_
 refine wpList_callf (f := 173) (xs := [.tmp 3, .tmp 4]) (tys := #[27, 3]) rfl rfl ca173 (hF w F _ hok ?_) ?_ ?_ ?_
 ·refine ⟨rfl, fun j c v hc hv => ?_⟩
  match j with
  | 0 => simp only [List.getElem?_cons_zero, Option.some.injEq, List.map_cons, List.getElem?_toArray] at hc hv; subst hc hv; rw [ev_ne (by decide), ev_same (by omega)]; exact hd0
  | 1 => simp only [List.getElem?_cons_succ, List.getElem?_cons_zero, Option.some.injEq, List.map_cons, List.getElem?_toArray] at hc hv; subst hc hv; rw [ev_same (by simp [Act.put, hs])]; exact hd1
  | j + 2 => simp at hc
 ·rintro v w1 ⟨F1, x1, x2, x3, x4⟩
  cases r with
  | error p => cases x4
  | ok f =>
   obtain ⟨v', hv', hrd⟩ := x4
   cases hv'
   obtain ⟨us', rfl⟩ : ∃ us', v = .agg us' := by cases hrd with | agg _ us' _ _ => exact ⟨us', rfl⟩
   obtain ⟨q1, q2, q3⟩ := agg_one hrd rfl
   refine wpList_none (w' := w1.setRow b us') rfl rfl (run_storeN (n := 8) sz115 (by simpa using q1) hus w1 b 115 (x1.at_b hb hnm) (x := .tmp 2) (y := .tmp 5) (by (repeat rw [ev_ne (by decide)]); exact e2) (ev_same (by simp [Act.put, hs])) q2) ?_
   refine ⟨hd, ?_⟩
   refine ⟨.tuple #[], by simp [results, Tryz.results172], ⟨_, rfl⟩, us', F1, w1, x1, x2, x3, by simpa using q1, rfl, q3, rfl⟩
 ·rintro ch w1 ⟨F1, x1, x2, x3, x4⟩
  cases r with
  | ok f => obtain ⟨v', hv', _⟩ := x4; cases hv'
  | error p => cases x4; exact ⟨hd, rfl, F1, x1, x2, x3⟩
 ·rintro w1 ⟨F1, x1, x2, x3, x4⟩
  cases r with
  | ok f => obtain ⟨v', hv', _⟩ := x4; cases hv'
  | error p => cases x4
theorem st_of_109 (s : ByteArray) (r : Except Value Drum) (hF : Fun Tryz.prog 110 [.s s] (rs (fun r => .agg (cDrum r)) r)) : StoreFun 109 [.ref [.s s]] 27 6 (r.map cDrum) := by
 intro w F vs b us hok hvs hb hus hnc hnm
 obtain ⟨v0, rfl, h0⟩ := hvs.one
 refine calls_of_wp Tryz.func109 rfl ?_
 refine wp_gen (Pr := fun a => a.tmps.size = 4 ∧ a.eval (.tmp 0) = v0 ∧ a.eval (.tmp 1) = .pointer (some ⟨b, 0, none⟩) ∧ a.defers = []) ⟨by simp [Tryz.ntmps109], by simp [Act.eval], by simp [Act.eval], rfl⟩ ?_
 rintro a ⟨hs, e0, e2, hd⟩
 refine wp_region_lit ?_
 obtain ⟨ui, hr1, hd1⟩ := rd_load1 (P := Tryz.prog) (T := 9) (o := { (default : Oper) with op := .load 9 (.tmp 0) }) (a := a) (x := .tmp 0) ag9 h0 e0
 refine wpList_val (v := ui) (w' := w) rfl rfl hr1 ?_
 refine wpList_callf (f := 110) (xs := [.tmp 2]) (tys := #[9]) rfl rfl ca110 (hF w F _ hok ?_) ?_ ?_ ?_
 ·refine ⟨rfl, fun j c v hc hv => ?_⟩
  match j with
  | 0 => simp only [List.getElem?_cons_zero, Option.some.injEq, List.map_cons, List.getElem?_toArray] at hc hv; subst hc hv; rw [ev_same (by omega)]; exact hd1
  | j + 1 => simp at hc
 ·rintro v w1 ⟨F1, x1, x2, x3, x4⟩
  cases r with
  | error p => cases x4
  | ok f =>
   obtain ⟨v', hv', hrd⟩ := x4
   cases hv'
   obtain ⟨us', rfl⟩ : ∃ us', v = .agg us' := by cases hrd with | agg _ us' _ _ => exact ⟨us', rfl⟩
   obtain ⟨q1, q2, q3⟩ := agg_one hrd rfl
   refine wpList_none (w' := w1.setRow b us') rfl rfl (run_storeN (n := 6) sz27 (by simpa using q1) hus w1 b 27 (x1.at_b hb hnm) (x := .tmp 1) (y := .tmp 3) (by (repeat rw [ev_ne (by decide)]); exact e2) (ev_same (by simp [Act.put, hs])) q2) ?_
   refine ⟨hd, ?_⟩
   refine ⟨.tuple #[], by simp [results, Tryz.results109], ⟨_, rfl⟩, us', F1, w1, x1, x2, x3, by simpa using q1, rfl, q3, rfl⟩
 ·rintro ch w1 ⟨F1, x1, x2, x3, x4⟩
  cases r with
  | ok f => obtain ⟨v', hv', _⟩ := x4; cases hv'
  | error p => cases x4; exact ⟨hd, rfl, F1, x1, x2, x3⟩
 ·rintro w1 ⟨F1, x1, x2, x3, x4⟩
  cases r with
  | ok f => obtain ⟨v', hv', _⟩ := x4; cases hv'
  | error p => cases x4
end Go.Proofs.YtohmhlkdgfcaeaaGreatDoor
namespace Go.Proofs.YtohmhlkdgfcaeaaGreatDoor
open Go Go.RowKit
theorem setCell_turns {w0 : World} {F : Foot} {w : World} {b : Nat} {v : Value} (h0 : w0.heap.size ≤ b) (hF : ∀ o, ¬ F.c b o) (hm : ¬ F.m b) : Turns w0 F (fun x => x = b) w (w.setCell ⟨b, 0, none⟩ v) := by
 refine ⟨rfl, rfl, rfl, by simp [World.setCell], fun k hk hs => ?_, fun k hs => by subst hs; exact ⟨h0, hF, hm⟩⟩
 simp only [World.setCell, Array.getElem?_modify]
 rw [if_neg (fun e => hs e.symm)]
section
variable {w0 : World} {F0 : Foot} {nt : Nat} {gh : Ghost} {F F' : Foot} {E : Env} {a : Act} {w w1 : World}
theorem no_m (ok : F.ok w) {b : Nat} (hb : w.heap.size ≤ b) : ¬ F.m b := by
 rintro ⟨ws, hm⟩
 have := cacheAt_lt (ok.at_ _ _ hm)
 omega
theorem Rel.try_pan (hr : Rel w0 F0 nt gh F E a w) (x1 : Ext F (w.alloc (.cells #[.int .i64 0] 31)) w1) (x2 : F.le F' (w.alloc (.cells #[.int .i64 0] 31)).heap.size) (x3 : F'.ok w1) (u u' : Value) (T : TypeId) (c : Value) :
  Rel w0 F0 nt gh F' E a (((w1.alloc (.cells #[u] T)).setRow w1.heap.size #[u']).setRow w.heap.size #[c]) := by
 have hr2 := (hr.alloc (.cells #[.int .i64 0] 31)).call x1 x2 x3
 have hne : w.heap.size < w1.heap.size := by have := x1.size; simp at this; omega
 have hnc : ∀ o, ¬ F'.c w.heap.size o := fun o hc => by
  rcases x2.cn _ _ hc with z | z
  ·have := hr.ok.lt _ _ z; omega
  ·simp at z; omega
 have hnm : ¬ F'.m w.heap.size := by
  rintro ⟨ws, hm⟩
  rcases x2.mn _ _ hm with z | z
  ·have := cacheAt_lt (hr.ok.at_ _ _ z); omega
  ·simp at z; omega
 have hr3 := hr2.alloc (.cells #[u] T)
 obtain ⟨t1, _⟩ := setRow_turns (w0 := w0) (F := F') (cs := #[u']) (heap_alloc_new w1 (.cells #[u] T)) hr2.ext.size (fun o hc => by have := hr2.ok.lt _ _ hc; omega) (no_m hr2.ok (Nat.le_refl _))
 have hr4 := hr3.still t1 (fun k' b' hb' e => by have := (hr2.bx_lt hb').1; omega) (fun k' v' b' hv' hb' e => by have := (hr2.rw_lt hv' hb').1; omega)
 have hcell : ((w1.alloc (.cells #[u] T)).setRow w1.heap.size #[u']).heap[w.heap.size]? = some (.cells #[.int .i64 0] 31 (0, 0)) := by
  rw [heap_setRow_ne _ _ (by omega), heap_alloc_old _ _ hne]
  exact x1.at_b (heap_alloc_new w _) (fun hm => by
   obtain ⟨ws, hm⟩ := hm
   have := cacheAt_lt (hr.ok.at_ _ _ hm); omega)
 obtain ⟨t2, _⟩ := setRow_turns (w0 := w0) (F := F') (cs := #[c]) hcell hr.ext.size hnc hnm
 exact hr4.still t2 (fun k' b' hb' e => by have := (hr.bx_lt hb').1; omega) (fun k' v' b' hv' hb' e => by have := (hr.rw_lt hv' hb').1; omega)
theorem Rel.try_ok (hr : Rel w0 F0 nt gh F E a w) (x1 : Ext F (w.alloc (.cells #[.int .i64 0] 31)) w1) (x2 : F.le F' (w.alloc (.cells #[.int .i64 0] 31)).heap.size) (x3 : F'.ok w1) {k b : Nat} {T : TypeId} {cs : List TV} {cs' : List PV} {us' : Array Value} (hk : lk E.bs k = some (T, cs)) (hb : gh.bx k = some b)
  (hl : us'.size = cs'.length) (hrd : ∀ (j : Nat) (c : PV) (u : Value), cs'[j]? = some c → us'[j]? = some u → Rd w1 F' c u) (c : Value) :
  Rel w0 F0 nt gh F' { E with bs := (k, T, cs'.map .pv) :: E.bs } a ((w1.setRow b us').setCell ⟨w.heap.size, 0, none⟩ c) := by
 have hr2 := (hr.alloc (.cells #[.int .i64 0] 31)).call x1 x2 x3
 have hnc : ∀ o, ¬ F'.c w.heap.size o := fun o hc => by
  rcases x2.cn _ _ hc with z | z
  ·have := hr.ok.lt _ _ z; omega
  ·simp at z; omega
 have hnm : ¬ F'.m w.heap.size := by
  rintro ⟨ws, hm⟩
  rcases x2.mn _ _ hm with z | z
  ·have := cacheAt_lt (hr.ok.at_ _ _ z); omega
  ·simp at z; omega
 obtain ⟨b', us0, q1, q2, q3, q4, q5, q6⟩ := hr2.bs k T cs hk
 rw [hb] at q1
 cases q1
 obtain ⟨t1, t1'⟩ := setRow_turns (w0 := w0) (F := F') (cs := us') q2 q5 q6 (hr2.bx_m hb)
 have hr3 := hr2.setbox (cs' := cs'.map .pv) hk hb t1 t1' (by simpa using hl) (fun j c u hc hu => by
  rw [List.getElem?_map] at hc
  obtain ⟨c', hc', rfl⟩ := Option.map_eq_some_iff.1 hc
  exact hrd j c' u hc' hu)
 exact hr3.still (setCell_turns hr.ext.size hnc hnm) (fun k' b' hb' e => by have := (hr.bx_lt hb').1; omega) (fun k' v' b' hv' hb' e => by have := (hr.rw_lt hv' hb').1; omega)
end
theorem evs_eq {X : Cx} {g : Ghost} {F : Foot} {E : Env} {a : Act} {w : World} (hr : Rel X.w0 X.F0 X.nt g F E a w) {xs : List Operand} {l : List PV} (h : unpvO (xs.map (evT E)) = some l) : RdL w F l (xs.map a.eval).toArray := by
 obtain ⟨l1, l2⟩ := args_rel (X := X) (S := ⟨xs.flatMap opT, [], []⟩) h (fun t ht => ht) E g F a w (Sl.agree_refl _ _) hr
 exact ⟨by simpa using l1, fun j c v hc hv => l2 j c v hc (by simpa using hv)⟩
section
variable {w0 : World} {F0 : Foot} {nt : Nat} {ops : Array Oper} {rest : List Oper} {o1 o2 : Oper} {Q : Exit → Env → Prop} {ts : List (Nat × TV)} {bs : List (Nat × TypeId × List TV)} {rs : List (Nat × RowS)}
theorem Ops.try_ {g : FuncId} {xs : List Operand} {xb : Operand} {d1 d2 k m : Nat} {T : TypeId} {tys : Array TypeId} {caps0 : List PV} {r : Except Value (List PV)} {cs : List TV} (hg : Callable Tryz.prog g) (g1 : o1.guard = none) (g2 : o2.guard = none) (h1 : o1.op = .makeFunc (.func g) #[] (xs ++ [xb]).toArray) (hd1 : o1.dst = some d1)
  (h2 : o2.op = .call { callee := .value (.func 108), args := #[.tmp d1], argTypes := tys }) (hd2 : o2.dst = some d2) (hn1 : Nat.ble (d1 + 1) nt = true) (hn2 : Nat.ble (d2 + 1) nt = true) (hsf : StoreFun g caps0 T m r) (hcap : unpvO (xs.map (evT ⟨ts, bs, rs⟩)) = some caps0) (hxb : evT ⟨ts, bs, rs⟩ xb = some (.box k 0)) (hk : lk bs k = some (T, cs)) (hcs : Nat.beq cs.length m = true)
  (h : match r with
   | .ok cs' => Ops ⟨Tryz.prog, w0, F0, nt⟩ ops rest ⟨(d2, .pv (.i 0)) :: (d1, .pv .junk) :: ts, (k, T, cs'.map .pv) :: bs, rs⟩ Q
   | .error v => ((∃ i, v = .iface 175 (.agg #[.int .i64 i])) ∧ Ops ⟨Tryz.prog, w0, F0, nt⟩ ops rest ⟨(d2, .pv (.i 7)) :: (d1, .pv .junk) :: ts, bs, rs⟩ Q) ∨ ((∃ s, v = .iface 177 (.agg #[.string s])) ∧ Ops ⟨Tryz.prog, w0, F0, nt⟩ ops rest ⟨(d2, .pv (.i 4)) :: (d1, .pv .junk) :: ts, bs, rs⟩ Q)) :
  Ops ⟨Tryz.prog, w0, F0, nt⟩ ops (o1 :: o2 :: rest) ⟨ts, bs, rs⟩ Q := by
 intro gh F a w hr
 have hcs := Nat.eq_of_beq_eq_true hcs
 have hvs := evs_eq hr hcap
 obtain ⟨b, hb, hxv⟩ := evT_rel hr hxb
 obtain ⟨b', us, q1, q2, q3, q4, q5, q6⟩ := hr.bs k T cs hk
 rw [hb] at q1
 cases q1
 let fv : Value := .func (.func g) #[] ((xs.map a.eval).toArray.push (.pointer (some ⟨b, 0, none⟩)))
 refine wpList_val (v := fv) (w' := w) g1 hd1 ?_ ?_
 ·simp only [execOp, h1]
  simp [Instr.makeFunc, hxv, fv]
 have hr1 := hr.put (d := d1) (v := .pv .junk) (u := fv) (Nat.le_of_ble_eq_true hn1) (Rd.junk _)
 have hev : (a.put (some d1) fv).eval (.tmp d1) = fv := ev_same (by rw [hr.sz]; exact Nat.le_of_ble_eq_true hn1)
 have hE := hr1.alloc (.cells #[.int .i64 0] 31)
 have hbm : ¬ F.m b := hr.bx_m hb
 have hblt : b < w.heap.size := (Array.getElem?_eq_some_iff.1 q2).1
 have hcl := hsf (w.alloc (.cells #[.int .i64 0] 31)) F (xs.map a.eval).toArray b us hE.ok ⟨hvs.1, fun j c v hc hv => Rd.ext (Ext.of_below ((Below.refl _ w).alloc (Nat.le_refl _) _)) hr.ok (Foot.le.refl F 0) (hvs.2 j c v hc hv)⟩ (by rw [heap_alloc_old _ _ hblt]; exact q2) (by omega) q6 hbm
 have hnew : ¬ F.m w.heap.size := no_m hr.ok (Nat.le_refl _)
 refine wpList_callf (f := 108) (xs := [.tmp d1]) g2 h2 ca108 (R := fun e w' => (match r with
   | .ok cs' => e = .returned (.int .i64 0) ∧ ∃ F', Rel w0 F0 nt gh F' ⟨(d1, .pv .junk) :: ts, (k, T, cs'.map .pv) :: bs, rs⟩ (a.put (some d1) fv) w'
   | .error v => ((∃ i, v = .iface 175 (.agg #[.int .i64 i])) ∧ e = .returned (.int .i64 7) ∨ (∃ s, v = .iface 177 (.agg #[.string s])) ∧ e = .returned (.int .i64 4)) ∧ ∃ F', Rel w0 F0 nt gh F' ⟨(d1, .pv .junk) :: ts, bs, rs⟩ (a.put (some d1) fv) w')) ?_ ?_ ?_ ?_
 ·rw [List.map_cons, hev]
  refine c_try g _ (run_enter hg) w _ ?_
  refine hcl.mono ?_
  intro e w1 hp
  cases r with
  | ok cs' =>
   obtain ⟨⟨v, rfl⟩, us', F', w2, x1, x2, x3, y1, y2, y3, rfl⟩ := hp
   refine ⟨?_, .inl ⟨⟨v, rfl⟩, rfl, F', ?_⟩⟩
   ·rw [heap_setRow_ne _ _ (by omega)]
    exact x1.at_b (heap_alloc_new w _) hnew
   ·exact hr1.try_ok x1 x2 x3 hk hb (by omega) y3 _
  | error v =>
   obtain ⟨rfl, F', x1, x2, x3⟩ := hp
   refine ⟨x1.at_b (heap_alloc_new w _) hnew, ?_⟩
   rcases h with ⟨⟨i, rfl⟩, _⟩ | ⟨⟨s, rfl⟩, _⟩
   ·exact .inr (.inl ⟨i, rfl, .inl ⟨⟨i, rfl⟩, rfl⟩, F', hr1.try_pan x1 x2 x3 _ _ _ _⟩)
   ·exact .inr (.inr ⟨s, rfl, .inr ⟨⟨s, rfl⟩, rfl⟩, F', hr1.try_pan x1 x2 x3 _ _ _ _⟩)
 ·intro v w' hp
  rw [hd2]
  cases r with
  | ok cs' =>
   obtain ⟨he, F', hr'⟩ := hp
   cases he
   exact h _ _ _ _ (hr'.put (d := d2) (v := .pv (.i 0)) (Nat.le_of_ble_eq_true hn2) (Rd.val _))
  | error v =>
   obtain ⟨he, F', hr'⟩ := hp
   rcases h with ⟨⟨i, rfl⟩, h⟩ | ⟨⟨s, rfl⟩, h⟩
   ·rcases he with ⟨_, he⟩ | ⟨⟨s, hs⟩, he⟩
    ·cases he
     exact h _ _ _ _ (hr'.put (d := d2) (v := .pv (.i 7)) (Nat.le_of_ble_eq_true hn2) (Rd.val _))
    ·cases hs
   ·rcases he with ⟨⟨i, hs⟩, he⟩ | ⟨_, he⟩
    ·cases hs
    ·cases he
     exact h _ _ _ _ (hr'.put (d := d2) (v := .pv (.i 4)) (Nat.le_of_ble_eq_true hn2) (Rd.val _))
 ·intro ch w' hp
  cases r with
  | ok cs' => cases hp.1
  | error v => rcases hp.1 with ⟨_, he⟩ | ⟨_, he⟩ <;> cases he
 ·intro w' hp
  cases r with
  | ok cs' => cases hp.1
  | error v => rcases hp.1 with ⟨_, he⟩ | ⟨_, he⟩ <;> cases he
end
end Go.Proofs.YtohmhlkdgfcaeaaGreatDoor
namespace Go.Proofs.YtohmhlkdgfcaeaaGreatDoor
open Go Go.RowKit
section
variable {X : Cx} {id n : Nat} {l : List Oper} {E : Env} {K : Env → Prop} {g : Ghost} {F : Foot} {a : Act} {w : World} {Q : Exit → Act → World → Prop}
theorem wide_reg (ks : List Nat) (hkb : keepB ks l = true) (hr : Rel X.w0 X.F0 X.nt g F E a w) (h : Ops X l.toArray l E (QN K))
  (hk : ∀ a' w' g' F' E', Rel X.w0 X.F0 X.nt g' F' E' a' w' → K E' → (∀ t, t ∈ ks → a'.tmps[t]? = a.tmps[t]?) → Q .normal a' w') : (Code.region id l.toArray false).wpIn Fence.wide n X.P Q a w :=
 wpIn_mono (wpIn_wide.2 (wp_region_lit (reg_list ks hkb hr h hk))) (fun e a w hq => by obtain ⟨rfl, hq⟩ := hq; exact hq)
end
theorem Rel.start {F : Foot} {nt : Nat} {ts : List (Nat × TV)} {a : Act} {w : World} (hok : F.ok w) (hd : a.defers = []) (hs : a.tmps.size = nt) (ht : ∀ t v, lk ts t = some v → ∃ u, a.tmps[t]? = some u ∧ RelT w F ⟨fun _ => none, fun _ => none⟩ v u) :
  Rel w F nt ⟨fun _ => none, fun _ => none⟩ F ⟨ts, [], []⟩ a w :=
 ⟨hd, hs, ht, fun _ _ _ h => (by cases h), fun _ _ => rfl, fun _ _ _ h => (by cases h), fun _ _ h => (by cases h), fun _ _ => rfl, fun _ _ _ _ _ h => (by cases h), fun _ _ _ _ h => (by cases h), hok, Ext.refl _ _, Foot.le.refl _ _⟩
theorem slots_ok {w : World} {F : Foot} {g : Ghost} {a : Act} : ∀ {ts : List (Nat × TV)}, (∀ p ∈ ts, ∃ u, a.tmps[p.1]? = some u ∧ RelT w F g p.2 u) → ∀ t v, lk ts t = some v → ∃ u, a.tmps[t]? = some u ∧ RelT w F g v u := fun h t v hv => h (t, v) (lk_mem hv)
section
variable {P : Program} {ops : Array Oper} {rest : List Oper} {o : Oper} {a : Act} {w w' : World} {Q : Exit → Act → World → Prop} {n d : Nat}
theorem wide_val {v : Value} (hg : o.guard = none) (hd : o.dst = some d) (hrun : (execOp a.eval o).run P w = .ok (.value v) w') (hk : wpListIn Fence.wide n P ops Q rest (a.put (some d) v) w') : wpListIn Fence.wide n P ops Q (o :: rest) a w := by
 have hw : Region.wanted o (yielded ops a.tmps) = true := by simp [Region.wanted, hg]
 simp only [wpListIn, hw, if_true]
 refine ⟨fun _ _ => trivial, ?_⟩
 show o.uponIn Fence.wide n P a _ Q ((execOp a.eval o).run P w)
 rw [hrun]
 simp only [Oper.uponIn, hd]
 exact hk
theorem wide_yield {l : Nat} {v : Value} {x y : Operand} {tys : Array TypeId} {R : Ending → World → Prop} (hg : o.guard = none) (ho : o.op = .call { callee := .value x, args := #[y], argTypes := tys }) (hx : a.eval x = .func (.yield l) #[] #[]) (hy : a.eval y = v) (hd : o.dst = some d)
  (h : ∀ m, YieldAt Fence.wide m P l #[v] w R) (hR : ∀ e w', R e w' → e = .returned (.bool true)) (hk : ∀ w', R (.returned (.bool true)) w' → wpListIn Fence.wide n P ops Q rest (a.put (some d) (.bool true)) w') : wpListIn Fence.wide n P ops Q (o :: rest) a w := by
 have hw : Region.wanted o (yielded ops a.tmps) = true := by simp [Region.wanted, hg]
 simp only [wpListIn, hw, if_true]
 refine ⟨fun _ _ => trivial, ?_⟩
 show o.uponIn Fence.wide n P a _ Q ((execOp a.eval o).run P w)
 obtain ⟨fn, tmps, assign, body, h1, h2⟩ := h (n - 1)
 have hrun : (execOp a.eval o).run P w = .ok (.round l fn tmps assign body) w := by
  simp only [execOp, ho, resolve, hx, Deferred.ofValue, Sem.run_bind, Sem.run_pure, Result.andThen_ok, invoke]
  simp [hy, h1]
 rw [hrun]
 simp only [Oper.uponIn, hd]
 refine ⟨fun h => by simp [Fence.wide] at h, h2.mono ?_⟩
 intro e w' he
 obtain rfl := hR e w' he
 exact hk w' he
end
end Go.Proofs.YtohmhlkdgfcaeaaGreatDoor
namespace Go.Proofs.YtohmhlkdgfcaeaaGreatDoor
open Go Go.RowKit
def Obj.odd : Obj → Bool
 | .loop _ => true
 | .deferred _ => true
 | _ => false
structure Odd (W : World) (F : Foot) (k : Nat) (o : Obj) : Prop where
 at_ : W.heap[k]? = some o
 nc : ∀ q, ¬ F.c k q
 odd : Obj.odd o = true
section
variable {W W' : World} {F F' : Foot} {k : Nat} {o : Obj}
theorem Odd.lt (h : Odd W F k o) : k < W.heap.size := (Array.getElem?_eq_some_iff.1 h.at_).1
theorem Odd.m (h : Odd W F k o) (ok : F.ok W) : ¬ F.m k := by
 rintro ⟨ws, hm⟩
 obtain ⟨es, clk, h1, _⟩ := ok.at_ _ _ hm
 rw [h.at_] at h1
 cases h1
 exact absurd h.odd (by simp [Obj.odd])
theorem Odd.ext (h : Odd W F k o) (ok : F.ok W) (hx : Ext F W W') (hl : F.le F' W.heap.size) : Odd W' F' k o :=
 ⟨(hx.blk k h.lt (h.m ok)).trans h.at_, fun q hc => by rcases hl.cn _ _ hc with z | z; exact h.nc q z; have := h.lt; omega, h.odd⟩
theorem Odd.alloc (h : Odd W F k o) (o' : Obj) : Odd (W.alloc o') F k o := ⟨(heap_alloc_old W o' h.lt).trans h.at_, h.nc, h.odd⟩
theorem Odd.ne {cs : Array Value} {T : TypeId} {fr : Nat × Nat} {b : Nat} (h : Odd W F k o) (hb : W.heap[b]? = some (.cells cs T fr)) : k ≠ b := fun e => by
 subst e
 rw [h.at_] at hb
 cases hb
 exact absurd h.odd (by simp [Obj.odd])
theorem Odd.setRow (h : Odd W F k o) {b : Nat} (us : Array Value) (hne : k ≠ b) : Odd (W.setRow b us) F k o := ⟨(heap_setRow_ne W us hne).trans h.at_, h.nc, h.odd⟩
theorem Odd.grown (h : Odd W F k o) {row : Option Nat} (hg : W.grownBy W' row) (hne : row ≠ some k) : Odd W' F k o := ⟨(hg.block k h.lt (fun e => hne e.symm)).trans h.at_, h.nc, h.odd⟩
theorem Odd.put (h : Odd W F k o) {o' : Obj} (ho : Obj.odd o' = true) : Odd (W.putObj k o') F k o' := ⟨World.putObj_heap_same h.lt, h.nc, ho⟩
theorem Odd.other (h : Odd W F k o) {k' : Nat} (o' : Obj) (hne : k ≠ k') : Odd (W.putObj k' o') F k o := ⟨(World.putObj_heap_other hne).trans h.at_, h.nc, h.odd⟩
theorem Odd.turns {w0 : World} (h : Odd W F k o) (ok : F.ok W) (h0 : w0.heap.size ≤ k) (o' : Obj) : Turns w0 F (fun x => x = k) W (W.putObj k o') :=
 ⟨rfl, rfl, rfl, by simp, fun j hj hs => World.putObj_heap_other hs, fun j hs => by subst hs; exact ⟨h0, h.nc, h.m ok⟩⟩
theorem Odd.rel {w0 : World} {F0 : Foot} {nt : Nat} {g : Ghost} {E : Env} {a : Act} (h : Odd W F k o) (hr : Rel w0 F0 nt g F E a W) (h0 : w0.heap.size ≤ k) (o' : Obj) : Rel w0 F0 nt g F E a (W.putObj k o') :=
 hr.still (h.turns hr.ok h0 o') (fun k' b hb e => by
  subst e
  cases hl : lk E.bs k' with
  | none => rw [hr.bd k' hl] at hb; cases hb
  | some p =>
   obtain ⟨b', us, q1, q2, _⟩ := hr.bs k' p.1 p.2 hl
   rw [hb] at q1
   cases q1
   exact h.ne q2 rfl) (fun k' v b hv hb e => by
  subst e
  cases hl : lk E.rs k' with
  | none => rw [hr.rd k' hl] at hv; cases hv
  | some R =>
   obtain ⟨v', inner, q1, q2, _⟩ := hr.rs k' R hl
   rw [hv] at q1
   cases q1
   rcases q2.2 with ⟨rfl, _⟩ | ⟨q, cap, cur, rfl, _, hh, _⟩
   ·simp [Value.ownBlock] at hb
   ·simp only [Value.ownBlock, Option.some.injEq] at hb
    subst hb
    exact h.ne hh rfl)
end
section
variable {P : Program} {ops : Array Oper} {rest : List Oper} {o : Oper} {a : Act} {w w' : World} {Q : Exit → Act → World → Prop} {n d r : Nat}
theorem round_val {v : Value} (hnd : ∀ c, o.op ≠ .defer c) (hg : o.guard = none) (hd : o.dst = some d) (hrun : (execOp a.eval o).run P w = .ok (.value v) w') (hk : wpListIn (Fence.wide.inRound r) n P ops Q rest (a.put (some d) v) w') : wpListIn (Fence.wide.inRound r) n P ops Q (o :: rest) a w := by
 have hw : Region.wanted o (yielded ops a.tmps) = true := by simp [Region.wanted, hg]
 simp only [wpListIn, hw, if_true]
 refine ⟨fun _ _ => trivial, ?_⟩
 rw [show (Fence.wide.inRound r).round = some r from rfl, Oper.semAt_eq _ _ _ hnd, hrun]
 simp only [Oper.uponIn, hd]
 exact hk
theorem round_none (hnd : ∀ c, o.op ≠ .defer c) (hg : o.guard = none) (hd : o.dst = none) (hrun : (execOp a.eval o).run P w = .ok .skip w') (hk : wpListIn (Fence.wide.inRound r) n P ops Q rest a w') : wpListIn (Fence.wide.inRound r) n P ops Q (o :: rest) a w := by
 have hw : Region.wanted o (yielded ops a.tmps) = true := by simp [Region.wanted, hg]
 simp only [wpListIn, hw, if_true]
 refine ⟨fun _ _ => trivial, ?_⟩
 rw [show (Fence.wide.inRound r).round = some r from rfl, Oper.semAt_eq _ _ _ hnd, hrun]
 simp only [Oper.uponIn, hd]
 exact hk
end
theorem run_load_cell {P : Program} {T T' : TypeId} {w : World} {b : Nat} {v : Value} {o : Oper} {a : Act} {x : Operand} (ha : AggIs P T false) (hb : w.heap[b]? = some (.cells #[v] T' (0, 0))) (hx : a.eval x = .pointer (some ⟨b, 0, none⟩)) (ho : o.op = .load T x := by rfl) : (execOp a.eval o).run P w = .ok (.value v) w := by
 have hc : w.cell? ⟨b, 0, none⟩ = some v := by simp [World.cell?, hb]
 simp only [execOp, ho, hx, Sem.run_bind, run_load1 ha hc, Result.andThen_ok]
 rfl
theorem run_load_aggc {P : Program} {T T' : TypeId} {w : World} {b n : Nat} {us : Array Value} {o : Oper} {a : Act} {x : Operand} (ha : AggIs P T true) (hs : SzIs P T n) (hn : us.size = n) (hb : w.heap[b]? = some (.cells us T' (0, 0))) (hx : a.eval x = .pointer (some ⟨b, 0, none⟩)) (ho : o.op = .load T x := by rfl) : (execOp a.eval o).run P w = .ok (.value (.agg us)) w := by
 have hcl := run_loadCells_list (P := P) (w := w) ⟨b, 0, none⟩ us.toList (fun j v hv => by
  rw [addr_block, cell_of_row w b j us T' (0, 0) hb]
  simpa using hv)
 have e8 : us.toList.length = n := by simpa using hn
 rw [e8] at hcl
 simp only [execOp, ho, hx, Instr.loadAt, Instr.sureAddr, loadVar, Sem.run_bind, Sem.run_pure, Result.andThen_ok, ha.run, hs.run, if_true, hcl, Array.toArray_toList]
theorem run_buildSlice {X : Cx} {g : Ghost} {F : Foot} {E : Env} {a : Act} {w : World} {o : Oper} (hr : Rel X.w0 X.F0 X.nt g F E a w) {t e : TypeId} {sz n : Nat} {parts : List (Nat × Operand)} {pps : List (Nat × List PV)} {cs : List PV} {es : List (List PV)} (ho : o.op = .buildSlice t n parts.toArray) (hT : ElIs X.P t e sz) (hz : ∃ zs, ZeroIs X.P e zs)
  (hp : partsP E parts = some pps) (hf : fillP (fun i => some (i * sz, sz)) (List.replicate (n * sz) .junk) pps = some cs) (hn : Nat.ble (n * sz) 16777216 = true) (hes : chunkP sz n cs = es) (hcl : Nat.beq cs.length (n * sz) = true) :
  ∃ us, (execOp a.eval o).run X.P w = .ok (.value (.slice (some ⟨w.heap.size, 0, none⟩) n n)) (w.alloc (.cells us e)) ∧ Flat w F sz es us.toList ∧ us.size = n * sz := by
 obtain ⟨zs, i, z, h1, h2, h3⟩ := hz
 subst hes
 have hcl := Nat.eq_of_beq_eq_true hcl
 have hn := Nat.le_of_ble_eq_true hn
 obtain ⟨q1, q2⟩ := parts_alike (X := X) (S := ⟨parts.flatMap (fun p => opT p.2), [], []⟩) hp (fun t ht => ht) E g F a w (Sl.agree_refl _ _) hr
 have hzv : (zeroValue e).run X.P w = .ok z w := by simp [zeroValue, typeInfo, h1, h2]
 have key : ∀ zero : Array Value, ∃ us, Instr.fill (fun i => some (i * sz, sz)) ((Array.range (n * sz)).map (fun k => zero[k % zero.size]!)) (parts.map fun p => (p.1, a.eval p.2)) = some us ∧ Alike w F us cs := fun zero =>
  fill_alike (w := w) (F := F) (fun i => some (i * sz, sz)) _ pps _ _ cs q1 q2 ⟨by simp, fun j c u hj hu => by
   rw [List.getElem?_replicate] at hj
   split at hj
   ·cases hj; exact .junk _
   ·cases hj⟩ hf
 obtain ⟨us, k1, k2⟩ : ∃ us, Instr.fill (fun i => some (i * sz, sz)) ((Array.range (n * sz)).map (fun k => (if n * sz = 0 then #[] else z.cells)[k % (if n * sz = 0 then #[] else z.cells).size]!)) (parts.map fun p => (p.1, a.eval p.2)) = some us ∧ Alike w F us cs := key _
 refine ⟨us, ?_, flat_chunk k2 hcl, by rw [k2.1, hcl]⟩
 have e0 : (parts.toArray.map fun x => (x.fst, a.eval x.snd)).toList = parts.map fun p => (p.1, a.eval p.2) := by simp
 have hne : ¬ (n * sz > 2 ^ 24) := by omega
 simp only [execOp, ho, Instr.buildSlice, Sem.run_bind, run_underlying hT.1, Result.andThen_ok, hT.2.run, if_neg hne, e0]
 by_cases h0 : n * sz = 0
 ·simp only [h0, if_true] at k1 ⊢
  simp only [Sem.run_pure, Result.andThen_ok, Sem.run_bind]
  rw [h0] at *
  rw [k1]
  simp [newRow, newObj, Sem.run]
 ·simp only [if_neg h0] at k1 ⊢
  simp only [Sem.run_pure, Result.andThen_ok, Sem.run_bind, hzv]
  rw [k1]
  simp [newRow, newObj, Sem.run]
end Go.Proofs.YtohmhlkdgfcaeaaGreatDoor
namespace Go.Proofs.YtohmhlkdgfcaeaaGreatDoor
open Go Go.RowKit
theorem range_law {P : Program} {α : Type} {gop : Operand} {p : Tmp} {assign body : Code} {Q : Exit → Act → World → Prop} {a : Act} {w : World} {n gf : Nat} {lb : Array Value} {F4 : Foot} (hg : a.eval gop = .func (.func gf) #[] lb) (eg : Callable P gf)
  (I : List α → World → Foot → Prop) (hok : ∀ pre W F, I pre W F → F.ok W) (hext : ∀ pre W F W' F', I pre W F → Ext F W W' → F.le F' W.heap.size → F'.ok W' → I pre W' F')
  (hput : ∀ pre W F k o o', I pre W F → Odd W F k o → w.heap.size ≤ k → Obj.odd o' = true → I pre (W.putObj k o') F) (h0 : I [] w F4) (App : List α → α → List α → Prop) (Tell : α → World → Foot → Value → Prop)
  (Mid : List α → α → Act → World → Foot → Prop) (hmput : ∀ pre x a1 W F k o o', Mid pre x a1 W F → Odd W F k o → w.heap.size ≤ k → Obj.odd o' = true → Mid pre x a1 (W.putObj k o') F)
  (hassign : ∀ (l m : Nat) (pre : List α) (x : α) (W : World) (F : Foot) (v : Value) (k1 k2 : Nat) (o1 o2 : Obj), I pre W F → Tell x W F v → Odd W F k1 o1 → Odd W F k2 o2 →
   assign.wpIn (Fence.wide.inRound l) m P (Exit.then (fun a1 w1 => ∃ F1, Mid pre x a1 w1 F1 ∧ Odd w1 F1 k1 o1 ∧ Odd w1 F1 k2 o2) (fun _ _ _ => False)) { tmps := a.tmps.setIfInBounds p v, defers := [] } W)
  (hbody : ∀ (l m : Nat) (pre : List α) (x : α) (pre' : List α) (a1 : Act) (W : World) (F : Foot) (k1 k2 : Nat) (o1 o2 : Obj), Mid pre x a1 W F → App pre x pre' → Odd W F k1 o1 → Odd W F k2 o2 →
   body.wpIn (Fence.wide.inRound l) m P (fun e a2 w2 => e = .normal ∧ ∃ F2, I pre' w2 F2 ∧ Odd w2 F2 k1 o1 ∧ Odd w2 F2 k2 o2) a1 W)
  (S : List α → Prop)
  (hiter : ∀ (l m : Nat) (J : List α → World → Foot → Prop), (∀ pre W F, J pre W F → I pre W F) → (∀ pre W F W' F', J pre W F → Ext F W W' → F.le F' W.heap.size → F'.ok W' → J pre W' F') →
   (∀ pre x pre' W F v, J pre W F → App pre x pre' → Tell x W F v → ∀ m, YieldAt Fence.wide m P l #[v] W (fun e W' => e = .returned (.bool true) ∧ ∃ F', J pre' W' F')) →
   ∀ W F, J [] W F → CallsIn Fence.wide m P gf (#[.func (.yield l) #[] #[]] ++ lb) W fun e W' => (∃ v, e = .returned v) ∧ ∃ xs F', S xs ∧ J xs W' F')
  (hdone : ∀ D xs W F, S xs → I xs W F → Odd W F D (.deferred (some [])) → w.heap.size ≤ D → Q .normal { a with defers := { target := .collected D, args := #[] } :: a.defers } W) :
  (Code.rangeFunc gop #[p] assign body).wpIn Fence.wide n P Q a w := by
 refine wpIn_rangeFunc ?_
 intro fn _
 have ok4 := hok _ _ _ h0
 obtain ⟨rec, hrec⟩ : ∃ rec : LoopState → Loop, rec = fun st => { state := st, pending := none, fn, tmps := a.tmps, params := #[p], assign, body, defers := w.heap.size } := ⟨_, rfl⟩
 refine ⟨w.heap.size + 1, [{ target := .collected w.heap.size, args := #[] }], (w.alloc (.deferred (some []))).alloc (.loop (rec .ready)), { target := .fn (.func gf) lb, args := #[.func (.yield (w.heap.size + 1)) #[] #[]] }, (w.alloc (.deferred (some []))).alloc (.loop (rec .ready)), gf,
  #[.func (.yield (w.heap.size + 1)) #[] #[]] ++ lb, (w.alloc (.deferred (some []))).alloc (.loop (rec .ready)), ?_, ?_, fun _ _ => trivial, ?_, fun h => by simp [Fence.wide] at h, ?_⟩
 ·rw [hrec]; exact run_enterLoop_outer _ _ _ _ _
 ·simp only [resolve, hg]
  simp [go_sem]
 ·simp [invoke, run_enter eg]
 have hb1 : Ext F4 w ((w.alloc (.deferred (some []))).alloc (.loop (rec .ready))) := Ext.of_below (((Below.refl _ w).alloc (Nat.le_refl _) _).alloc (by simp) _)
 have hI1 := hext _ _ _ _ _ h0 hb1 (Foot.le.refl _ _) (hb1.ok ok4)
 have hD1 : Odd ((w.alloc (.deferred (some []))).alloc (.loop (rec .ready))) F4 w.heap.size (.deferred (some [])) :=
  Odd.alloc ⟨heap_alloc_new w _, fun q hc => by have := ok4.lt _ _ hc; omega, rfl⟩ _
 have hL1 : Odd ((w.alloc (.deferred (some []))).alloc (.loop (rec .ready))) F4 (w.heap.size + 1) (.loop (rec .ready)) :=
  ⟨by have := heap_alloc_new (w.alloc (.deferred (some []))) (.loop (rec .ready)); rwa [World.size_alloc] at this, fun q hc => by have := ok4.lt _ _ hc; omega, rfl⟩
 refine CallsIn.mono (hiter (w.heap.size + 1) _ (fun pre W F => I pre W F ∧ Odd W F (w.heap.size + 1) (.loop (rec .ready)) ∧ Odd W F w.heap.size (.deferred (some []))) (fun _ _ _ h => h.1) ?_ ?_ _ F4 ⟨hI1, hL1, hD1⟩) ?_
 ·rintro pre W F W' F' ⟨h1, h2, h3⟩ hx hl hk
  have okW := hok _ _ _ h1
  exact ⟨hext _ _ _ _ _ h1 hx hl hk, h2.ext okW hx hl, h3.ext okW hx hl⟩
 ·rintro pre x pre' W F v ⟨h1, h2, h3⟩ happ htell m
  have hy := run_yield (P := P) (args := #[v]) h2.at_ (by rw [hrec]; rfl)
  rw [hrec] at hy
  have hy2 : (Instr.yield (w.heap.size+1) #[v]).run P W = .ok (.round (w.heap.size+1) fn (a.tmps.setIfInBounds p v) assign body) W := by simpa using hy
  refine ⟨_, _, _, _, hy2, roundIn_of_wpIn trivial ?_⟩
  refine wpIn_mono (hassign _ _ pre x W F v _ _ _ _ h1 htell h2 h3) ?_
  rintro e a1 w1 hp
  cases e with
  | normal =>
   obtain ⟨F1, hmid, q2, q3⟩ := hp
   refine ⟨_, run_beginRound q2.at_ (by rw [hrec]), ?_⟩
   have p2 := q2.put (o' := .loop { rec .ready with state := .busy }) rfl
   have p3 := q3.other (k' := w.heap.size + 1) (.loop { rec .ready with state := .busy }) (by omega)
   refine wpIn_mono (hbody _ _ pre x pre' a1 _ F1 _ _ _ _ (hmput _ _ _ _ _ _ _ _ hmid q2 (by omega) rfl) happ p2 p3) ?_
   rintro e a2 w2 ⟨rfl, F2, z1, z2, z3⟩
   refine ⟨_, _, run_endRound (P := P) none z2.at_, rfl, F2, hput _ _ _ _ _ _ z1 z2 (by omega) rfl, ?_, z3.other _ (by omega)⟩
   have := z2.put (o' := .loop (rec .ready)) rfl
   rw [hrec] at this ⊢
   exact this
  | _ => exact hp.elim
 ·rintro e W2 ⟨⟨v, rfl⟩, xs, F2, hS, z1, z2, z3⟩
  refine ⟨none, _, by have := run_endLoop (P := P) z2.at_ (by rw [hrec]; simp); rw [hrec] at this; exact this, ?_⟩
  exact hdone _ xs _ F2 hS (hput _ _ _ _ _ _ z1 z2 (by omega) rfl) (z3.other _ (by omega)) (Nat.le_refl _)
end Go.Proofs.YtohmhlkdgfcaeaaGreatDoor
namespace Go.Proofs.YtohmhlkdgfcaeaaGreatDoor
open Go Go.RowKit
set_option maxRecDepth 4000
attribute [local irreducible] W GS GSG
def isRule : Value → Bool
 | .iface 175 (.agg ⟨[.int .i64 _]⟩) => true
 | _ => false
def s_171 (n : Nat) (d : Drum) : Nat → Int → List Filled → Option (List Filled)
 | 0, _, _ => none
 | k + 1, i, l => bif decide (i < ((d.acids.length : Nat) : Int)) then
   (s_145 n d.known i).bind fun b => bif !b then s_171 n d k (wr (i + 1)) l else
    (s_173 n d i).bind fun r => match r with
     | .error v => bif isRule v then s_171 n d k (wr (i + 1)) l else none
     | .ok f => (app l [f]).bind fun l' => s_171 n d k (wr (i + 1)) l'
  else some l
def s_84 (n : Nat) (d : Drum) (fine : Bool) : Option (List Filled × Int) :=
 (s_104 n d).bind fun b => bif !b || !fine then some ([], 2) else
  (s_171 n d n 0 []).bind fun l => bif l.isEmpty then some ([], 7) else some (l, 0)
theorem isRule_of {v : Value} (h : isRule v = true) : ∃ i, v = .iface 175 (.agg #[.int .i64 i]) := by
 unfold isRule at h
 split at h
 ·exact ⟨_, rfl⟩
 ·cases h
theorem bif_some' {α : Type} {b : Bool} {x : Option α} {y : α} (h : (bif b then x else none) = some y) : b = true ∧ x = some y := by
 cases b with
 | true => exact ⟨rfl, h⟩
 | false => cases h
theorem wpIn_ghost {F : Fence} {m : Nat} {P : Program} {Q : Exit → Act → World → Prop} {a : Act} {w : World} {c : Code} (I : Nat → Act → World → Prop) (n₀ : Nat) (h₀ : I n₀ a w)
  (round : ∀ n a w, I n a w → c.wpIn F m P (Exit.then (fun a' w' => ∃ n', n' < n ∧ I n' a' w') Q) a w) : (Code.loop c).wpIn F m P Q a w := by
 refine wpIn_loop (fun a w => ∃ n, I n a w) (fun a w => leastOf (fun n => I n a w)) ⟨n₀, h₀⟩ ?_
 intro a w hI
 refine wpIn_mono (round _ a w (leastOf_spec hI).1) ?_
 intro e a' w' hq
 cases e with
 | normal =>
  obtain ⟨n', hlt, hI'⟩ := hq
  exact ⟨⟨n', hI'⟩, Nat.lt_of_le_of_lt ((leastOf_spec ⟨n', hI'⟩).2 n' hI') hlt⟩
 | _ => exact hq
theorem wpIn_gen {F : Fence} {n : Nat} {P : Program} {c : Code} {Q : Exit → Act → World → Prop} {a : Act} {w : World} {Pr : Act → Prop} (h0 : Pr a) (h : ∀ a, Pr a → c.wpIn F n P Q a w) : c.wpIn F n P Q a w := h a h0
theorem put_ne {a : Act} {d t : Nat} {v : Value} (h : d ≠ t) : (a.put (some d) v).tmps[t]? = a.tmps[t]? := by
 simp only [Act.put]
 exact Array.getElem?_setIfInBounds_ne h
theorem rel_val {w0 : World} {F0 : Foot} {nt : Nat} {g : Ghost} {F : Foot} {E : Env} {a : Act} {w : World} (hr : Rel w0 F0 nt g F E a w) {t : Nat} {v : Value} (h : lk E.ts t = some (.pv (.val v))) : a.tmps[t]? = some v := by
 obtain ⟨u, h1, h2⟩ := hr.ts t _ h
 have := rd_val h2
 subst this
 exact h1
theorem bare2 {X : Cx} {ops : Array Oper} {o1 o2 : Oper} {rest : List Oper} {E : Env} {Q : Exit → Env → Prop} {j t d : Nat} {b : Bool} (hg : o2.guard = some (j, b)) (hj : (ops[j]?).bind (·.dst) = some t) (hb : lk E.ts t = some (.pv (.b b))) (hd : o1.dst = some d) (hne : Nat.beq d t = false) (hQ : ∀ E, ¬ Q .outgrown E)
  (h : Ops X ops (o1 :: Oper.bare o2 :: rest) E Q) : Ops X ops (o1 :: o2 :: rest) E Q := by
 intro g F a w hr
 have hne' : d ≠ t := fun e => by subst e; simp at hne
 have ht : a.tmps[t]? = some (.bool b) := rel_val hr hb
 have h1 := h g F a w hr
 have conv : ∀ (a1 : Act) (w1 : World), a1.tmps[t]? = some (.bool b) → wpList X.P ops (QQ X Q) (Oper.bare o2 :: rest) a1 w1 → wpList X.P ops (QQ X Q) (o2 :: rest) a1 w1 := by
  intro a1 w1 h2 h3
  have hw : Region.wanted o2 (yielded ops a1.tmps) = true := by
   simp only [Region.wanted, hg, yielded, hj, Option.bind_some, h2]
   simp
  have hw2 : Region.wanted (Oper.bare o2) (yielded ops a1.tmps) = true := by simp [Region.wanted, Oper.bare]
  simp only [wpList, hw, hw2, if_true] at h3 ⊢
  exact h3
 have hput : ∀ v, (a.put o1.dst v).tmps[t]? = some (.bool b) := fun v => by rw [hd]; exact (put_ne hne').trans ht
 have hput2 : ∀ df v, ({ a with defers := df :: a.defers }.put o1.dst v).tmps[t]? = some (.bool b) := fun df v => by rw [hd]; exact (put_ne (a := { a with defers := df :: a.defers }) hne').trans ht
 have hno : ¬ LetsOut (QQ X Q) := by rintro ⟨a, w, g, F, E, _, hq⟩; exact hQ _ hq
 unfold wpList at h1 ⊢
 split
 ·rename_i hw
  rw [if_pos hw] at h1
  rcases h1 with h1 | h1
  ·exact .inl (upon_mono h1 (fun v w1 h2 => conv _ _ (hput v) h2) (fun df v w1 h2 => conv _ _ (hput2 df v) h2) (fun ch w1 h2 => h2) hno)
  ·exact (hno h1.2).elim
 ·rename_i hw
  rw [if_neg hw] at h1
  exact conv _ _ (hput _) h1
def zero115 : List TV := [.pv (.val (.slice none 0 0)), .pv (.i 0), .pv (.i 0), .pv (.val (.slice none 0 0)), .pv (.val (.slice none 0 0)), .pv (.val (.slice none 0 0)), .pv (.i 0), .pv (.val (.slice none 0 0))]
theorem it_171 (n : Nat) (d : Drum) (l : Nat) (p : Value) (J : List Filled → World → Foot → Prop) (hJ : ∀ pre W F, J pre W F → F.ok W ∧ Rd W F (.ref (cDrum d)) p)
  (hst : ∀ pre W F W' F', J pre W F → Ext F W W' → F.le F' W.heap.size → F'.ok W' → J pre W' F')
  (hY : ∀ pre x pre' W F v, J pre W F → app pre [x] = some pre' → Rd W F (.agg (cFilled x)) v → ∀ m, YieldAt Fence.wide m Tryz.prog l #[v] W (fun e W' => e = .returned (.bool true) ∧ ∃ F', J pre' W' F'))
  {r : List Filled} (h : s_171 n d n 0 [] = some r) (m : Nat) (W : World) (F : Foot) (h0 : J [] W F) :
  CallsIn Fence.wide m Tryz.prog 171 #[.func (.yield l) #[] #[], p] W fun e W' => (∃ v, e = .returned v) ∧ ∃ F', J r W' F' := by
 refine callsIn_of_wp Tryz.func171 rfl trivial ?_
 refine wpIn_gen (Pr := fun a => a.tmps.size = 26 ∧ a.tmps[0]? = some (.func (.yield l) #[] #[]) ∧ a.tmps[1]? = some p ∧ a.defers = []) ⟨by simp [Tryz.ntmps171], by simp, by simp, rfl⟩ ?_
 rintro a ⟨hs, e0, e1, hd⟩
 refine wpIn_seq ?_
 refine wide_reg (X := ⟨Tryz.prog, W, F, 26⟩) (E := ⟨[(1, .pv (.ref (cDrum d)))], [], []⟩) (K := fun E' => E'.has (⟨[(7, .pv (.i ((d.acids.length : Nat) : Int))), (8, .pv (.i 0))], [], []⟩ : Env)) [0, 1] rfl (Rel.start (hJ _ _ _ h0).1 hd hs (slots_ok ?_)) ?_ ?_
 ·intro q hq
  rcases List.mem_singleton.1 hq with rfl
  exact ⟨p, e1, (hJ _ _ _ h0).2⟩
 ·refine Ops.v (g_fldR rfl rfl rfl rfl fl_27_0 rfl) rfl ?_
  refine Ops.v (g_loadR1 rfl rfl rfl rfl rfl ag_22) rfl ?_
  refine Ops.v (g_lenM (l := d.acids) (enc := cAcid) rfl ul_22 rfl rfl rfl) rfl ?_
  refine Ops.v (g_move rfl rfl rfl rfl) rfl ?_
  refine Ops.nil ?_
  exact has_mk ⟨rfl, rfl, trivial⟩ trivial trivial rfl
 rintro a1 W1 g1 F1 E1 hr1 hK1 hkeep1
 obtain ⟨g1', hr1'⟩ := hr1.weaken hK1
 have s0 : a1.tmps[0]? = some (.func (.yield l) #[] #[]) := (hkeep1 0 (by simp)).trans e0
 have s1 : a1.tmps[1]? = some p := (hkeep1 1 (by simp)).trans e1
 have s7 := rel_val hr1' (t := 7) rfl
 have s8 := rel_val hr1' (t := 8) rfl
 have hJ1 : J [] W1 F1 := hst _ _ _ _ _ h0 hr1.ext hr1.le hr1.ok
 show Code.wpIn Fence.wide m Tryz.prog (.block 0 _) _ _ _
 refine wpIn_block ?_
 refine wpIn_ghost (fun k a w => ∃ (i : Int) (pre : List Filled) (F : Foot), a.tmps.size = 26 ∧ a.defers = [] ∧ a.tmps[0]? = some (.func (.yield l) #[] #[]) ∧ a.tmps[1]? = some p ∧ a.tmps[7]? = some (.int .i64 ((d.acids.length : Nat) : Int)) ∧ a.tmps[8]? = some (.int .i64 i) ∧ J pre w F ∧ s_171 n d k i pre = some r)
  n ⟨0, [], F1, hr1.sz, hr1.dfr, s0, s1, s7, s8, hJ1, h⟩ ?_
 clear hJ1 s0 s1 s7 s8 hr1' hr1 hK1 hkeep1 e0 e1 hs hd h0 h
 rintro k a w ⟨i, pre, F, hs, hd, s0, s1, s7, s8, hj, h⟩
 rcases k with _ | k
 ·cases h
 rw [s_171] at h
 obtain ⟨hok, hdr⟩ := hJ _ _ _ hj
 refine wpIn_seq ?_
 refine wide_reg (X := ⟨Tryz.prog, w, F, 26⟩) (E := ⟨[(7, .pv (.i ((d.acids.length : Nat) : Int))), (8, .pv (.i i))], [], []⟩) (K := fun E' => E'.has (⟨[(9, .pv (.b (decide (i < ((d.acids.length : Nat) : Int)))))], [], []⟩ : Env)) [0, 1, 7, 8] rfl (Rel.start hok hd hs (slots_ok ?_)) ?_ ?_
 ·intro q hq
  simp only [List.mem_cons, List.not_mem_nil, or_false] at hq
  rcases hq with rfl | rfl
  ·exact ⟨_, s7, Rd.val _⟩
  ·exact ⟨_, s8, Rd.val _⟩
 ·refine Ops.v (g_lss rfl rfl rfl rfl rfl) rfl ?_
  refine Ops.nil ?_
  exact has_mk ⟨rfl, trivial⟩ trivial trivial rfl
 rintro a1 w1 g1 F1 E1 hr1 hK1 hkeep1
 obtain ⟨g1', hr1'⟩ := hr1.weaken hK1
 have t0 := (hkeep1 0 (by simp)).trans s0
 have t1 := (hkeep1 1 (by simp)).trans s1
 have t7 := (hkeep1 7 (by simp)).trans s7
 have t8 := (hkeep1 8 (by simp)).trans s8
 have t9 := rel_val hr1' (t := 9) rfl
 have hj1 : J pre w1 F1 := hst _ _ _ _ _ hj hr1.ext hr1.le hr1.ok
 have ev9 : a1.eval (.tmp 9) = .bool (decide (i < ((d.acids.length : Nat) : Int))) := by simp [Act.eval, Array.getD_eq_getD_getElem?, t9]
 have hs1 := hr1.sz
 have hd1 := hr1.dfr
 clear hr1 hr1' hK1 hkeep1 s0 s1 s7 s8 t9 hj hok hdr hs hd g1 g1' E1
 generalize hb : decide (i < ((d.acids.length : Nat) : Int)) = b at ev9 h
 refine wpIn_seq ?_
 cases b with
 | false =>
  refine wpIn_cond_false ev9 ?_
  refine wpIn_exit ?_
  have h := bif_f h rfl
  cases h
  simp only [Exit.then, Exit.inBlock, if_true]
  exact ⟨hd1, .tuple #[], by simp [results, Tryz.results171], ⟨_, rfl⟩, F1, hj1⟩
 | true =>
  refine wpIn_cond_true ev9 ?_
  refine wpIn_skip ?_
  have h := bif_t h rfl
  refine wpIn_seq ?_
  refine wpIn_mono (Q := fun e a2 w2 => e = .normal ∧ ∃ pre' F2, a2.tmps.size = 26 ∧ a2.defers = [] ∧ a2.tmps[0]? = some (.func (.yield l) #[] #[]) ∧ a2.tmps[1]? = some p ∧ a2.tmps[7]? = some (.int .i64 ((d.acids.length : Nat) : Int)) ∧ a2.tmps[8]? = some (.int .i64 i) ∧ J pre' w2 F2 ∧ s_171 n d k (wr (i + 1)) pre' = some r) ?_ ?_
  ·clear ev9 hb
   refine wpIn_block ?_
   obtain ⟨hok, hdr⟩ := hJ _ _ _ hj1
   refine wpIn_seq ?_
   refine wide_reg (X := ⟨Tryz.prog, w1, F1, 26⟩) (E := ⟨[(1, .pv (.ref (cDrum d))), (8, .pv (.i i))], [], []⟩) (K := fun E' => E'.has (⟨[(1, .pv (.ref (cDrum d))), (3, .box 3 0)], [(3, 3, [.pv (.i i)])], []⟩ : Env)) [0, 1, 7, 8] rfl (Rel.start hok hd1 hs1 (slots_ok ?_)) ?_ ?_
   ·intro q hq
    simp only [List.mem_cons, List.not_mem_nil, or_false] at hq
    rcases hq with rfl | rfl
    ·exact ⟨_, t1, hdr⟩
    ·exact ⟨_, t8, Rd.val _⟩
   ·refine Ops.v (g_move rfl rfl rfl rfl) rfl ?_
    refine Ops.b (g_alloc rfl rfl rfl zr_3) rfl rfl ?_
    refine Ops.step rfl (s_storeB rfl rfl rfl rfl rfl rfl sz_3 rfl rfl) ?_
    refine Ops.nil ?_
    exact has_mk ⟨rfl, rfl, trivial⟩ ⟨rfl, trivial⟩ trivial rfl
   rintro a2 w2 g2 F2 E2 hr2 hK2 hkeep2
   obtain ⟨g2', hr2'⟩ := hr2.weaken hK2
   have u0 := (hkeep2 0 (by simp)).trans t0
   have u1 := (hkeep2 1 (by simp)).trans t1
   have u7 := (hkeep2 7 (by simp)).trans t7
   have u8 := (hkeep2 8 (by simp)).trans t8
   show Code.wpIn Fence.wide m Tryz.prog (.seq _ _) _ _ _
   refine wpIn_seq ?_
   refine wide_reg (X := ⟨Tryz.prog, w1, F1, 26⟩) (K := fun E' => E'.has (⟨[(1, .pv (.ref (cDrum d))), (3, .box 3 0), (4, .box 4 0)], [(3, 3, [.pv (.i i)]), (4, 115, zero115)], []⟩ : Env)) [0, 1, 7, 8] rfl hr2' ?_ ?_
   ·refine Ops.b (g_alloc rfl rfl rfl zr_115) rfl rfl ?_
    refine Ops.nil ?_
    exact has_mk ⟨rfl, rfl, rfl, trivial⟩ ⟨rfl, rfl, trivial⟩ trivial rfl
   rintro a3 w3 g3 F3 E3 hr3 hK3 hkeep3
   obtain ⟨g3', hr3'⟩ := hr3.weaken hK3
   have v0 := (hkeep3 0 (by simp)).trans u0
   have v1 := (hkeep3 1 (by simp)).trans u1
   have v7 := (hkeep3 7 (by simp)).trans u7
   have v8 := (hkeep3 8 (by simp)).trans u8
   clear u0 u1 u7 u8 hr2 hr2' hK2 hkeep2 hr3 hK3 hkeep3 t0 t1 t7 t8 hs1 hd1
   show Code.wpIn Fence.wide m Tryz.prog (.seq _ _) _ _ _
   refine wpIn_seq ?_
   refine wpIn_seq ?_
   obtain ⟨b, eb, h⟩ := bind_some h
   have skip : s_171 n d k (wr (i + 1)) pre = some r → ∀ (a4 : Act) (w4 : World) (F4 : Foot) (g4 : Ghost) (E4 : Env), Rel w1 F1 26 g4 F4 E4 a4 w4 → (∀ t, t ∈ [0, 1, 7, 8] → a4.tmps[t]? = a3.tmps[t]?) →
     ∃ pre' F2, a4.tmps.size = 26 ∧ a4.defers = [] ∧ a4.tmps[0]? = some (.func (.yield l) #[] #[]) ∧ a4.tmps[1]? = some p ∧ a4.tmps[7]? = some (.int .i64 ((d.acids.length : Nat) : Int)) ∧ a4.tmps[8]? = some (.int .i64 i) ∧ J pre' w4 F2 ∧ s_171 n d k (wr (i + 1)) pre' = some r := by
    intro hsk a4 w4 F4 g4 E4 hr4 hk4
    exact ⟨pre, F4, hr4.sz, hr4.dfr, (hk4 0 (by simp)).trans v0, (hk4 1 (by simp)).trans v1, (hk4 7 (by simp)).trans v7, (hk4 8 (by simp)).trans v8, hst _ _ _ _ _ hj1 hr4.ext hr4.le hr4.ok, hsk⟩
   cases b with
   | false =>
    have h := bif_t h rfl
    refine wide_reg (X := ⟨Tryz.prog, w1, F1, 26⟩) (K := fun E' => E'.has (⟨[(20, .pv (.b true))], [], []⟩ : Env)) [0, 1, 7, 8] rfl hr3' ?_ ?_
    ·refine Ops.conv (Conv.freeze (k := 3) (cs := [.i i]) rfl) ?_
     refine Ops.v (g_fldR rfl rfl rfl rfl fl_27_1 rfl) rfl ?_
     refine Ops.v (g_loadR1 rfl rfl rfl rfl rfl ag_3) rfl ?_
     refine Ops.v (g_loadR1 rfl rfl rfl rfl rfl ag_3) rfl ?_
     refine Ops.v (g_call rfl rfl rfl ca_145 rfl (c_145 _ _ _ eb)) rfl ?_
     refine Ops.v (g_not rfl rfl rfl rfl) rfl ?_
     refine Ops.v (g_move rfl rfl rfl rfl) rfl ?_
     refine Ops.off2 rfl rfl rfl rfl rfl rfl ?_
     refine Ops.off2 rfl rfl rfl rfl rfl rfl ?_
     refine Ops.off2 rfl rfl rfl rfl rfl rfl ?_
     refine Ops.v (g_pickT rfl rfl rfl rfl rfl) rfl ?_
     refine Ops.nil ?_
     exact has_mk ⟨rfl, trivial⟩ trivial trivial rfl
    rintro a4 w4 g4 F4 E4 hr4 hK4 hkeep4
    obtain ⟨g4', hr4'⟩ := hr4.weaken hK4
    have x20 := rel_val hr4' (t := 20) rfl
    refine wpIn_cond_true (by simp [Act.eval, Array.getD_eq_getD_getElem?, x20]) ?_
    refine wpIn_exit ?_
    exact ⟨rfl, skip h a4 w4 F4 g4 E4 hr4 hkeep4⟩
   | true =>
    have h := bif_f h rfl
    obtain ⟨rr, er, h⟩ := bind_some h
    cases rr with
    | error v =>
     obtain ⟨hru, h⟩ := bif_some' h
     refine wide_reg (X := ⟨Tryz.prog, w1, F1, 26⟩) (K := fun E' => E'.has (⟨[(20, .pv (.b true))], [], []⟩ : Env)) [0, 1, 7, 8] rfl hr3' ?_ ?_
     ·refine Ops.conv (Conv.freeze (k := 3) (cs := [.i i]) rfl) ?_
      refine Ops.v (g_fldR rfl rfl rfl rfl fl_27_1 rfl) rfl ?_
      refine Ops.v (g_loadR1 rfl rfl rfl rfl rfl ag_3) rfl ?_
      refine Ops.v (g_loadR1 rfl rfl rfl rfl rfl ag_3) rfl ?_
      refine Ops.v (g_call rfl rfl rfl ca_145 rfl (c_145 _ _ _ eb)) rfl ?_
      refine Ops.v (g_not rfl rfl rfl rfl) rfl ?_
      refine Ops.v (g_move rfl rfl rfl rfl) rfl ?_
      refine Ops.on rfl rfl rfl ?_
      refine bare2 rfl rfl rfl rfl rfl (fun E h => h) ?_
      refine Ops.try_ (xs := [.tmp 1, .tmp 3]) (xb := .tmp 4) (k := 4) (m := 8) ca_172 rfl rfl rfl rfl rfl rfl rfl rfl (st_of_172 d i _ (c_173 _ _ _ er)) rfl rfl rfl rfl (.inl ⟨isRule_of hru, ?_⟩)
      refine Ops.on rfl rfl rfl ?_
      refine Ops.v (g_neq rfl rfl rfl rfl rfl) rfl ?_
      refine Ops.v (g_pickF rfl rfl rfl rfl rfl) rfl ?_
      refine Ops.nil ?_
      exact has_mk ⟨rfl, trivial⟩ trivial trivial rfl
     rintro a4 w4 g4 F4 E4 hr4 hK4 hkeep4
     obtain ⟨g4', hr4'⟩ := hr4.weaken hK4
     have x20 := rel_val hr4' (t := 20) rfl
     refine wpIn_cond_true (by simp [Act.eval, Array.getD_eq_getD_getElem?, x20]) ?_
     refine wpIn_exit ?_
     exact ⟨rfl, skip h a4 w4 F4 g4 E4 hr4 hkeep4⟩
    | ok f =>
     obtain ⟨pre', ea, h⟩ := bind_some h
     refine wide_reg (X := ⟨Tryz.prog, w1, F1, 26⟩) (K := fun E' => E'.has (⟨[(20, .pv (.b false)), (4, .box 4 0)], [(4, 115, (cFilled f).map .pv)], []⟩ : Env)) [0, 1, 7, 8] rfl hr3' ?_ ?_
     ·refine Ops.conv (Conv.freeze (k := 3) (cs := [.i i]) rfl) ?_
      refine Ops.v (g_fldR rfl rfl rfl rfl fl_27_1 rfl) rfl ?_
      refine Ops.v (g_loadR1 rfl rfl rfl rfl rfl ag_3) rfl ?_
      refine Ops.v (g_loadR1 rfl rfl rfl rfl rfl ag_3) rfl ?_
      refine Ops.v (g_call rfl rfl rfl ca_145 rfl (c_145 _ _ _ eb)) rfl ?_
      refine Ops.v (g_not rfl rfl rfl rfl) rfl ?_
      refine Ops.v (g_move rfl rfl rfl rfl) rfl ?_
      refine Ops.on rfl rfl rfl ?_
      refine bare2 rfl rfl rfl rfl rfl (fun E h => h) ?_
      refine Ops.try_ (xs := [.tmp 1, .tmp 3]) (xb := .tmp 4) (k := 4) (m := 8) ca_172 rfl rfl rfl rfl rfl rfl rfl rfl (st_of_172 d i _ (c_173 _ _ _ er)) rfl rfl rfl rfl ?_
      refine Ops.on rfl rfl rfl ?_
      refine Ops.v (g_neq rfl rfl rfl rfl rfl) rfl ?_
      refine Ops.v (g_pickF rfl rfl rfl rfl rfl) rfl ?_
      refine Ops.nil ?_
      exact has_mk ⟨rfl, rfl, trivial⟩ ⟨rfl, trivial⟩ trivial rfl
     rintro a4 w4 g4 F4 E4 hr4 hK4 hkeep4
     obtain ⟨g4', hr4'⟩ := hr4.weaken hK4
     have x20 := rel_val hr4' (t := 20) rfl
     refine wpIn_cond_false (by simp [Act.eval, Array.getD_eq_getD_getElem?, x20]) ?_
     refine wpIn_skip ?_
     show Code.wpIn Fence.wide m Tryz.prog (.seq _ _) _ _ _
     obtain ⟨b4, us, q1, q2, q3, q4, q5, q6⟩ := hr4'.bs 4 _ _ rfl
     obtain ⟨up, p1, b4', p2, rfl⟩ := hr4'.ts 4 _ rfl
     rw [q1] at p2
     cases p2
     have hj4 : J pre w4 F4 := hst _ _ _ _ _ hj1 hr4.ext hr4.le hr4.ok
     have hus : Rd w4 F4 (.agg (cFilled f)) (.agg us) := .agg _ _ (by simpa using q3) (fun j c u hc hu => q4 j (.pv c) u (by rw [List.getElem?_map, hc]; rfl) hu)
     refine wpIn_seq ?_
     refine wpIn_region_lit ?_
     refine wide_val (v := .func (.yield l) #[] #[]) (w' := w4) rfl rfl (by simp only [execOp, Act.eval, Array.getD_eq_getD_getElem?, (hkeep4 0 (by simp)).trans v0]; rfl) ?_
     refine wide_val (v := .agg us) (w' := w4) rfl rfl ?_ ?_
     ·have hcl := run_loadCells_list (P := Tryz.prog) (w := w4) ⟨b4, 0, none⟩ us.toList (fun j v hv => by
       rw [addr_block, cell_of_row w4 b4 j us 115 (0, 0) q2]
       simpa using hv)
      have e8 : us.toList.length = 8 := by simpa using q3
      rw [e8] at hcl
      have hev : (a4.put (some 21) (.func (.yield l) #[] #[])).eval (.tmp 4) = .pointer (some ⟨b4, 0, none⟩) := by rw [ev_ne (by decide)]; simp [Act.eval, Array.getD_eq_getD_getElem?, p1]
      simp only [execOp, hev, Instr.loadAt, Instr.sureAddr, loadVar, Sem.run_bind, Sem.run_pure, Result.andThen_ok, ag_115.run, sz_115.run, if_true, hcl, Array.toArray_toList]
     have hs4 : a4.tmps.size = 26 := hr4.sz
     refine wide_yield (x := .tmp 21) (y := .tmp 22) rfl rfl (by rw [ev_ne (by decide)]; exact ev_same (by omega)) (ev_same (by simp [Act.put]; omega)) rfl (hY pre f pre' w4 F4 _ hj4 ea hus) (fun e w' he => he.1) ?_
     rintro w5 ⟨_, F5, hj5⟩
     refine wide_val (v := .bool false) (w' := w5) rfl rfl ?_ ?_
     ·have hev : ∀ a : Act, 23 < a.tmps.size → (a.put (some 23) (.bool true)).eval (.tmp 23) = .bool true := fun a h => ev_same h
      simp only [execOp, hev _ (show 23 < ((a4.put (some 21) (.func (.yield l) #[] #[])).put (some 22) (.agg us)).tmps.size by simp [Act.put]; omega)]
      rfl
     refine wpIn_cond_false (ev_same (by simp [Act.put]; omega)) ?_
     refine wpIn_skip ?_
     refine ⟨rfl, pre', F5, by simp [Act.put]; omega, hr4.dfr, ?_, ?_, ?_, ?_, hj5, h⟩
     ·rw [put_ne (by decide), put_ne (by decide), put_ne (by decide), put_ne (by decide)]; exact (hkeep4 0 (by simp)).trans v0
     ·rw [put_ne (by decide), put_ne (by decide), put_ne (by decide), put_ne (by decide)]; exact (hkeep4 1 (by simp)).trans v1
     ·rw [put_ne (by decide), put_ne (by decide), put_ne (by decide), put_ne (by decide)]; exact (hkeep4 7 (by simp)).trans v7
     ·rw [put_ne (by decide), put_ne (by decide), put_ne (by decide), put_ne (by decide)]; exact (hkeep4 8 (by simp)).trans v8
  ·rintro e a2 w2 ⟨rfl, pre', F2, z1, z2, z3, z4, z5, z6, z7, z8⟩
   obtain ⟨hok2, _⟩ := hJ _ _ _ z7
   refine wide_reg (X := ⟨Tryz.prog, w2, F2, 26⟩) (E := ⟨[(8, .pv (.i i))], [], []⟩) (K := fun E' => E'.has (⟨[(8, .pv (.i (wr (i + 1))))], [], []⟩ : Env)) [0, 1, 7] rfl (Rel.start hok2 z2 z1 (slots_ok ?_)) ?_ ?_
   ·intro q hq
    rcases List.mem_singleton.1 hq with rfl
    exact ⟨_, z6, Rd.val _⟩
   ·refine Ops.v (g_add rfl rfl rfl rfl rfl) rfl ?_
    refine Ops.v (g_move rfl rfl rfl rfl) rfl ?_
    refine Ops.nil ?_
    exact has_mk ⟨rfl, trivial⟩ trivial trivial rfl
   rintro a3 w3 g3 F3 E3 hr3 hK3 hkeep3
   obtain ⟨g3', hr3'⟩ := hr3.weaken hK3
   exact ⟨k, Nat.lt_succ_self _, wr (i + 1), pre', F3, hr3.sz, hr3.dfr, (hkeep3 0 (by simp)).trans z3, (hkeep3 1 (by simp)).trans z4, (hkeep3 7 (by simp)).trans z5, rel_val hr3' (t := 8) rfl, hst _ _ _ _ _ z7 hr3.ext hr3.le hr3.ok, z8⟩
end Go.Proofs.YtohmhlkdgfcaeaaGreatDoor
