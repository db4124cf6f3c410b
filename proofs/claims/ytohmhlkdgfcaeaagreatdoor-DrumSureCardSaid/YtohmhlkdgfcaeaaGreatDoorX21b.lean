/- DrumSure: whatever is true, a batch is smooth after its smooth hour and all later ones, and thick enough after its thin hour and all earlier ones; and these hours are the first and the last. For every input that can be read as data, the tables of Go's library being as their text lays them: the call returns true, and each argument reads behind it as before. -/
import Derived.Test.YtohmhlkdgfcaeaaGreatDoorTie
import Derived.Test.YtohmhlkdgfcaeaaGreatDoorCards
import Derived.Test.YtohmhlkdgfcaeaaGreatDoorX21a
set_option linter.unusedVariables false
set_option linter.unusedSimpArgs false
namespace Go.Proofs.YtohmhlkdgfcaeaaGreatDoor
open Go Go.RowKit
set_option maxRecDepth 4000
attribute [local irreducible] W Ops GS GSG
def s_21_j12 (n : Nat) (v120 : Bool) : Option (Bool) := bif v120 then ( some (false) ) else ( (s_24 n ).bind fun v121 => some (v121) )
def s_21_j9 (n : Nat) (v0 : Drum) (v2 : Int) (v111 : Batch) (v114 : Int) : Option (Bool) := bif (decide (v114 ≤ v0.hours)) then ( (s_48 n v0 v114).bind fun v118 => bif (!decide (v118.2 = 0)) then ( s_21_j12 n true ) else ( bif (!decide ((v118.1.length : Int) = (v0.batches.length : Int))) then ( s_21_j12 n true ) else ( (ix v118.1 v2).bind fun v119 =>
 s_21_j12 n (decide (v111.least ≤ v119.thick.low)) ) ) ) else ( (s_24 n ).bind fun v122 => some (v122) )
def s_21_j8 (n : Nat) (v0 : Drum) (v2 : Int) (v111 : Batch) (v114 : Int) (v117 : Bool) : Option (Bool) := bif v117 then ( some (false) ) else ( s_21_j9 n v0 v2 v111 v114 )
def s_21_j5 (n : Nat) (v0 : Drum) (v2 : Int) (v111 : Batch) (v113 : Int) (v114 : Int) : Option (Bool) := bif (decide (0 ≤ v113)) then ( (s_48 n v0 v113).bind fun v115 => bif (!decide (v115.2 = 0)) then ( s_21_j8 n v0 v2 v111 v114 true ) else ( bif (!decide ((v115.1.length : Int) = (v0.batches.length : Int))) then ( s_21_j8 n v0 v2 v111 v114 true ) else (
 (ix v115.1 v2).bind fun v116 => s_21_j8 n v0 v2 v111 v114 (decide (v116.rough.high ≤ v111.goal)) ) ) ) else ( s_21_j9 n v0 v2 v111 v114 )
def s_21_j4 (n : Nat) (v0 : Drum) (v2 : Int) (v108 : (Int × Int)) (v111 : Batch) (v113 : Int) : Option (Bool) := bif (!decide (v108.2 = 0)) then ( s_21_j5 n v0 v2 v111 v113 0 ) else ( s_21_j5 n v0 v2 v111 v113 (wr (v108.1 + 1)) )
def s_21_j3 (n : Nat) (v0 : Drum) (v2 : Int) (v107 : (Int × Int)) (v108 : (Int × Int)) (v111 : Batch) (v112 : Bool) : Option (Bool) := bif v112 then ( some (false) ) else ( bif (!decide (v107.2 = 0)) then ( s_21_j4 n v0 v2 v108 v111 v0.hours ) else ( s_21_j4 n v0 v2 v108 v111 (wr (v107.1 - 1)) ) )
def s_21_j2 (n : Nat) (v0 : Drum) (v2 : Int) (v3 : Int) (v107 : (Int × Int)) (v108 : (Int × Int)) (v109 : (State × Bool)) (v110 : Bool) : Option (Bool) := bif v110 then ( some (false) ) else ( (ix v0.batches v2).bind fun v111 => bif (decide (v107.2 = 0)) then ( bif (decide (v107.1 ≤ v3)) then ( bif (decide (v111.goal < v109.1.rough)) then ( s_21_j3 n v0 v2 v107 v108 v111 true ) else (
 bif (decide (v108.2 = 0)) then ( bif (decide (v3 ≤ v108.1)) then ( s_21_j3 n v0 v2 v107 v108 v111 (decide (v109.1.thick < v111.least)) ) else ( s_21_j3 n v0 v2 v107 v108 v111 false ) ) else ( s_21_j3 n v0 v2 v107 v108 v111 false ) ) ) else ( bif (decide (v108.2 = 0)) then ( bif (decide (v3 ≤ v108.1)) then ( s_21_j3 n v0 v2 v107 v108 v111 (decide (v109.1.thick < v111.least)) ) else (
 s_21_j3 n v0 v2 v107 v108 v111 false ) ) else ( s_21_j3 n v0 v2 v107 v108 v111 false ) ) ) else ( bif (decide (v108.2 = 0)) then ( bif (decide (v3 ≤ v108.1)) then ( s_21_j3 n v0 v2 v107 v108 v111 (decide (v109.1.thick < v111.least)) ) else ( s_21_j3 n v0 v2 v107 v108 v111 false ) ) else ( s_21_j3 n v0 v2 v107 v108 v111 false ) ) )
def s_21_j1 (n : Nat) (v0 : Drum) (v1 : Truth) (v2 : Int) (v3 : Int) (v105 : Bool) : Option (Bool) := bif v105 then ( (s_24 n ).bind fun v106 => some (v106) ) else ( (s_31 n v0 v2).bind fun v107 => (s_32 n v0 v2).bind fun v108 => (s_78 n v0 v1 v2 v3).bind fun v109 => bif (!v109.2) then ( s_21_j2 n v0 v2 v3 v107 v108 v109 true ) else ( bif (!decide (v107.2 = 0)) then (
 bif (!decide (v107.2 = 5)) then ( s_21_j2 n v0 v2 v3 v107 v108 v109 true ) else ( bif (!decide (v108.2 = 0)) then ( bif (!decide (v108.2 = 5)) then ( s_21_j2 n v0 v2 v3 v107 v108 v109 true ) else ( bif (decide (v107.1 < 0)) then ( s_21_j2 n v0 v2 v3 v107 v108 v109 true ) else ( bif (decide (v0.hours < v107.1)) then ( s_21_j2 n v0 v2 v3 v107 v108 v109 true ) else ( bif (decide (v108.1 < 0)) then (
 s_21_j2 n v0 v2 v3 v107 v108 v109 true ) else ( s_21_j2 n v0 v2 v3 v107 v108 v109 (decide (v0.hours < v108.1)) ) ) ) ) ) else ( bif (decide (v107.1 < 0)) then ( s_21_j2 n v0 v2 v3 v107 v108 v109 true ) else ( bif (decide (v0.hours < v107.1)) then ( s_21_j2 n v0 v2 v3 v107 v108 v109 true ) else ( bif (decide (v108.1 < 0)) then ( s_21_j2 n v0 v2 v3 v107 v108 v109 true ) else (
 s_21_j2 n v0 v2 v3 v107 v108 v109 (decide (v0.hours < v108.1)) ) ) ) ) ) ) else ( bif (!decide (v108.2 = 0)) then ( bif (!decide (v108.2 = 5)) then ( s_21_j2 n v0 v2 v3 v107 v108 v109 true ) else ( bif (decide (v107.1 < 0)) then ( s_21_j2 n v0 v2 v3 v107 v108 v109 true ) else ( bif (decide (v0.hours < v107.1)) then ( s_21_j2 n v0 v2 v3 v107 v108 v109 true ) else ( bif (decide (v108.1 < 0)) then (
 s_21_j2 n v0 v2 v3 v107 v108 v109 true ) else ( s_21_j2 n v0 v2 v3 v107 v108 v109 (decide (v0.hours < v108.1)) ) ) ) ) ) else ( bif (decide (v107.1 < 0)) then ( s_21_j2 n v0 v2 v3 v107 v108 v109 true ) else ( bif (decide (v0.hours < v107.1)) then ( s_21_j2 n v0 v2 v3 v107 v108 v109 true ) else ( bif (decide (v108.1 < 0)) then ( s_21_j2 n v0 v2 v3 v107 v108 v109 true ) else (
 s_21_j2 n v0 v2 v3 v107 v108 v109 (decide (v0.hours < v108.1)) ) ) ) ) ) ) )
def s_21 (n : Nat) (v0 : Drum) (v1 : Truth) (v2 : Int) (v3 : Int) : Option (Bool) := (s_23 n v0).bind fun v101 => bif (!v101) then ( s_21_j1 n v0 v1 v2 v3 true ) else ( bif (decide (15 < (v1.strength.length : Int))) then ( s_21_j1 n v0 v1 v2 v3 true ) else ( (s_39 n v0).bind fun v102 => bif (!v102) then ( s_21_j1 n v0 v1 v2 v3 true ) else ( (s_44 n v0 v1).bind fun v103 =>
 bif (!v103) then ( s_21_j1 n v0 v1 v2 v3 true ) else ( (s_45 n v0 v1).bind fun v104 => bif (!v104) then ( s_21_j1 n v0 v1 v2 v3 true ) else ( bif (decide (v2 < 0)) then ( s_21_j1 n v0 v1 v2 v3 true ) else ( bif (decide ((v0.batches.length : Int) ≤ v2)) then ( s_21_j1 n v0 v1 v2 v3 true ) else ( bif (decide (v3 < 0)) then ( s_21_j1 n v0 v1 v2 v3 true ) else (
 s_21_j1 n v0 v1 v2 v3 (decide (v0.hours < v3)) ) ) ) ) ) ) ) )
theorem c_21 (n : Nat) (v0 : Drum) (v1 : Truth) (v2 : Int) (v3 : Int) {r : (Bool)} (h : s_21 n v0 v1 v2 v3 = some r) :
  Fun Tryz.prog 21 [.agg (cDrum v0), .agg (cTruth v1), .val (.int .i64 v2), .val (.int .i64 v3)] (.ret (.b r)) := by
 unfold s_21 at h
 refine enterW 234 Tryz.func21 q q q ?_
 intro w0 F0
 change W _ _ (Ev [(0, .pv (.agg (cDrum v0))), (1, .pv (.agg (cTruth v1))), (2, .pv (.i v2)), (3, .pv (.i v3))]) _
 refine W.seq<|W.region<|ob (g_box q q q q q) q q<|ob (g_box q q q q q) q q<|va q q q q q<|on0<|Sq.n<|W.seq<|W.seqJ (σ := Bool) (fun s => (⟨[(2, .pv (.i v2)), (3, .pv (.i v3)), (4, .box 4 0), (5, .box 5 0), (68, .pv (.b s))], [(4, 27, [.pv (.sl (List.map cAcid v0.acids)), .pv (.i v0.known), .pv (.i v0.hours), .pv (.sl (List.map eI v0.adds)), .pv (.sl (List.map cStrip v0.strips)), .pv (.sl (List.map cBatch v0.batches))]), (5, 54, [.pv (.i v1.acid), .pv (.sl (List.map eI v1.strength))])], []⟩ : Env)) (fun s => s_21_j1 n v0 v1 v2 v3 s = some r) ?_ ?_
 ·refine W.region<|ov (g_loadA q q q q q ag_27 sz_27 q q) q ?_
  obtain ⟨v101, e101, h⟩ := bind_some h
  refine ov (g_call q q q ca_23 q (c_23 _ _ e101)) q<|ov (g_not q q q q) q<|vm q q q q q<|Ops.split 25 q (fun hb => ?_) (fun hb => ?_)
  ·have h := bif_t h hb
   refine o2 q q q q q q<|o2 q q q q q q<|o2 q q q q q q<|o2 q q q q q q<|vt q q q q q q<|vm q q q q q<|o2 q q q q q q<|o2 q q q q q q<|o2 q q q q q q<|vt q q q q q q<|vm q q q q q<|o2 q q q q q q<|o2 q q q q q q<|o2 q q q q q q<|o2 q q q q q q<|vt q q q q q q<|vm q q q q q<|o2 q q q q q q<|o2 q q q q q q<|o2 q q q q q q<|o2 q q q q q q<|vt q q q q q q<|vm q q q q q<|o2 q q q q q q<|o2 q q q q q q<|vt q q q q q q<|vm q q q q q<|o2 q q q q q q<|o2 q q q q q q<|o2 q q q q q q<|o2 q q q q q q<|o2 q q q q q q<|vt q q q q q q<|vm q q q q q<|o2 q q q q q q<|o2 q q q q q q<|vt q q q q q q<|vm q q q q q<|o2 q q q q q q<|o2 q q q q q q<|o2 q q q q q q<|o2 q q q q q q<|vt q q q q q q<|on0<|Sq.n<|⟨true, h, has_mk ⟨q, q, q, q, q, trivial⟩ ⟨q, q, trivial⟩ trivial q⟩
  ·have h := bif_f h hb
   refine on q q q<|ov (g_fld q q q q fl_54_1) q<|on q q q<|ov (g_load1 q q q q q q ag_23) q<|on q q q<|ov (g_lenM (l := v1.strength) (enc := eI) q ul_23 q q q) q<|on q q q<|ov (g_gtr q q q q q) q<|vf q q q q q q<|vm q q q q q<|Ops.split 31 q (fun hb => ?_) (fun hb => ?_)
   ·have h := bif_t h hb
    refine o2 q q q q q q<|o2 q q q q q q<|o2 q q q q q q<|vt q q q q q q<|vm q q q q q<|o2 q q q q q q<|o2 q q q q q q<|o2 q q q q q q<|o2 q q q q q q<|vt q q q q q q<|vm q q q q q<|o2 q q q q q q<|o2 q q q q q q<|o2 q q q q q q<|o2 q q q q q q<|vt q q q q q q<|vm q q q q q<|o2 q q q q q q<|o2 q q q q q q<|vt q q q q q q<|vm q q q q q<|o2 q q q q q q<|o2 q q q q q q<|o2 q q q q q q<|o2 q q q q q q<|o2 q q q q q q<|vt q q q q q q<|vm q q q q q<|o2 q q q q q q<|o2 q q q q q q<|vt q q q q q q<|vm q q q q q<|o2 q q q q q q<|o2 q q q q q q<|o2 q q q q q q<|o2 q q q q q q<|vt q q q q q q<|on0<|Sq.n<|⟨true, h, has_mk ⟨q, q, q, q, q, trivial⟩ ⟨q, q, trivial⟩ trivial q⟩
   ·have h := bif_f h hb
    refine on q q q<|ov (g_loadA q q q q q ag_27 sz_27 q q) q<|on q q q ?_
    obtain ⟨v102, e102, h⟩ := bind_some h
    refine ov (g_call q q q ca_39 q (c_39 _ _ e102)) q<|on q q q<|ov (g_not q q q q) q<|vf q q q q q q<|vm q q q q q<|Ops.split 36 q (fun hb => ?_) (fun hb => ?_)
    ·have h := bif_t h hb
     refine o2 q q q q q q<|o2 q q q q q q<|o2 q q q q q q<|o2 q q q q q q<|vt q q q q q q<|vm q q q q q<|o2 q q q q q q<|o2 q q q q q q<|o2 q q q q q q<|o2 q q q q q q<|vt q q q q q q<|vm q q q q q<|o2 q q q q q q<|o2 q q q q q q<|vt q q q q q q<|vm q q q q q<|o2 q q q q q q<|o2 q q q q q q<|o2 q q q q q q<|o2 q q q q q q<|o2 q q q q q q<|vt q q q q q q<|vm q q q q q<|o2 q q q q q q<|o2 q q q q q q<|vt q q q q q q<|vm q q q q q<|o2 q q q q q q<|o2 q q q q q q<|o2 q q q q q q<|o2 q q q q q q<|vt q q q q q q<|on0<|Sq.n<|⟨true, h, has_mk ⟨q, q, q, q, q, trivial⟩ ⟨q, q, trivial⟩ trivial q⟩
    ·have h := bif_f h hb
     refine on q q q<|ov (g_loadA q q q q q ag_27 sz_27 q q) q<|on q q q<|ov (g_loadA q q q q q ag_54 sz_54 q q) q<|on q q q ?_
     obtain ⟨v103, e103, h⟩ := bind_some h
     refine ov (g_call q q q ca_44 q (c_44 _ _ _ e103)) q<|on q q q<|ov (g_not q q q q) q<|vf q q q q q q<|vm q q q q q<|Ops.split 42 q (fun hb => ?_) (fun hb => ?_)
     ·have h := bif_t h hb
      refine o2 q q q q q q<|o2 q q q q q q<|o2 q q q q q q<|o2 q q q q q q<|vt q q q q q q<|vm q q q q q<|o2 q q q q q q<|o2 q q q q q q<|vt q q q q q q<|vm q q q q q<|o2 q q q q q q<|o2 q q q q q q<|o2 q q q q q q<|o2 q q q q q q<|o2 q q q q q q<|vt q q q q q q<|vm q q q q q<|o2 q q q q q q<|o2 q q q q q q<|vt q q q q q q<|vm q q q q q<|o2 q q q q q q<|o2 q q q q q q<|o2 q q q q q q<|o2 q q q q q q<|vt q q q q q q<|on0<|Sq.n<|⟨true, h, has_mk ⟨q, q, q, q, q, trivial⟩ ⟨q, q, trivial⟩ trivial q⟩
     ·have h := bif_f h hb
      refine on q q q<|ov (g_loadA q q q q q ag_27 sz_27 q q) q<|on q q q<|ov (g_loadA q q q q q ag_54 sz_54 q q) q<|on q q q ?_
      obtain ⟨v104, e104, h⟩ := bind_some h
      refine ov (g_call q q q ca_45 q (c_45 _ _ _ e104)) q<|on q q q<|ov (g_not q q q q) q<|vf q q q q q q<|vm q q q q q<|Ops.split 48 q (fun hb => ?_) (fun hb => ?_)
      ·have h := bif_t h hb
       refine o2 q q q q q q<|o2 q q q q q q<|vt q q q q q q<|vm q q q q q<|o2 q q q q q q<|o2 q q q q q q<|o2 q q q q q q<|o2 q q q q q q<|o2 q q q q q q<|vt q q q q q q<|vm q q q q q<|o2 q q q q q q<|o2 q q q q q q<|vt q q q q q q<|vm q q q q q<|o2 q q q q q q<|o2 q q q q q q<|o2 q q q q q q<|o2 q q q q q q<|vt q q q q q q<|on0<|Sq.n<|⟨true, h, has_mk ⟨q, q, q, q, q, trivial⟩ ⟨q, q, trivial⟩ trivial q⟩
      ·have h := bif_f h hb
       refine on q q q<|vm q q q q q<|on q q q<|ov (g_lss q q q q q) q<|vf q q q q q q<|vm q q q q q<|Ops.split 52 q (fun hb => ?_) (fun hb => ?_)
       ·have h := bif_t h hb
        refine o2 q q q q q q<|o2 q q q q q q<|o2 q q q q q q<|o2 q q q q q q<|o2 q q q q q q<|vt q q q q q q<|vm q q q q q<|o2 q q q q q q<|o2 q q q q q q<|vt q q q q q q<|vm q q q q q<|o2 q q q q q q<|o2 q q q q q q<|o2 q q q q q q<|o2 q q q q q q<|vt q q q q q q<|on0<|Sq.n<|⟨true, h, has_mk ⟨q, q, q, q, q, trivial⟩ ⟨q, q, trivial⟩ trivial q⟩
       ·have h := bif_f h hb
        refine on q q q<|vm q q q q q<|on q q q<|ov (g_fld q q q q fl_27_5) q<|on q q q<|ov (g_load1 q q q q q q ag_25) q<|on q q q<|ov (g_lenM (l := v0.batches) (enc := cBatch) q ul_25 q q q) q<|on q q q<|ov (g_geq q q q q q) q<|vf q q q q q q<|vm q q q q q<|Ops.split 59 q (fun hb => ?_) (fun hb => ?_)
        ·have h := bif_t h hb
         refine o2 q q q q q q<|o2 q q q q q q<|vt q q q q q q<|vm q q q q q<|o2 q q q q q q<|o2 q q q q q q<|o2 q q q q q q<|o2 q q q q q q<|vt q q q q q q<|on0<|Sq.n<|⟨true, h, has_mk ⟨q, q, q, q, q, trivial⟩ ⟨q, q, trivial⟩ trivial q⟩
        ·have h := bif_f h hb
         refine on q q q<|vm q q q q q<|on q q q<|ov (g_lss q q q q q) q<|vf q q q q q q<|vm q q q q q<|Ops.split 63 q (fun hb => ?_) (fun hb => ?_)
         ·have h := bif_t h hb
          refine o2 q q q q q q<|o2 q q q q q q<|o2 q q q q q q<|o2 q q q q q q<|vt q q q q q q<|on0<|Sq.n<|⟨true, h, has_mk ⟨q, q, q, q, q, trivial⟩ ⟨q, q, trivial⟩ trivial q⟩
         ·have h := bif_f h hb
          refine on q q q<|vm q q q q q<|on q q q<|ov (g_fld q q q q fl_27_2) q<|on q q q<|ov (g_load1 q q q q q q ag_3) q<|on q q q<|ov (g_gtr q q q q q) q<|vf q q q q q q<|on0<|Sq.n<|⟨(decide (v0.hours < v3)), h, has_mk ⟨q, q, q, q, q, trivial⟩ ⟨q, q, trivial⟩ trivial q⟩
 ·rintro v105 h
  change s_21_j1 n v0 v1 v2 v3 v105 = some r at h
  unfold s_21_j1 at h
  change W _ _ (⟨[(2, .pv (.i v2)), (3, .pv (.i v3)), (4, .box 4 0), (5, .box 5 0), (68, .pv (.b v105))], [(4, 27, [.pv (.sl (List.map cAcid v0.acids)), .pv (.i v0.known), .pv (.i v0.hours), .pv (.sl (List.map eI v0.adds)), .pv (.sl (List.map cStrip v0.strips)), .pv (.sl (List.map cBatch v0.batches))]), (5, 54, [.pv (.i v1.acid), .pv (.sl (List.map eI v1.strength))])], []⟩ : Env) _
  refine W.cond (b := v105) q (fun hc => ?_) (fun hc => ?_)
  ·have h := bif_t h hc
   refine W.seq<|W.region ?_
   obtain ⟨v106, e106, h⟩ := bind_some h
   refine ov (g_call q q q ca_24 q (c_24 _  e106)) q<|va q q q q q<|on0<|Sq.n<|W.ret<|Sq.r ?_
   obtain rfl := Option.some.inj h
   exact Fin.r q (.cons (.tmp _ _ q) .nil) q
  ·have h := bif_f h hc
   refine W.skip<|Sq.n<|W.seq<|W.region<|ov (g_loadA q q q q q ag_27 sz_27 q q) q<|vm q q q q q ?_
   obtain ⟨v107, e107, h⟩ := bind_some h
   refine ov (g_call q q q ca_31 q (c_31 _ _ _ e107)) q<|vm q q q q q<|ov (g_extract q q q q q) q<|ov (g_extract q q q q q) q<|va q q q q q<|va q q q q q<|on0<|Sq.n<|W.seq<|W.region<|ov (g_loadA q q q q q ag_27 sz_27 q q) q<|vm q q q q q ?_
   obtain ⟨v108, e108, h⟩ := bind_some h
   refine ov (g_call q q q ca_32 q (c_32 _ _ _ e108)) q<|vm q q q q q<|ov (g_extract q q q q q) q<|ov (g_extract q q q q q) q<|va q q q q q<|va q q q q q<|on0<|Sq.n<|W.seq<|W.region<|ov (g_loadA q q q q q ag_27 sz_27 q q) q<|ov (g_loadA q q q q q ag_54 sz_54 q q) q<|vm q q q q q<|vm q q q q q ?_
   obtain ⟨v109, e109, h⟩ := bind_some h
   refine ov (g_call q q q ca_78 q (c_78 _ _ _ _ _ e109)) q<|vm q q q q q<|ov (g_extract q q q q q) q<|ov (g_extract q q q q q) q<|ob (g_alloc q q q zr_69) q q<|Ops.step q (s_storeB q q q q q q sz_69 q q)<|va q q q q q<|on0<|Sq.n<|W.seq<|W.seqJ (σ := Bool) (fun s => (⟨[(2, .pv (.i v2)), (3, .pv (.i v3)), (4, .box 4 0), (9, .pv (.i v107.1)), (10, .pv (.i v107.2)), (11, .pv (.i v108.1)), (12, .pv (.i v108.2)), (13, .box 13 0), (127, .pv (.b s))], [(4, 27, [.pv (.sl (List.map cAcid v0.acids)), .pv (.i v0.known), .pv (.i v0.hours), .pv (.sl (List.map eI v0.adds)), .pv (.sl (List.map cStrip v0.strips)), .pv (.sl (List.map cBatch v0.batches))]), (13, 69, [.pv (.i v109.1.rough), .pv (.i v109.1.thick)])], []⟩ : Env)) (fun s => s_21_j2 n v0 v2 v3 v107 v108 v109 s = some r) ?_ ?_
   ·refine W.region<|vm q q q q q<|ov (g_not q q q q) q<|vm q q q q q<|Ops.split 92 q (fun hb => ?_) (fun hb => ?_)
    ·have h := bif_t h hb
     refine o2 q q q q q q<|o2 q q q q q q<|o2 q q q q q q<|o2 q q q q q q<|o2 q q q q q q<|o2 q q q q q q<|vt q q q q q q<|vm q q q q q<|o2 q q q q q q<|o2 q q q q q q<|o2 q q q q q q<|o2 q q q q q q<|o2 q q q q q q<|o2 q q q q q q<|vt q q q q q q<|vm q q q q q<|o2 q q q q q q<|o2 q q q q q q<|vt q q q q q q<|vm q q q q q<|o2 q q q q q q<|o2 q q q q q q<|o2 q q q q q q<|o2 q q q q q q<|vt q q q q q q<|vm q q q q q<|o2 q q q q q q<|o2 q q q q q q<|vt q q q q q q<|vm q q q q q<|o2 q q q q q q<|o2 q q q q q q<|o2 q q q q q q<|o2 q q q q q q<|vt q q q q q q<|on0<|Sq.n<|⟨true, h, has_mk ⟨q, q, q, q, q, q, q, q, q, trivial⟩ ⟨q, q, trivial⟩ trivial q⟩
    ·have h := bif_f h hb
     refine on q q q<|vm q q q q q<|on q q q<|ov (g_neq q q q q q) q<|on q q q<|vm q q q q q<|Ops.split 95 q (fun hb => ?_) (fun hb => ?_)
     ·have h := bif_t h hb
      refine on q q q<|vm q q q q q<|on q q q<|ov (g_neq q q q q q) q<|on q q q<|vt q q q q q q<|vf q q q q q q<|vm q q q q q<|Ops.split 100 q (fun hb => ?_) (fun hb => ?_)
      ·have h := bif_t h hb
       refine o2 q q q q q q<|o2 q q q q q q<|o2 q q q q q q<|o2 q q q q q q<|o2 q q q q q q<|o2 q q q q q q<|vt q q q q q q<|vm q q q q q<|o2 q q q q q q<|o2 q q q q q q<|vt q q q q q q<|vm q q q q q<|o2 q q q q q q<|o2 q q q q q q<|o2 q q q q q q<|o2 q q q q q q<|vt q q q q q q<|vm q q q q q<|o2 q q q q q q<|o2 q q q q q q<|vt q q q q q q<|vm q q q q q<|o2 q q q q q q<|o2 q q q q q q<|o2 q q q q q q<|o2 q q q q q q<|vt q q q q q q<|on0<|Sq.n<|⟨true, h, has_mk ⟨q, q, q, q, q, q, q, q, q, trivial⟩ ⟨q, q, trivial⟩ trivial q⟩
      ·have h := bif_f h hb
       refine on q q q<|vm q q q q q<|on q q q<|ov (g_neq q q q q q) q<|on q q q<|vm q q q q q<|Ops.split 103 q (fun hb => ?_) (fun hb => ?_)
       ·have h := bif_t h hb
        refine on q q q<|vm q q q q q<|on q q q<|ov (g_neq q q q q q) q<|on q q q<|vt q q q q q q<|vf q q q q q q<|vm q q q q q<|Ops.split 108 q (fun hb => ?_) (fun hb => ?_)
        ·have h := bif_t h hb
         refine o2 q q q q q q<|o2 q q q q q q<|vt q q q q q q<|vm q q q q q<|o2 q q q q q q<|o2 q q q q q q<|o2 q q q q q q<|o2 q q q q q q<|vt q q q q q q<|vm q q q q q<|o2 q q q q q q<|o2 q q q q q q<|vt q q q q q q<|vm q q q q q<|o2 q q q q q q<|o2 q q q q q q<|o2 q q q q q q<|o2 q q q q q q<|vt q q q q q q<|on0<|Sq.n<|⟨true, h, has_mk ⟨q, q, q, q, q, q, q, q, q, trivial⟩ ⟨q, q, trivial⟩ trivial q⟩
        ·have h := bif_f h hb
         refine on q q q<|vm q q q q q<|on q q q<|ov (g_lss q q q q q) q<|vf q q q q q q<|vm q q q q q<|Ops.split 112 q (fun hb => ?_) (fun hb => ?_)
         ·have h := bif_t h hb
          refine o2 q q q q q q<|o2 q q q q q q<|o2 q q q q q q<|o2 q q q q q q<|vt q q q q q q<|vm q q q q q<|o2 q q q q q q<|o2 q q q q q q<|vt q q q q q q<|vm q q q q q<|o2 q q q q q q<|o2 q q q q q q<|o2 q q q q q q<|o2 q q q q q q<|vt q q q q q q<|on0<|Sq.n<|⟨true, h, has_mk ⟨q, q, q, q, q, q, q, q, q, trivial⟩ ⟨q, q, trivial⟩ trivial q⟩
         ·have h := bif_f h hb
          refine on q q q<|vm q q q q q<|on q q q<|ov (g_fld q q q q fl_27_2) q<|on q q q<|ov (g_load1 q q q q q q ag_3) q<|on q q q<|ov (g_gtr q q q q q) q<|vf q q q q q q<|vm q q q q q<|Ops.split 118 q (fun hb => ?_) (fun hb => ?_)
          ·have h := bif_t h hb
           refine o2 q q q q q q<|o2 q q q q q q<|vt q q q q q q<|vm q q q q q<|o2 q q q q q q<|o2 q q q q q q<|o2 q q q q q q<|o2 q q q q q q<|vt q q q q q q<|on0<|Sq.n<|⟨true, h, has_mk ⟨q, q, q, q, q, q, q, q, q, trivial⟩ ⟨q, q, trivial⟩ trivial q⟩
          ·have h := bif_f h hb
           refine on q q q<|vm q q q q q<|on q q q<|ov (g_lss q q q q q) q<|vf q q q q q q<|vm q q q q q<|Ops.split 122 q (fun hb => ?_) (fun hb => ?_)
           ·have h := bif_t h hb
            refine o2 q q q q q q<|o2 q q q q q q<|o2 q q q q q q<|o2 q q q q q q<|vt q q q q q q<|on0<|Sq.n<|⟨true, h, has_mk ⟨q, q, q, q, q, q, q, q, q, trivial⟩ ⟨q, q, trivial⟩ trivial q⟩
           ·have h := bif_f h hb
            refine on q q q<|vm q q q q q<|on q q q<|ov (g_fld q q q q fl_27_2) q<|on q q q<|ov (g_load1 q q q q q q ag_3) q<|on q q q<|ov (g_gtr q q q q q) q<|vf q q q q q q<|on0<|Sq.n<|⟨(decide (v0.hours < v108.1)), h, has_mk ⟨q, q, q, q, q, q, q, q, q, trivial⟩ ⟨q, q, trivial⟩ trivial q⟩
       ·have h := bif_f h hb
        refine o2 q q q q q q<|o2 q q q q q q<|on q q q<|vf q q q q q q<|vf q q q q q q<|vm q q q q q<|on q q q<|vm q q q q q<|on q q q<|ov (g_lss q q q q q) q<|vf q q q q q q<|vm q q q q q<|Ops.split 112 q (fun hb => ?_) (fun hb => ?_)
        ·have h := bif_t h hb
         refine o2 q q q q q q<|o2 q q q q q q<|o2 q q q q q q<|o2 q q q q q q<|vt q q q q q q<|vm q q q q q<|o2 q q q q q q<|o2 q q q q q q<|vt q q q q q q<|vm q q q q q<|o2 q q q q q q<|o2 q q q q q q<|o2 q q q q q q<|o2 q q q q q q<|vt q q q q q q<|on0<|Sq.n<|⟨true, h, has_mk ⟨q, q, q, q, q, q, q, q, q, trivial⟩ ⟨q, q, trivial⟩ trivial q⟩
        ·have h := bif_f h hb
         refine on q q q<|vm q q q q q<|on q q q<|ov (g_fld q q q q fl_27_2) q<|on q q q<|ov (g_load1 q q q q q q ag_3) q<|on q q q<|ov (g_gtr q q q q q) q<|vf q q q q q q<|vm q q q q q<|Ops.split 118 q (fun hb => ?_) (fun hb => ?_)
         ·have h := bif_t h hb
          refine o2 q q q q q q<|o2 q q q q q q<|vt q q q q q q<|vm q q q q q<|o2 q q q q q q<|o2 q q q q q q<|o2 q q q q q q<|o2 q q q q q q<|vt q q q q q q<|on0<|Sq.n<|⟨true, h, has_mk ⟨q, q, q, q, q, q, q, q, q, trivial⟩ ⟨q, q, trivial⟩ trivial q⟩
         ·have h := bif_f h hb
          refine on q q q<|vm q q q q q<|on q q q<|ov (g_lss q q q q q) q<|vf q q q q q q<|vm q q q q q<|Ops.split 122 q (fun hb => ?_) (fun hb => ?_)
          ·have h := bif_t h hb
           refine o2 q q q q q q<|o2 q q q q q q<|o2 q q q q q q<|o2 q q q q q q<|vt q q q q q q<|on0<|Sq.n<|⟨true, h, has_mk ⟨q, q, q, q, q, q, q, q, q, trivial⟩ ⟨q, q, trivial⟩ trivial q⟩
          ·have h := bif_f h hb
           refine on q q q<|vm q q q q q<|on q q q<|ov (g_fld q q q q fl_27_2) q<|on q q q<|ov (g_load1 q q q q q q ag_3) q<|on q q q<|ov (g_gtr q q q q q) q<|vf q q q q q q<|on0<|Sq.n<|⟨(decide (v0.hours < v108.1)), h, has_mk ⟨q, q, q, q, q, q, q, q, q, trivial⟩ ⟨q, q, trivial⟩ trivial q⟩
     ·have h := bif_f h hb
      refine o2 q q q q q q<|o2 q q q q q q<|on q q q<|vf q q q q q q<|vf q q q q q q<|vm q q q q q<|on q q q<|vm q q q q q<|on q q q<|ov (g_neq q q q q q) q<|on q q q<|vm q q q q q<|Ops.split 103 q (fun hb => ?_) (fun hb => ?_)
      ·have h := bif_t h hb
       refine on q q q<|vm q q q q q<|on q q q<|ov (g_neq q q q q q) q<|on q q q<|vt q q q q q q<|vf q q q q q q<|vm q q q q q<|Ops.split 108 q (fun hb => ?_) (fun hb => ?_)
       ·have h := bif_t h hb
        refine o2 q q q q q q<|o2 q q q q q q<|vt q q q q q q<|vm q q q q q<|o2 q q q q q q<|o2 q q q q q q<|o2 q q q q q q<|o2 q q q q q q<|vt q q q q q q<|vm q q q q q<|o2 q q q q q q<|o2 q q q q q q<|vt q q q q q q<|vm q q q q q<|o2 q q q q q q<|o2 q q q q q q<|o2 q q q q q q<|o2 q q q q q q<|vt q q q q q q<|on0<|Sq.n<|⟨true, h, has_mk ⟨q, q, q, q, q, q, q, q, q, trivial⟩ ⟨q, q, trivial⟩ trivial q⟩
       ·have h := bif_f h hb
        refine on q q q<|vm q q q q q<|on q q q<|ov (g_lss q q q q q) q<|vf q q q q q q<|vm q q q q q<|Ops.split 112 q (fun hb => ?_) (fun hb => ?_)
        ·have h := bif_t h hb
         refine o2 q q q q q q<|o2 q q q q q q<|o2 q q q q q q<|o2 q q q q q q<|vt q q q q q q<|vm q q q q q<|o2 q q q q q q<|o2 q q q q q q<|vt q q q q q q<|vm q q q q q<|o2 q q q q q q<|o2 q q q q q q<|o2 q q q q q q<|o2 q q q q q q<|vt q q q q q q<|on0<|Sq.n<|⟨true, h, has_mk ⟨q, q, q, q, q, q, q, q, q, trivial⟩ ⟨q, q, trivial⟩ trivial q⟩
        ·have h := bif_f h hb
         refine on q q q<|vm q q q q q<|on q q q<|ov (g_fld q q q q fl_27_2) q<|on q q q<|ov (g_load1 q q q q q q ag_3) q<|on q q q<|ov (g_gtr q q q q q) q<|vf q q q q q q<|vm q q q q q<|Ops.split 118 q (fun hb => ?_) (fun hb => ?_)
         ·have h := bif_t h hb
          refine o2 q q q q q q<|o2 q q q q q q<|vt q q q q q q<|vm q q q q q<|o2 q q q q q q<|o2 q q q q q q<|o2 q q q q q q<|o2 q q q q q q<|vt q q q q q q<|on0<|Sq.n<|⟨true, h, has_mk ⟨q, q, q, q, q, q, q, q, q, trivial⟩ ⟨q, q, trivial⟩ trivial q⟩
         ·have h := bif_f h hb
          refine on q q q<|vm q q q q q<|on q q q<|ov (g_lss q q q q q) q<|vf q q q q q q<|vm q q q q q<|Ops.split 122 q (fun hb => ?_) (fun hb => ?_)
          ·have h := bif_t h hb
           refine o2 q q q q q q<|o2 q q q q q q<|o2 q q q q q q<|o2 q q q q q q<|vt q q q q q q<|on0<|Sq.n<|⟨true, h, has_mk ⟨q, q, q, q, q, q, q, q, q, trivial⟩ ⟨q, q, trivial⟩ trivial q⟩
          ·have h := bif_f h hb
           refine on q q q<|vm q q q q q<|on q q q<|ov (g_fld q q q q fl_27_2) q<|on q q q<|ov (g_load1 q q q q q q ag_3) q<|on q q q<|ov (g_gtr q q q q q) q<|vf q q q q q q<|on0<|Sq.n<|⟨(decide (v0.hours < v108.1)), h, has_mk ⟨q, q, q, q, q, q, q, q, q, trivial⟩ ⟨q, q, trivial⟩ trivial q⟩
      ·have h := bif_f h hb
       refine o2 q q q q q q<|o2 q q q q q q<|on q q q<|vf q q q q q q<|vf q q q q q q<|vm q q q q q<|on q q q<|vm q q q q q<|on q q q<|ov (g_lss q q q q q) q<|vf q q q q q q<|vm q q q q q<|Ops.split 112 q (fun hb => ?_) (fun hb => ?_)
       ·have h := bif_t h hb
        refine o2 q q q q q q<|o2 q q q q q q<|o2 q q q q q q<|o2 q q q q q q<|vt q q q q q q<|vm q q q q q<|o2 q q q q q q<|o2 q q q q q q<|vt q q q q q q<|vm q q q q q<|o2 q q q q q q<|o2 q q q q q q<|o2 q q q q q q<|o2 q q q q q q<|vt q q q q q q<|on0<|Sq.n<|⟨true, h, has_mk ⟨q, q, q, q, q, q, q, q, q, trivial⟩ ⟨q, q, trivial⟩ trivial q⟩
       ·have h := bif_f h hb
        refine on q q q<|vm q q q q q<|on q q q<|ov (g_fld q q q q fl_27_2) q<|on q q q<|ov (g_load1 q q q q q q ag_3) q<|on q q q<|ov (g_gtr q q q q q) q<|vf q q q q q q<|vm q q q q q<|Ops.split 118 q (fun hb => ?_) (fun hb => ?_)
        ·have h := bif_t h hb
         refine o2 q q q q q q<|o2 q q q q q q<|vt q q q q q q<|vm q q q q q<|o2 q q q q q q<|o2 q q q q q q<|o2 q q q q q q<|o2 q q q q q q<|vt q q q q q q<|on0<|Sq.n<|⟨true, h, has_mk ⟨q, q, q, q, q, q, q, q, q, trivial⟩ ⟨q, q, trivial⟩ trivial q⟩
        ·have h := bif_f h hb
         refine on q q q<|vm q q q q q<|on q q q<|ov (g_lss q q q q q) q<|vf q q q q q q<|vm q q q q q<|Ops.split 122 q (fun hb => ?_) (fun hb => ?_)
         ·have h := bif_t h hb
          refine o2 q q q q q q<|o2 q q q q q q<|o2 q q q q q q<|o2 q q q q q q<|vt q q q q q q<|on0<|Sq.n<|⟨true, h, has_mk ⟨q, q, q, q, q, q, q, q, q, trivial⟩ ⟨q, q, trivial⟩ trivial q⟩
         ·have h := bif_f h hb
          refine on q q q<|vm q q q q q<|on q q q<|ov (g_fld q q q q fl_27_2) q<|on q q q<|ov (g_load1 q q q q q q ag_3) q<|on q q q<|ov (g_gtr q q q q q) q<|vf q q q q q q<|on0<|Sq.n<|⟨(decide (v0.hours < v108.1)), h, has_mk ⟨q, q, q, q, q, q, q, q, q, trivial⟩ ⟨q, q, trivial⟩ trivial q⟩
   ·rintro v110 h
    change s_21_j2 n v0 v2 v3 v107 v108 v109 v110 = some r at h
    unfold s_21_j2 at h
    change W _ _ (⟨[(2, .pv (.i v2)), (3, .pv (.i v3)), (4, .box 4 0), (9, .pv (.i v107.1)), (10, .pv (.i v107.2)), (11, .pv (.i v108.1)), (12, .pv (.i v108.2)), (13, .box 13 0), (127, .pv (.b v110))], [(4, 27, [.pv (.sl (List.map cAcid v0.acids)), .pv (.i v0.known), .pv (.i v0.hours), .pv (.sl (List.map eI v0.adds)), .pv (.sl (List.map cStrip v0.strips)), .pv (.sl (List.map cBatch v0.batches))]), (13, 69, [.pv (.i v109.1.rough), .pv (.i v109.1.thick)])], []⟩ : Env) _
    refine W.cond (b := v110) q (fun hc => ?_) (fun hc => ?_)
    ·have h := bif_t h hc
     refine W.seq<|W.region<|va q q q q q<|on0<|Sq.n<|W.ret<|Sq.r ?_
     obtain rfl := Option.some.inj h
     exact Fin.r q (.cons (.tmp _ _ q) .nil) q
    ·have h := bif_f h hc
     refine W.skip<|Sq.n<|W.seq<|W.region<|ov (g_fld q q q q fl_27_5) q<|ov (g_load1 q q q q q q ag_25) q<|vm q q q q q ?_
     obtain ⟨v111, e111, h⟩ := bind_some h
     refine ov (g_idxI (l := v0.batches) (enc := cBatch) e111 q q q q q el_25 q) q<|ov (g_loadRA q q q q ag_67 sz_67 q q) q<|ob (g_alloc q q q zr_67) q q<|Ops.step q (s_storeB q q q q q q sz_67 q q)<|on0<|Sq.n<|W.seq<|W.seqJ (σ := Bool) (fun s => (⟨[(2, .pv (.i v2)), (4, .box 4 0), (9, .pv (.i v107.1)), (10, .pv (.i v107.2)), (11, .pv (.i v108.1)), (12, .pv (.i v108.2)), (15, .box 15 0), (162, .pv (.b s))], [(4, 27, [.pv (.sl (List.map cAcid v0.acids)), .pv (.i v0.known), .pv (.i v0.hours), .pv (.sl (List.map eI v0.adds)), .pv (.sl (List.map cStrip v0.strips)), .pv (.sl (List.map cBatch v0.batches))]), (15, 67, [.pv (.i v111.rough), .pv (.i v111.goal), .pv (.i v111.thick), .pv (.i v111.least), .pv (.i v111.polish), .pv (.i v111.eat)])], []⟩ : Env)) (fun s => s_21_j3 n v0 v2 v107 v108 v111 s = some r) ?_ ?_
     ·refine W.region<|vm q q q q q<|ov (g_eql q q q q q) q<|vm q q q q q<|Ops.split 135 q (fun hb => ?_) (fun hb => ?_)
      ·have h := bif_t h hb
       refine on q q q<|vm q q q q q<|on q q q<|vm q q q q q<|on q q q<|ov (g_geq q q q q q) q<|vt q q q q q q<|vm q q q q q<|Ops.split 140 q (fun hb => ?_) (fun hb => ?_)
       ·have h := bif_t h hb
        refine on q q q<|ov (g_fld q q q q fl_69_0) q<|on q q q<|ov (g_load1 q q q q q q ag_3) q<|on q q q<|ov (g_fld q q q q fl_67_1) q<|on q q q<|ov (g_load1 q q q q q q ag_3) q<|on q q q<|ov (g_gtr q q q q q) q<|vt q q q q q q<|vm q q q q q<|Ops.split 147 q (fun hb => ?_) (fun hb => ?_)
        ·have h := bif_t h hb
         refine o2 q q q q q q<|o2 q q q q q q<|o2 q q q q q q<|o2 q q q q q q<|o2 q q q q q q<|o2 q q q q q q<|o2 q q q q q q<|o2 q q q q q q<|o2 q q q q q q<|o2 q q q q q q<|o2 q q q q q q<|o2 q q q q q q<|o2 q q q q q q<|o2 q q q q q q<|vt q q q q q q<|on0<|Sq.n<|⟨true, h, has_mk ⟨q, q, q, q, q, q, q, q, trivial⟩ ⟨q, q, trivial⟩ trivial q⟩
        ·have h := bif_f h hb
         refine on q q q<|vm q q q q q<|on q q q<|ov (g_eql q q q q q) q<|on q q q<|vm q q q q q<|Ops.split 150 q (fun hb => ?_) (fun hb => ?_)
         ·have h := bif_t h hb
          refine on q q q<|vm q q q q q<|on q q q<|vm q q q q q<|on q q q<|ov (g_leq q q q q q) q<|on q q q<|vt q q q q q q<|on q q q<|vm q q q q q<|Ops.split 155 q (fun hb => ?_) (fun hb => ?_)
          ·have h := bif_t h hb
           refine on q q q<|ov (g_fld q q q q fl_69_1) q<|on q q q<|ov (g_load1 q q q q q q ag_3) q<|on q q q<|ov (g_fld q q q q fl_67_3) q<|on q q q<|ov (g_load1 q q q q q q ag_3) q<|on q q q<|ov (g_lss q q q q q) q<|on q q q<|vt q q q q q q<|vf q q q q q q<|on0<|Sq.n<|⟨(decide (v109.1.thick < v111.least)), h, has_mk ⟨q, q, q, q, q, q, q, q, trivial⟩ ⟨q, q, trivial⟩ trivial q⟩
          ·have h := bif_f h hb
           refine o2 q q q q q q<|o2 q q q q q q<|o2 q q q q q q<|o2 q q q q q q<|o2 q q q q q q<|on q q q<|vf q q q q q q<|vf q q q q q q<|on0<|Sq.n<|⟨false, h, has_mk ⟨q, q, q, q, q, q, q, q, trivial⟩ ⟨q, q, trivial⟩ trivial q⟩
         ·have h := bif_f h hb
          refine o2 q q q q q q<|o2 q q q q q q<|o2 q q q q q q<|on q q q<|vf q q q q q q<|on q q q<|vm q q q q q<|o2 q q q q q q<|o2 q q q q q q<|o2 q q q q q q<|o2 q q q q q q<|o2 q q q q q q<|on q q q<|vf q q q q q q<|vf q q q q q q<|on0<|Sq.n<|⟨false, h, has_mk ⟨q, q, q, q, q, q, q, q, trivial⟩ ⟨q, q, trivial⟩ trivial q⟩
       ·have h := bif_f h hb
        refine o2 q q q q q q<|o2 q q q q q q<|o2 q q q q q q<|o2 q q q q q q<|o2 q q q q q q<|vf q q q q q q<|vm q q q q q<|on q q q<|vm q q q q q<|on q q q<|ov (g_eql q q q q q) q<|on q q q<|vm q q q q q<|Ops.split 150 q (fun hb => ?_) (fun hb => ?_)
        ·have h := bif_t h hb
         refine on q q q<|vm q q q q q<|on q q q<|vm q q q q q<|on q q q<|ov (g_leq q q q q q) q<|on q q q<|vt q q q q q q<|on q q q<|vm q q q q q<|Ops.split 155 q (fun hb => ?_) (fun hb => ?_)
         ·have h := bif_t h hb
          refine on q q q<|ov (g_fld q q q q fl_69_1) q<|on q q q<|ov (g_load1 q q q q q q ag_3) q<|on q q q<|ov (g_fld q q q q fl_67_3) q<|on q q q<|ov (g_load1 q q q q q q ag_3) q<|on q q q<|ov (g_lss q q q q q) q<|on q q q<|vt q q q q q q<|vf q q q q q q<|on0<|Sq.n<|⟨(decide (v109.1.thick < v111.least)), h, has_mk ⟨q, q, q, q, q, q, q, q, trivial⟩ ⟨q, q, trivial⟩ trivial q⟩
         ·have h := bif_f h hb
          refine o2 q q q q q q<|o2 q q q q q q<|o2 q q q q q q<|o2 q q q q q q<|o2 q q q q q q<|on q q q<|vf q q q q q q<|vf q q q q q q<|on0<|Sq.n<|⟨false, h, has_mk ⟨q, q, q, q, q, q, q, q, trivial⟩ ⟨q, q, trivial⟩ trivial q⟩
        ·have h := bif_f h hb
         refine o2 q q q q q q<|o2 q q q q q q<|o2 q q q q q q<|on q q q<|vf q q q q q q<|on q q q<|vm q q q q q<|o2 q q q q q q<|o2 q q q q q q<|o2 q q q q q q<|o2 q q q q q q<|o2 q q q q q q<|on q q q<|vf q q q q q q<|vf q q q q q q<|on0<|Sq.n<|⟨false, h, has_mk ⟨q, q, q, q, q, q, q, q, trivial⟩ ⟨q, q, trivial⟩ trivial q⟩
      ·have h := bif_f h hb
       refine o2 q q q q q q<|o2 q q q q q q<|o2 q q q q q q<|vf q q q q q q<|vm q q q q q<|o2 q q q q q q<|o2 q q q q q q<|o2 q q q q q q<|o2 q q q q q q<|o2 q q q q q q<|vf q q q q q q<|vm q q q q q<|on q q q<|vm q q q q q<|on q q q<|ov (g_eql q q q q q) q<|on q q q<|vm q q q q q<|Ops.split 150 q (fun hb => ?_) (fun hb => ?_)
       ·have h := bif_t h hb
        refine on q q q<|vm q q q q q<|on q q q<|vm q q q q q<|on q q q<|ov (g_leq q q q q q) q<|on q q q<|vt q q q q q q<|on q q q<|vm q q q q q<|Ops.split 155 q (fun hb => ?_) (fun hb => ?_)
        ·have h := bif_t h hb
         refine on q q q<|ov (g_fld q q q q fl_69_1) q<|on q q q<|ov (g_load1 q q q q q q ag_3) q<|on q q q<|ov (g_fld q q q q fl_67_3) q<|on q q q<|ov (g_load1 q q q q q q ag_3) q<|on q q q<|ov (g_lss q q q q q) q<|on q q q<|vt q q q q q q<|vf q q q q q q<|on0<|Sq.n<|⟨(decide (v109.1.thick < v111.least)), h, has_mk ⟨q, q, q, q, q, q, q, q, trivial⟩ ⟨q, q, trivial⟩ trivial q⟩
        ·have h := bif_f h hb
         refine o2 q q q q q q<|o2 q q q q q q<|o2 q q q q q q<|o2 q q q q q q<|o2 q q q q q q<|on q q q<|vf q q q q q q<|vf q q q q q q<|on0<|Sq.n<|⟨false, h, has_mk ⟨q, q, q, q, q, q, q, q, trivial⟩ ⟨q, q, trivial⟩ trivial q⟩
       ·have h := bif_f h hb
        refine o2 q q q q q q<|o2 q q q q q q<|o2 q q q q q q<|on q q q<|vf q q q q q q<|on q q q<|vm q q q q q<|o2 q q q q q q<|o2 q q q q q q<|o2 q q q q q q<|o2 q q q q q q<|o2 q q q q q q<|on q q q<|vf q q q q q q<|vf q q q q q q<|on0<|Sq.n<|⟨false, h, has_mk ⟨q, q, q, q, q, q, q, q, trivial⟩ ⟨q, q, trivial⟩ trivial q⟩
     ·rintro v112 h
      change s_21_j3 n v0 v2 v107 v108 v111 v112 = some r at h
      unfold s_21_j3 at h
      change W _ _ (⟨[(2, .pv (.i v2)), (4, .box 4 0), (9, .pv (.i v107.1)), (10, .pv (.i v107.2)), (11, .pv (.i v108.1)), (12, .pv (.i v108.2)), (15, .box 15 0), (162, .pv (.b v112))], [(4, 27, [.pv (.sl (List.map cAcid v0.acids)), .pv (.i v0.known), .pv (.i v0.hours), .pv (.sl (List.map eI v0.adds)), .pv (.sl (List.map cStrip v0.strips)), .pv (.sl (List.map cBatch v0.batches))]), (15, 67, [.pv (.i v111.rough), .pv (.i v111.goal), .pv (.i v111.thick), .pv (.i v111.least), .pv (.i v111.polish), .pv (.i v111.eat)])], []⟩ : Env) _
      refine W.cond (b := v112) q (fun hc => ?_) (fun hc => ?_)
      ·have h := bif_t h hc
       refine W.seq<|W.region<|va q q q q q<|on0<|Sq.n<|W.ret<|Sq.r ?_
       obtain rfl := Option.some.inj h
       exact Fin.r q (.cons (.tmp _ _ q) .nil) q
      ·have h := bif_f h hc
       refine W.skip<|Sq.n<|W.seq<|W.region<|vm q q q q q<|ov (g_sub q q q q q) q<|vm q q q q q<|ov (g_add q q q q q) q<|va q q q q q<|va q q q q q<|on0<|Sq.n<|W.seqJ (σ := Int) (fun s => (⟨[(2, .pv (.i v2)), (4, .box 4 0), (12, .pv (.i v108.2)), (15, .box 15 0), (16, .pv (.i s)), (17, .pv (.val (.int .i64 (wr (v108.1 + 1)))))], [(4, 27, [.pv (.sl (List.map cAcid v0.acids)), .pv (.i v0.known), .pv (.i v0.hours), .pv (.sl (List.map eI v0.adds)), .pv (.sl (List.map cStrip v0.strips)), .pv (.sl (List.map cBatch v0.batches))]), (15, 67, [.pv (.i v111.rough), .pv (.i v111.goal), .pv (.i v111.thick), .pv (.i v111.least), .pv (.i v111.polish), .pv (.i v111.eat)])], []⟩ : Env)) (fun s => s_21_j4 n v0 v2 v108 v111 s = some r) ?_ ?_
       ·refine W.seq<|W.region<|vm q q q q q<|ov (g_neq q q q q q) q<|on0<|Sq.n<|W.cond (b := (!decide (v107.2 = 0))) q (fun hc => ?_) (fun hc => ?_)
        ·have h := bif_t h hc
         refine W.region<|ov (g_fld q q q q fl_27_2) q<|ov (g_load1 q q q q q q ag_3) q<|va q q q q q<|on0<|Sq.n<|⟨v0.hours, h, has_mk ⟨q, q, q, q, q, q, trivial⟩ ⟨q, q, trivial⟩ trivial q⟩
        ·have h := bif_f h hc
         refine W.skip<|Sq.n<|⟨wr (v107.1 - 1), h, has_mk ⟨q, q, q, q, q, q, trivial⟩ ⟨q, q, trivial⟩ trivial q⟩
       ·rintro v113 h
        change s_21_j4 n v0 v2 v108 v111 v113 = some r at h
        unfold s_21_j4 at h
        change W _ _ (⟨[(2, .pv (.i v2)), (4, .box 4 0), (12, .pv (.i v108.2)), (15, .box 15 0), (16, .pv (.i v113)), (17, .pv (.val (.int .i64 (wr (v108.1 + 1)))))], [(4, 27, [.pv (.sl (List.map cAcid v0.acids)), .pv (.i v0.known), .pv (.i v0.hours), .pv (.sl (List.map eI v0.adds)), .pv (.sl (List.map cStrip v0.strips)), .pv (.sl (List.map cBatch v0.batches))]), (15, 67, [.pv (.i v111.rough), .pv (.i v111.goal), .pv (.i v111.thick), .pv (.i v111.least), .pv (.i v111.polish), .pv (.i v111.eat)])], []⟩ : Env) _
        refine W.seqJ (σ := Int) (fun s => (⟨[(2, .pv (.i v2)), (4, .box 4 0), (15, .box 15 0), (16, .pv (.i v113)), (17, .pv (.i s))], [(4, 27, [.pv (.sl (List.map cAcid v0.acids)), .pv (.i v0.known), .pv (.i v0.hours), .pv (.sl (List.map eI v0.adds)), .pv (.sl (List.map cStrip v0.strips)), .pv (.sl (List.map cBatch v0.batches))]), (15, 67, [.pv (.i v111.rough), .pv (.i v111.goal), .pv (.i v111.thick), .pv (.i v111.least), .pv (.i v111.polish), .pv (.i v111.eat)])], []⟩ : Env)) (fun s => s_21_j5 n v0 v2 v111 v113 s = some r) ?_ ?_
        ·refine W.seq<|W.region<|vm q q q q q<|ov (g_neq q q q q q) q<|on0<|Sq.n<|W.cond (b := (!decide (v108.2 = 0))) q (fun hc => ?_) (fun hc => ?_)
         ·have h := bif_t h hc
          refine W.region<|va q q q q q<|on0<|Sq.n<|⟨0, h, has_mk ⟨q, q, q, q, q, trivial⟩ ⟨q, q, trivial⟩ trivial q⟩
         ·have h := bif_f h hc
          refine W.skip<|Sq.n<|⟨wr (v108.1 + 1), h, has_mk ⟨q, q, q, q, q, trivial⟩ ⟨q, q, trivial⟩ trivial q⟩
        ·rintro v114 h
         change s_21_j5 n v0 v2 v111 v113 v114 = some r at h
         unfold s_21_j5 at h
         change W _ _ (⟨[(2, .pv (.i v2)), (4, .box 4 0), (15, .box 15 0), (16, .pv (.i v113)), (17, .pv (.i v114))], [(4, 27, [.pv (.sl (List.map cAcid v0.acids)), .pv (.i v0.known), .pv (.i v0.hours), .pv (.sl (List.map eI v0.adds)), .pv (.sl (List.map cStrip v0.strips)), .pv (.sl (List.map cBatch v0.batches))]), (15, 67, [.pv (.i v111.rough), .pv (.i v111.goal), .pv (.i v111.thick), .pv (.i v111.least), .pv (.i v111.polish), .pv (.i v111.eat)])], []⟩ : Env) _
         refine W.seqJ (σ := Unit) (fun s => (⟨[(2, .pv (.i v2)), (4, .box 4 0), (15, .box 15 0), (17, .pv (.i v114))], [(4, 27, [.pv (.sl (List.map cAcid v0.acids)), .pv (.i v0.known), .pv (.i v0.hours), .pv (.sl (List.map eI v0.adds)), .pv (.sl (List.map cStrip v0.strips)), .pv (.sl (List.map cBatch v0.batches))]), (15, 67, [.pv (.i v111.rough), .pv (.i v111.goal), .pv (.i v111.thick), .pv (.i v111.least), .pv (.i v111.polish), .pv (.i v111.eat)])], []⟩ : Env)) (fun s => s_21_j9 n v0 v2 v111 v114  = some r) ?_ ?_
         ·refine W.seq<|W.region<|vm q q q q q<|ov (g_geq q q q q q) q<|on0<|Sq.n<|W.cond (b := (decide (0 ≤ v113))) q (fun hc => ?_) (fun hc => ?_)
          ·have h := bif_t h hc
           refine W.seq<|W.region<|ov (g_loadA q q q q q ag_27 sz_27 q q) q<|vm q q q q q ?_
           obtain ⟨v115, e115, h⟩ := bind_some h
           refine ov (g_call q q q ca_48 q (c_48 _ _ _ e115)) q<|vm q q q q q<|ov (g_extract q q q q q) q<|ov (g_extract q q q q q) q<|va q q q q q<|va q q q q q<|on0<|Sq.n<|W.seqJ (σ := Bool) (fun s => (⟨[(2, .pv (.i v2)), (4, .box 4 0), (15, .box 15 0), (17, .pv (.i v114)), (201, .pv (.b s))], [(4, 27, [.pv (.sl (List.map cAcid v0.acids)), .pv (.i v0.known), .pv (.i v0.hours), .pv (.sl (List.map eI v0.adds)), .pv (.sl (List.map cStrip v0.strips)), .pv (.sl (List.map cBatch v0.batches))]), (15, 67, [.pv (.i v111.rough), .pv (.i v111.goal), .pv (.i v111.thick), .pv (.i v111.least), .pv (.i v111.polish), .pv (.i v111.eat)])], []⟩ : Env)) (fun s => s_21_j8 n v0 v2 v111 v114 s = some r) ?_ ?_
           ·rcases Bool.eq_false_or_eq_true ((!decide (v115.2 = 0))) with hb6 | hb6
            ·have h := bif_t h hb6
             refine W.draw (m := 19) Checked.mixed (Pre.v (GSG.of q (g_move q q q q)) ((Pre.v (GSG.of q (g_neq q q q q q)) ((Pre.v (GSG.as (GSG.of q (g_move q q q q)) (congrArg (fun b => TV.pv (PV.b b)) hb6)) ((Pre.v (GSG.off2 q q q q q q) ((Pre.v (GSG.off2 q q q q q q) ((Pre.v (GSG.off2 q q q q q q) ((Pre.v (GSG.off2 q q q q q q) ((Pre.v (GSG.off2 q q q q q q) ((Pre.v (GSG.off2 q q q q q q) ((Pre.v (GSG.of q (g_pickT q q q q q)) ((Pre.v (GSG.of q (g_move q q q q)) ((Pre.v (GSG.off2 q q q q q q) ((Pre.v (GSG.off2 q q q q q q) ((Pre.v (GSG.off2 q q q q q q) ((Pre.v (GSG.off2 q q q q q q) ((Pre.v (GSG.off2 q q q q q q) ((Pre.v (GSG.off2 q q q q q q) ((Pre.v (GSG.off2 q q q q q q) ((Pre.v (GSG.off2 q q q q q q) (Pre.nil _)))))))))))))))))))))))))))))))))))))) (by kernel_rfl)<|o2 q q q q q q<|vt q q q q q q<|on0<|Sq.n<|⟨true, h, has_mk ⟨q, q, q, q, q, trivial⟩ ⟨q, q, trivial⟩ trivial q⟩
            ·have h := bif_f h hb6
             rcases Bool.eq_false_or_eq_true ((!decide ((v115.1.length : Int) = (v0.batches.length : Int)))) with hb7 | hb7
             ·have h := bif_t h hb7
              refine W.draw (m := 19) Checked.mixed (Pre.v (GSG.of q (g_move q q q q)) ((Pre.v (GSG.of q (g_neq q q q q q)) ((Pre.v (GSG.as (GSG.of q (g_move q q q q)) (congrArg (fun b => TV.pv (PV.b b)) hb6)) ((Pre.v (GSG.on q q q (g_move q q q q)) ((Pre.v (GSG.on q q q (g_lenM (l := v115.1) (enc := cBounds) q ul_63 q q q)) ((Pre.v (GSG.on q q q (g_fld q q q q fl_27_5)) ((Pre.v (GSG.on q q q (g_load1 q q q q q q ag_25)) ((Pre.v (GSG.on q q q (g_lenM (l := v0.batches) (enc := cBatch) q ul_25 q q q)) ((Pre.v (GSG.on q q q (g_neq q q q q q)) ((Pre.v (GSG.of q (g_pickF q q q q q)) ((Pre.v (GSG.as (GSG.of q (g_move q q q q)) (congrArg (fun b => TV.pv (PV.b b)) hb7)) ((Pre.v (GSG.off2 q q q q q q) ((Pre.v (GSG.off2 q q q q q q) ((Pre.v (GSG.off2 q q q q q q) ((Pre.v (GSG.off2 q q q q q q) ((Pre.v (GSG.off2 q q q q q q) ((Pre.v (GSG.off2 q q q q q q) ((Pre.v (GSG.off2 q q q q q q) ((Pre.v (GSG.off2 q q q q q q) (Pre.nil _)))))))))))))))))))))))))))))))))))))) (by kernel_rfl)<|o2 q q q q q q<|vt q q q q q q<|on0<|Sq.n<|⟨true, h, has_mk ⟨q, q, q, q, q, trivial⟩ ⟨q, q, trivial⟩ trivial q⟩
             ·have h := bif_f h hb7
              obtain ⟨v116, e116, h⟩ := bind_some h
              refine W.draw (m := 19) Checked.mixed (Pre.v (GSG.of q (g_move q q q q)) ((Pre.v (GSG.of q (g_neq q q q q q)) ((Pre.v (GSG.as (GSG.of q (g_move q q q q)) (congrArg (fun b => TV.pv (PV.b b)) hb6)) ((Pre.v (GSG.on q q q (g_move q q q q)) ((Pre.v (GSG.on q q q (g_lenM (l := v115.1) (enc := cBounds) q ul_63 q q q)) ((Pre.v (GSG.on q q q (g_fld q q q q fl_27_5)) ((Pre.v (GSG.on q q q (g_load1 q q q q q q ag_25)) ((Pre.v (GSG.on q q q (g_lenM (l := v0.batches) (enc := cBatch) q ul_25 q q q)) ((Pre.v (GSG.on q q q (g_neq q q q q q)) ((Pre.v (GSG.of q (g_pickF q q q q q)) ((Pre.v (GSG.as (GSG.of q (g_move q q q q)) (congrArg (fun b => TV.pv (PV.b b)) hb7)) ((Pre.v (GSG.on q q q (g_move q q q q)) ((Pre.v (GSG.on q q q (g_move q q q q)) ((Pre.v (GSG.on q q q (g_idxI (l := v115.1) (enc := cBounds) e116 q q q q q el_63 q)) ((Pre.v (GSG.on q q q (g_fldR q q q q fl_71_0 q)) ((Pre.v (GSG.on q q q (g_fldR q q q q fl_57_1 q)) ((Pre.v (GSG.on q q q (g_loadR1 q q q q q ag_3)) ((Pre.v (GSG.on q q q (g_fld q q q q fl_67_1)) ((Pre.v (GSG.on q q q (g_load1 q q q q q q ag_3)) (Pre.nil _)))))))))))))))))))))))))))))))))))))) (by kernel_rfl)<|on q q q<|ov (g_leq q q q q q) q<|vf q q q q q q<|on0<|Sq.n<|⟨(decide (v116.rough.high ≤ v111.goal)), h, has_mk ⟨q, q, q, q, q, trivial⟩ ⟨q, q, trivial⟩ trivial q⟩
           ·rintro v117 h
            change s_21_j8 n v0 v2 v111 v114 v117 = some r at h
            unfold s_21_j8 at h
            change W _ _ (⟨[(2, .pv (.i v2)), (4, .box 4 0), (15, .box 15 0), (17, .pv (.i v114)), (201, .pv (.b v117))], [(4, 27, [.pv (.sl (List.map cAcid v0.acids)), .pv (.i v0.known), .pv (.i v0.hours), .pv (.sl (List.map eI v0.adds)), .pv (.sl (List.map cStrip v0.strips)), .pv (.sl (List.map cBatch v0.batches))]), (15, 67, [.pv (.i v111.rough), .pv (.i v111.goal), .pv (.i v111.thick), .pv (.i v111.least), .pv (.i v111.polish), .pv (.i v111.eat)])], []⟩ : Env) _
            refine W.cond (b := v117) q (fun hc => ?_) (fun hc => ?_)
            ·have h := bif_t h hc
             refine W.seq<|W.region<|va q q q q q<|on0<|Sq.n<|W.ret<|Sq.r ?_
             obtain rfl := Option.some.inj h
             exact Fin.r q (.cons (.tmp _ _ q) .nil) q
            ·have h := bif_f h hc
             refine W.skip<|Sq.n<|⟨(), h, has_mk ⟨q, q, q, q, trivial⟩ ⟨q, q, trivial⟩ trivial q⟩
          ·have h := bif_f h hc
           refine W.skip<|Sq.n<|⟨(), h, has_mk ⟨q, q, q, q, trivial⟩ ⟨q, q, trivial⟩ trivial q⟩
         ·rintro ⟨⟩ h
          change s_21_j9 n v0 v2 v111 v114  = some r at h
          unfold s_21_j9 at h
          change W _ _ (⟨[(2, .pv (.i v2)), (4, .box 4 0), (15, .box 15 0), (17, .pv (.i v114))], [(4, 27, [.pv (.sl (List.map cAcid v0.acids)), .pv (.i v0.known), .pv (.i v0.hours), .pv (.sl (List.map eI v0.adds)), .pv (.sl (List.map cStrip v0.strips)), .pv (.sl (List.map cBatch v0.batches))]), (15, 67, [.pv (.i v111.rough), .pv (.i v111.goal), .pv (.i v111.thick), .pv (.i v111.least), .pv (.i v111.polish), .pv (.i v111.eat)])], []⟩ : Env) _
          refine W.seq<|W.seq<|W.region<|vm q q q q q<|ov (g_fld q q q q fl_27_2) q<|ov (g_load1 q q q q q q ag_3) q<|ov (g_leq q q q q q) q<|on0<|Sq.n<|W.cond (b := (decide (v114 ≤ v0.hours))) q (fun hc => ?_) (fun hc => ?_)
          ·have h := bif_t h hc
           refine W.seq<|W.region<|ov (g_loadA q q q q q ag_27 sz_27 q q) q<|vm q q q q q ?_
           obtain ⟨v118, e118, h⟩ := bind_some h
           refine ov (g_call q q q ca_48 q (c_48 _ _ _ e118)) q<|vm q q q q q<|ov (g_extract q q q q q) q<|ov (g_extract q q q q q) q<|va q q q q q<|va q q q q q<|on0<|Sq.n<|W.seqJ (σ := Bool) (fun s => (Ev [(232, .pv (.b s))])) (fun s => s_21_j12 n s = some r) ?_ ?_
           ·rcases Bool.eq_false_or_eq_true ((!decide (v118.2 = 0))) with hb10 | hb10
            ·have h := bif_t h hb10
             refine W.draw (m := 19) Checked.mixed (Pre.v (GSG.of q (g_move q q q q)) ((Pre.v (GSG.of q (g_neq q q q q q)) ((Pre.v (GSG.as (GSG.of q (g_move q q q q)) (congrArg (fun b => TV.pv (PV.b b)) hb10)) ((Pre.v (GSG.off2 q q q q q q) ((Pre.v (GSG.off2 q q q q q q) ((Pre.v (GSG.off2 q q q q q q) ((Pre.v (GSG.off2 q q q q q q) ((Pre.v (GSG.off2 q q q q q q) ((Pre.v (GSG.off2 q q q q q q) ((Pre.v (GSG.of q (g_pickT q q q q q)) ((Pre.v (GSG.of q (g_move q q q q)) ((Pre.v (GSG.off2 q q q q q q) ((Pre.v (GSG.off2 q q q q q q) ((Pre.v (GSG.off2 q q q q q q) ((Pre.v (GSG.off2 q q q q q q) ((Pre.v (GSG.off2 q q q q q q) ((Pre.v (GSG.off2 q q q q q q) ((Pre.v (GSG.off2 q q q q q q) ((Pre.v (GSG.off2 q q q q q q) (Pre.nil _)))))))))))))))))))))))))))))))))))))) (by kernel_rfl)<|o2 q q q q q q<|vt q q q q q q<|on0<|Sq.n<|⟨true, h, has_mk ⟨q, trivial⟩ trivial trivial q⟩
            ·have h := bif_f h hb10
             rcases Bool.eq_false_or_eq_true ((!decide ((v118.1.length : Int) = (v0.batches.length : Int)))) with hb11 | hb11
             ·have h := bif_t h hb11
              refine W.draw (m := 19) Checked.mixed (Pre.v (GSG.of q (g_move q q q q)) ((Pre.v (GSG.of q (g_neq q q q q q)) ((Pre.v (GSG.as (GSG.of q (g_move q q q q)) (congrArg (fun b => TV.pv (PV.b b)) hb10)) ((Pre.v (GSG.on q q q (g_move q q q q)) ((Pre.v (GSG.on q q q (g_lenM (l := v118.1) (enc := cBounds) q ul_63 q q q)) ((Pre.v (GSG.on q q q (g_fld q q q q fl_27_5)) ((Pre.v (GSG.on q q q (g_load1 q q q q q q ag_25)) ((Pre.v (GSG.on q q q (g_lenM (l := v0.batches) (enc := cBatch) q ul_25 q q q)) ((Pre.v (GSG.on q q q (g_neq q q q q q)) ((Pre.v (GSG.of q (g_pickF q q q q q)) ((Pre.v (GSG.as (GSG.of q (g_move q q q q)) (congrArg (fun b => TV.pv (PV.b b)) hb11)) ((Pre.v (GSG.off2 q q q q q q) ((Pre.v (GSG.off2 q q q q q q) ((Pre.v (GSG.off2 q q q q q q) ((Pre.v (GSG.off2 q q q q q q) ((Pre.v (GSG.off2 q q q q q q) ((Pre.v (GSG.off2 q q q q q q) ((Pre.v (GSG.off2 q q q q q q) ((Pre.v (GSG.off2 q q q q q q) (Pre.nil _)))))))))))))))))))))))))))))))))))))) (by kernel_rfl)<|o2 q q q q q q<|vt q q q q q q<|on0<|Sq.n<|⟨true, h, has_mk ⟨q, trivial⟩ trivial trivial q⟩
             ·have h := bif_f h hb11
              obtain ⟨v119, e119, h⟩ := bind_some h
              refine W.draw (m := 19) Checked.mixed (Pre.v (GSG.of q (g_move q q q q)) ((Pre.v (GSG.of q (g_neq q q q q q)) ((Pre.v (GSG.as (GSG.of q (g_move q q q q)) (congrArg (fun b => TV.pv (PV.b b)) hb10)) ((Pre.v (GSG.on q q q (g_move q q q q)) ((Pre.v (GSG.on q q q (g_lenM (l := v118.1) (enc := cBounds) q ul_63 q q q)) ((Pre.v (GSG.on q q q (g_fld q q q q fl_27_5)) ((Pre.v (GSG.on q q q (g_load1 q q q q q q ag_25)) ((Pre.v (GSG.on q q q (g_lenM (l := v0.batches) (enc := cBatch) q ul_25 q q q)) ((Pre.v (GSG.on q q q (g_neq q q q q q)) ((Pre.v (GSG.of q (g_pickF q q q q q)) ((Pre.v (GSG.as (GSG.of q (g_move q q q q)) (congrArg (fun b => TV.pv (PV.b b)) hb11)) ((Pre.v (GSG.on q q q (g_move q q q q)) ((Pre.v (GSG.on q q q (g_move q q q q)) ((Pre.v (GSG.on q q q (g_idxI (l := v118.1) (enc := cBounds) e119 q q q q q el_63 q)) ((Pre.v (GSG.on q q q (g_fldR q q q q fl_71_1 q)) ((Pre.v (GSG.on q q q (g_fldR q q q q fl_57_0 q)) ((Pre.v (GSG.on q q q (g_loadR1 q q q q q ag_3)) ((Pre.v (GSG.on q q q (g_fld q q q q fl_67_3)) ((Pre.v (GSG.on q q q (g_load1 q q q q q q ag_3)) (Pre.nil _)))))))))))))))))))))))))))))))))))))) (by kernel_rfl)<|on q q q<|ov (g_geq q q q q q) q<|vf q q q q q q<|on0<|Sq.n<|⟨(decide (v111.least ≤ v119.thick.low)), h, has_mk ⟨q, trivial⟩ trivial trivial q⟩
           ·rintro v120 h
            change s_21_j12 n v120 = some r at h
            unfold s_21_j12 at h
            change W _ _ (Ev [(232, .pv (.b v120))]) _
            refine W.cond (b := v120) q (fun hc => ?_) (fun hc => ?_)
            ·have h := bif_t h hc
             refine W.seq<|W.region<|va q q q q q<|on0<|Sq.n<|W.ret<|Sq.r ?_
             obtain rfl := Option.some.inj h
             exact Fin.r q (.cons (.tmp _ _ q) .nil) q
            ·have h := bif_f h hc
             refine W.skip<|Sq.n<|W.seq<|W.region ?_
             obtain ⟨v121, e121, h⟩ := bind_some h
             refine ov (g_call q q q ca_24 q (c_24 _  e121)) q<|va q q q q q<|on0<|Sq.n<|W.ret ?_
             obtain rfl := Option.some.inj h
             exact Fin.r q (.cons (.tmp _ _ q) .nil) q
          ·have h := bif_f h hc
           refine W.skip<|Sq.n<|W.seq<|W.region ?_
           obtain ⟨v122, e122, h⟩ := bind_some h
           refine ov (g_call q q q ca_24 q (c_24 _  e122)) q<|va q q q q q<|on0<|Sq.n<|W.ret ?_
           obtain rfl := Option.some.inj h
           exact Fin.r q (.cons (.tmp _ _ q) .nil) q
end Go.Proofs.YtohmhlkdgfcaeaaGreatDoor
namespace Go.Proofs.YtohmhlkdgfcaeaaGreatDoor
open Go Go.RowKit
theorem firstH_none (p : Nat → Bool) : ∀ (r m : Nat), firstH p r m < 0 → ∀ i, m ≤ i → i < m + r → p i = false := by
 intro r
 induction r with
 | zero => intro m _ i h1 h2; omega
 | succ r ih =>
  intro m h i h1 h2
  rcases Bool.eq_false_or_eq_true (p m) with hp | hp
  ·rw [firstH, hp, cond_true] at h; omega
  ·rw [firstH, hp, cond_false] at h
   by_cases e : i = m
   ·subst e; exact hp
   ·exact ih (m + 1) h i (by omega) (by omega)
theorem firstH_before (p : Nat → Bool) : ∀ (r m : Nat), 0 ≤ firstH p r m → ∀ i, m ≤ i → (i : Int) < firstH p r m → p i = false := by
 intro r
 induction r with
 | zero => intro m h; simp [firstH] at h
 | succ r ih =>
  intro m h i h1 h2
  rcases Bool.eq_false_or_eq_true (p m) with hp | hp
  ·rw [firstH, hp, cond_true] at h2; omega
  ·rw [firstH, hp, cond_false] at h h2
   by_cases e : i = m
   ·subst e; exact hp
   ·exact ih (m + 1) h i (by omega) h2
theorem lastH_none (p : Nat → Bool) : ∀ (m : Nat), lastH p m < 0 → ∀ i, i < m → p i = false := by
 intro m
 induction m with
 | zero => intro _ i h; omega
 | succ m ih =>
  intro h i hi
  rcases Bool.eq_false_or_eq_true (p m) with hp | hp
  ·rw [lastH, hp, cond_true] at h; omega
  ·rw [lastH, hp, cond_false] at h
   by_cases e : i = m
   ·subst e; exact hp
   ·exact ih h i (by omega)
theorem lastH_spec (p : Nat → Bool) : ∀ (m : Nat), 0 ≤ lastH p m → p (lastH p m).toNat = true ∧ (lastH p m).toNat < m ∧ ∀ i : Nat, lastH p m < (i : Int) → i < m → p i = false := by
 intro m
 induction m with
 | zero => intro h; simp [lastH] at h
 | succ m ih =>
  intro h
  rcases Bool.eq_false_or_eq_true (p m) with hp | hp
  ·have e : lastH p (m + 1) = (m : Int) := by rw [lastH, hp, cond_true]
   rw [e]
   exact ⟨by simpa using hp, by simp, fun i h1 h2 => by omega⟩
  ·have e : lastH p (m + 1) = lastH p m := by rw [lastH, hp, cond_false]
   rw [e] at h ⊢
   obtain ⟨q1, q2, q3⟩ := ih h
   refine ⟨q1, by omega, fun i h1 h2 => ?_⟩
   by_cases e : i = m
   ·subst e; exact hp
   ·exact q3 i h1 (by omega)
section
variable {n : Nat} {d : Drum} {tr : Truth} {b : Batch}
def leB (x y : Bounds) : Prop := (x.rough.low ≤ y.rough.low ∧ x.rough.high ≤ y.rough.high) ∧ x.thick.low ≤ y.thick.low ∧ x.thick.high ≤ y.thick.high
theorem leB_upd {x y x' y' : Bounds} (h : leB x y) (h' : leB x' y') : leB (updB x x') (updB y y') := by
 unfold leB updB at *
 simp only
 omega
theorem leB_fold {t t' : Nat} : ∀ (l : List Nat) (x y : Bounds), leB x y → (∀ i ∈ l, leB (bOf d b t' i) (bOf d b t i)) → leB (l.foldl (fun s i => updB s (bOf d b t' i)) x) (l.foldl (fun s i => updB s (bOf d b t i)) y) := by
 intro l
 induction l with
 | nil => intro x y h _; exact h
 | cons j r ih =>
  intro x y h hl
  rw [List.foldl_cons, List.foldl_cons]
  exact ih _ _ (leB_upd h (hl j List.mem_cons_self)) (fun i hi => hl i (List.mem_cons_of_mem _ hi))
theorem bOf_step (hd : d.ok) (hb : b.ok) {i t : Nat} (hi : i ∈ idx d) (ht : t < hrs d) : leB (bOf d b (t + 1) i) (bOf d b t i) := by
 have h1 := bdAt_pos hd hi ht
 have h2 := state_step hb (g := fun h => (bdAt d i h).low) (t := t) (by omega)
 have h3 := state_step hb (g := fun h => (bdAt d i h).high) (t := t) (by omega)
 unfold leB bOf loS hiS
 simp only
 omega
theorem bnds_step (hd : d.ok) (hb : b.ok) (hne : idx d ≠ []) {t : Nat} (ht : t < hrs d) : leB (bnds d b (t + 1)) (bnds d b t) := by
 unfold bnds
 obtain ⟨i0, r0, hi0⟩ : ∃ i r, idx d = i :: r := by
  cases h : idx d with
  | nil => exact absurd h hne
  | cons i r => exact ⟨i, r, rfl⟩
 refine leB_fold _ _ _ ?_ (fun i hi => bOf_step hd hb hi ht)
 rw [hi0]
 exact bOf_step hd hb (by rw [hi0]; exact List.mem_cons_self) ht
theorem bnds_mono (hd : d.ok) (hb : b.ok) (hne : idx d ≠ []) {t : Nat} : ∀ (k : Nat), t + k ≤ hrs d → leB (bnds d b (t + k)) (bnds d b t) := by
 intro k
 induction k with
 | zero => intro _; unfold leB; simp
 | succ k ih =>
  intro h
  have h1 := ih (by omega)
  have h2 := bnds_step hd hb hne (t := t + k) (by omega)
  unfold leB at *
  rw [show t + (k + 1) = t + k + 1 by omega]
  omega
theorem p_78 (hn : 100 ≤ n) (hs : Short d) (hok : okD d = true) (hsz : sizedB d tr = true) (hf : fitB d tr = true) {j : Nat} (hj : d.batches[j]? = some b) {t : Nat} (ht : t ≤ hrs d) : s_78 n d tr (j : Int) (t : Int) = some (stateAt b (stren tr) t, true) := by
 have hd := okD_iff.1 hok
 have hH := hrs_eq hd
 have hr : runOk d tr (t : Int) = true := by
  unfold runOk
  rw [hok, hsz, hf]
  exact (inb_iff (v := (t : Int)) (a := 0) (b := d.hours)).2 (by omega)
 unfold s_78 s_78_j1
 rw [p_47 hn hs, Option.bind_some, hr]
 have hl : (runL d tr ((t : Int)).toNat).length = d.batches.length := by simp [runL]
 have g : ix (runL d tr ((t : Int)).toNat) (j : Int) = some (stateAt b (stren tr) t) := ix_at (by unfold runL; rw [List.getElem?_map, hj]; rfl)
 simp only [cond_true, decide_true, Bool.not_true, cond_false, hl, g, Option.bind_some]
theorem law_21 (d : Drum) (tr : Truth) (j t : Int) : s_21 1000 d tr j t = some true := by
 unfold s_21
 rw [p_23, Option.bind_some]
 have out : s_21_j1 1000 d tr j t true = some true := by unfold s_21_j1; rw [cond_true, p_24, Option.bind_some]
 have hn : 100 ≤ 1000 := by omega
 cases hsh : shortB d with
 | false => simp only [Bool.not_false, cond_true]; exact out
 | true =>
  have hs := shortB_iff.1 hsh
  simp only [Bool.not_true, cond_false, p_39 hn hs, p_44, Option.bind_some]
  cases decide (15 < ((List.length tr.strength : Nat) : Int)) with
  | true => simp only [cond_true]; exact out
  | false =>
   cases hok : okD d with
   | false => simp only [Bool.not_false, cond_true, cond_false]; exact out
   | true =>
    have hd := okD_iff.1 hok
    have hH := hrs_eq hd
    have hhr := hrs_le hd
    cases hsz : sizedB d tr with
    | false => simp only [Bool.not_false, Bool.not_true, cond_true, cond_false]; exact out
    | true =>
     simp only [Bool.not_true, cond_false, p_45 hd hn hsz, Option.bind_some]
     cases hf : fitB d tr with
     | false => simp only [Bool.not_false, cond_true]; exact out
     | true =>
      simp only [Bool.not_true, cond_false]
      by_cases h0 : j < 0
      ·rw [decide_eq_true h0, cond_true]; exact out
      ·rw [decide_eq_false h0, cond_false]
       by_cases h1 : ((d.batches.length : Nat) : Int) ≤ j
       ·rw [decide_eq_true h1, cond_true]; exact out
       ·rw [decide_eq_false h1, cond_false]
        by_cases h2 : t < 0
        ·rw [decide_eq_true h2, cond_true]; exact out
        ·rw [decide_eq_false h2, cond_false]
         by_cases h3 : d.hours < t
         ·rw [decide_eq_true h3]; exact out
         ·rw [decide_eq_false h3]
          have hfb : fineB d j = true := by unfold fineB; rw [decide_eq_true (show 0 ≤ j by omega), decide_eq_true (show j < ((d.batches.length : Nat) : Int) by omega)]; rfl
          have hi := fit_idx hd hsz hf
          have he := idx_err hok hi
          have hne := (err_zero he).2.2
          obtain ⟨j', hj, hjb⟩ := batchAt_get hfb
          generalize hbb : batchAt d j = b at hjb
          have hb := hd.bt b (List.mem_of_getElem? hjb)
          obtain ⟨t', ht⟩ := Int.eq_ofNat_of_zero_le (show 0 ≤ t by omega)
          have ht' : t' ≤ hrs d := by omega
          have e31 : s_31 1000 d j = some (orNone (firstH (smP d b) (hrs d + 1) 0)) := by
           unfold s_31
           rw [p_91 hn hs j _ (firstH (smP d b) (hrs d + 1) 0) (fun _ => by rw [hbb]; exact p_92 hd hn hb hne), hfb, he]
           rfl
          have e32 : s_32 1000 d j = some (orNone (lastH (thP d b) (hrs d + 1))) := by
           unfold s_32
           rw [p_91 hn hs j _ (lastH (thP d b) (hrs d + 1)) (fun _ => by rw [hbb]; exact p_93 hd hn hb hne), hfb, he]
           rfl
          have e78 : s_78 1000 d tr j t = some (stateAt b (stren tr) t', true) := by
           rw [hj, ht]
           exact p_78 hn hs hok hsz hf hjb ht'
          have e48 : ∀ x : Nat, x ≤ hrs d → s_48 1000 d (x : Int) = some (bndL d x, 0) := by
           intro x hx
           have f1 : fineT d (x : Int) = true := inb_iff.2 (by omega)
           rw [p_48 hn hs, f1, he]
           rfl
          have gB : ∀ x : Nat, ix (bndL d x) j = some (bnds d b x) := fun x => by
           rw [hj]
           exact ix_at (by unfold bndL; rw [List.getElem?_map, hjb]; rfl)
          have lB : ∀ x : Nat, (bndL d x).length = d.batches.length := fun x => by simp [bndL]
          have gb : ix d.batches j = some b := by rw [hj]; exact ix_at hjb
          have hin := fit_inB hd hsz hf hb ht'
          have thin : ∀ w : Nat, w ≤ hrs d → thP d b w = false → s_21_j9 1000 d j b (w : Int) = some true := by
           intro w hw hp
           unfold s_21_j9
           rw [decide_eq_true (show (w : Int) ≤ d.hours by omega), cond_true, e48 w hw, Option.bind_some]
           simp only [decide_true, Bool.not_true, cond_false, lB, gB, Option.bind_some]
           unfold thP at hp
           rw [hp]
           unfold s_21_j12
           rw [cond_false, p_24, Option.bind_some]
          have thin2 : ∀ w : Int, (w = d.hours + 1 ∨ ∃ w' : Nat, w = (w' : Int) ∧ w' ≤ hrs d ∧ thP d b w' = false) → s_21_j9 1000 d j b w = some true := by
           intro w hw
           rcases hw with rfl | ⟨w', rfl, h5, h6⟩
           ·unfold s_21_j9
            rw [decide_eq_false (by omega), cond_false, p_24, Option.bind_some]
           ·exact thin w' h5 h6
          have smooth : ∀ (x w : Int), (x = -1 ∨ ∃ x' : Nat, x = (x' : Int) ∧ x' ≤ hrs d ∧ smP d b x' = false) → (w = d.hours + 1 ∨ ∃ w' : Nat, w = (w' : Int) ∧ w' ≤ hrs d ∧ thP d b w' = false) → s_21_j5 1000 d j b x w = some true := by
           intro x w hx hw
           have h9 := thin2 w hw
           unfold s_21_j5
           rcases hx with rfl | ⟨x', rfl, h5, h6⟩
           ·rw [decide_eq_false (by omega), cond_false]; exact h9
           ·rw [decide_eq_true (by omega), cond_true, e48 x' h5, Option.bind_some]
            simp only [decide_true, Bool.not_true, cond_false, lB, gB, Option.bind_some]
            unfold smP at h6
            rw [h6]
            unfold s_21_j8
            rw [cond_false]
            exact h9
          have third : ∀ v w : Int × Int, v = orNone (firstH (smP d b) (hrs d + 1) 0) → w = orNone (lastH (thP d b) (hrs d + 1)) → s_21_j3 1000 d j v w b false = some true := by
           intro v w hv hw
           have hw2 : ∃ w' : Int, (w' = d.hours + 1 ∨ ∃ w'' : Nat, w' = (w'' : Int) ∧ w'' ≤ hrs d ∧ thP d b w'' = false) ∧ ∀ x, s_21_j4 1000 d j w b x = s_21_j5 1000 d j b x w' := by
            unfold orNone at hw
            by_cases hl : lastH (thP d b) (hrs d + 1) < 0
            ·rw [decide_eq_true hl, cond_true] at hw
             refine ⟨0, .inr ⟨0, rfl, by omega, lastH_none _ _ hl 0 (by omega)⟩, fun x => ?_⟩
             unfold s_21_j4
             rw [hw]
             simp only [show decide ((5 : Int) = 0) = false from rfl, Bool.not_false, cond_true]
            ·rw [decide_eq_false hl, cond_false] at hw
             obtain ⟨q1, q2, q3⟩ := lastH_spec (thP d b) (hrs d + 1) (by omega)
             refine ⟨lastH (thP d b) (hrs d + 1) + 1, ?_, fun x => ?_⟩
             ·by_cases hh : lastH (thP d b) (hrs d + 1) = d.hours
              ·exact .inl (by omega)
              ·exact .inr ⟨(lastH (thP d b) (hrs d + 1)).toNat + 1, by omega, by omega, q3 _ (by omega) (by omega)⟩
             ·unfold s_21_j4
              rw [hw]
              simp only [decide_true, Bool.not_true, cond_false]
              rw [wr_of (by omega)]
           obtain ⟨w', hw3, hw4⟩ := hw2
           unfold s_21_j3
           rw [cond_false, hw4, hw4]
           unfold orNone at hv
           by_cases hl : firstH (smP d b) (hrs d + 1) 0 < 0
           ·rw [decide_eq_true hl, cond_true] at hv
            rw [hv]
            simp only [show decide ((5 : Int) = 0) = false from rfl, Bool.not_false, cond_true]
            exact smooth _ _ (.inr ⟨hrs d, hH, by omega, firstH_none _ _ _ hl _ (by omega) (by omega)⟩) hw3
           ·rw [decide_eq_false hl, cond_false] at hv
            rw [hv]
            simp only [decide_true, Bool.not_true, cond_false]
            obtain ⟨q1, q2, q3⟩ := firstH_spec (smP d b) (hrs d + 1) 0 (by omega)
            have hbef := firstH_before (smP d b) (hrs d + 1) 0 (by omega)
            rw [wr_of (by omega)]
            refine smooth _ _ ?_ hw3
            by_cases hz : firstH (smP d b) (hrs d + 1) 0 = 0
            ·exact .inl (by omega)
            ·exact .inr ⟨(firstH (smP d b) (hrs d + 1) 0).toNat - 1, by omega, by omega, hbef _ (by omega) (by omega)⟩
          have second : ∀ v w : Int × Int, v = orNone (firstH (smP d b) (hrs d + 1) 0) → w = orNone (lastH (thP d b) (hrs d + 1)) → s_21_j2 1000 d j t v w (stateAt b (stren tr) t', true) false = some true := by
           intro v w hv hw
           have h3 := third v w hv hw
           have hv2 : v.2 = 0 → v.1 ≤ t → decide (b.goal < (stateAt b (stren tr) t').rough) = false := by
            intro ha hb2
            unfold orNone at hv
            by_cases hl : firstH (smP d b) (hrs d + 1) 0 < 0
            ·rw [decide_eq_true hl, cond_true] at hv
             rw [hv] at ha
             cases ha
            ·rw [decide_eq_false hl, cond_false] at hv
             rw [hv] at hb2
             obtain ⟨q1, q2, q3⟩ := firstH_spec (smP d b) (hrs d + 1) 0 (by omega)
             generalize firstH (smP d b) (hrs d + 1) 0 = s at *
             simp only at hb2
             have hm := bnds_mono hd hb hne (t := s.toNat) (t' - s.toNat) (by omega)
             rw [show s.toNat + (t' - s.toNat) = t' by omega] at hm
             unfold smP at q1
             rw [decide_eq_true_eq] at q1
             unfold leB at hm
             unfold inB at hin
             exact decide_eq_false (by omega)
           have hw2 : w.2 = 0 → t ≤ w.1 → decide ((stateAt b (stren tr) t').thick < b.least) = false := by
            intro ha hb2
            unfold orNone at hw
            by_cases hl : lastH (thP d b) (hrs d + 1) < 0
            ·rw [decide_eq_true hl, cond_true] at hw
             rw [hw] at ha
             cases ha
            ·rw [decide_eq_false hl, cond_false] at hw
             rw [hw] at hb2
             obtain ⟨q1, q2, q3⟩ := lastH_spec (thP d b) (hrs d + 1) (by omega)
             generalize lastH (thP d b) (hrs d + 1) = s at *
             simp only at hb2
             have hm := bnds_mono hd hb hne (t := t') (s.toNat - t') (by omega)
             rw [show t' + (s.toNat - t') = s.toNat by omega] at hm
             unfold thP at q1
             rw [decide_eq_true_eq] at q1
             unfold leB at hm
             unfold inB at hin
             exact decide_eq_false (by omega)
           unfold s_21_j2
           rw [cond_false, gb, Option.bind_some]
           simp only
           have hthick : (bif (decide (w.2 = 0)) then (bif (decide (t ≤ w.1)) then s_21_j3 1000 d j v w b (decide ((stateAt b (stren tr) t').thick < b.least)) else s_21_j3 1000 d j v w b false) else s_21_j3 1000 d j v w b false) = some true := by
            by_cases ha : w.2 = 0
            ·rw [decide_eq_true ha, cond_true]
             by_cases hb2 : t ≤ w.1
             ·rw [decide_eq_true hb2, cond_true, hw2 ha hb2]; exact h3
             ·rw [decide_eq_false hb2, cond_false]; exact h3
            ·rw [decide_eq_false ha, cond_false]; exact h3
           by_cases ha : v.2 = 0
           ·rw [decide_eq_true ha, cond_true]
            by_cases hb2 : v.1 ≤ t
            ·rw [decide_eq_true hb2, cond_true, hv2 ha hb2, cond_false]; exact hthick
            ·rw [decide_eq_false hb2, cond_false]; exact hthick
           ·rw [decide_eq_false ha, cond_false]; exact hthick
          unfold s_21_j1
          simp only [cond_false, e31, e32, e78, Option.bind_some, Bool.not_true]
          have r1 : (orNone (firstH (smP d b) (hrs d + 1) 0) = (0, 5) ∨ (orNone (firstH (smP d b) (hrs d + 1) 0)).2 = 0) ∧ 0 ≤ (orNone (firstH (smP d b) (hrs d + 1) 0)).1 ∧ (orNone (firstH (smP d b) (hrs d + 1) 0)).1 ≤ d.hours := by
           unfold orNone
           by_cases hl : firstH (smP d b) (hrs d + 1) 0 < 0
           ·rw [decide_eq_true hl, cond_true]
            exact ⟨.inl rfl, by simp, by simp; omega⟩
           ·obtain ⟨q1, q2, q3⟩ := firstH_spec (smP d b) (hrs d + 1) 0 (by omega)
            rw [decide_eq_false hl, cond_false]
            exact ⟨.inr rfl, by simp only; omega, by simp only; omega⟩
          have r2 : (orNone (lastH (thP d b) (hrs d + 1)) = (0, 5) ∨ (orNone (lastH (thP d b) (hrs d + 1))).2 = 0) ∧ 0 ≤ (orNone (lastH (thP d b) (hrs d + 1))).1 ∧ (orNone (lastH (thP d b) (hrs d + 1))).1 ≤ d.hours := by
           unfold orNone
           by_cases hl : lastH (thP d b) (hrs d + 1) < 0
           ·rw [decide_eq_true hl, cond_true]
            exact ⟨.inl rfl, by simp, by simp; omega⟩
           ·obtain ⟨q1, q2, q3⟩ := lastH_spec (thP d b) (hrs d + 1) (by omega)
            rw [decide_eq_false hl, cond_false]
            exact ⟨.inr rfl, by simp only; omega, by simp only; omega⟩
          have h2 := second _ _ rfl rfl
          generalize orNone (firstH (smP d b) (hrs d + 1) 0) = v at r1 h2 ⊢
          generalize orNone (lastH (thP d b) (hrs d + 1)) = w at r2 h2 ⊢
          obtain ⟨a1, a2, a3⟩ := r1
          obtain ⟨b1, b2, b3⟩ := r2
          rw [decide_eq_false (show ¬ v.1 < 0 by omega), decide_eq_false (show ¬ d.hours < v.1 by omega), decide_eq_false (show ¬ w.1 < 0 by omega), decide_eq_false (show ¬ d.hours < w.1 by omega)]
          simp only [cond_false]
          rcases a1 with rfl | a1 <;> rcases b1 with rfl | b1
          ·simp only [show decide ((5 : Int) = 0) = false from rfl, decide_true, Bool.not_true, Bool.not_false, cond_true, cond_false]; exact h2
          ·simp only [show decide ((5 : Int) = 0) = false from rfl, decide_true, Bool.not_true, Bool.not_false, cond_true, cond_false, b1]; exact h2
          ·simp only [show decide ((5 : Int) = 0) = false from rfl, decide_true, Bool.not_true, Bool.not_false, cond_true, cond_false, a1]; exact h2
          ·simp only [show decide ((5 : Int) = 0) = false from rfl, decide_true, Bool.not_true, Bool.not_false, cond_true, cond_false, a1, b1]; exact h2
end
end Go.Proofs.YtohmhlkdgfcaeaaGreatDoor
namespace Go.Proofs.YtohmhlkdgfcaeaaGreatDoor
open Go Go.RowKit
section
variable {α : Type} (lt : α → α → Bool)
def least : α → List α → α
 | x, [] => x
 | x, y :: r => least (bif lt y x then y else x) r
end
end Go.Proofs.YtohmhlkdgfcaeaaGreatDoor
namespace Go.Proofs.YtohmhlkdgfcaeaaGreatDoor
open Go Go.RowKit
def rn : Int → List Int → Int
 | c, [] => c
 | c, x :: r => rn (max c (x + 1)) r
def rgB : Int → List Int → Bool
 | _, [] => true
 | c, x :: r => decide (x ≤ c) && rgB (max c (x + 1)) r
theorem rgB_app : ∀ (l : List Int) (c x : Int), rgB c (l ++ [x]) = (rgB c l && decide (x ≤ rn c l)) := by
 intro l
 induction l with
 | nil =>
  intro c x
  show (decide (x ≤ c) && true) = (true && decide (x ≤ c))
  rw [Bool.and_true, Bool.true_and]
 | cons y r ih => intro c x; rw [List.cons_append, rgB, ih, rgB, rn, Bool.and_assoc]
end Go.Proofs.YtohmhlkdgfcaeaaGreatDoor
namespace Go.Proofs.YtohmhlkdgfcaeaaGreatDoor
open Go Go.RowKit
structure Way (l : List Int) : Prop where
 rg : rgB 0 l = true
 nn : ∀ x ∈ l, 0 ≤ x
theorem Way.nil : Way [] := ⟨rfl, by simp⟩
theorem Way.step {l : List Int} (h : Way l) {x : Nat} (hx : (x : Int) ≤ rn 0 l) : Way (l ++ [(x : Int)]) :=
 ⟨by rw [rgB_app, h.rg, decide_eq_true hx]; rfl, fun y hy => by
  rcases List.mem_append.1 hy with hy | hy
  ·exact h.nn y hy
  ·obtain rfl := List.mem_singleton.1 hy; omega⟩
end Go.Proofs.YtohmhlkdgfcaeaaGreatDoor
namespace Go.Proofs.YtohmhlkdgfcaeaaGreatDoor
open Go Go.RowKit Go.ChangeShapes Go.WideShapes
set_option maxRecDepth 100000
theorem drumSure_lifted (os : Os) (started : os.Started) (H : Type) (enc : TypeId × Value → H) :
  ReturnsInHanded {} Tryz.checked os 21 .any (fun w args => (Rows.drumSureSpec.pre enc Tryz.prog Tryz.f21 [] false w args ∧ laidMetH Tryz.prog Rows.drumSureRow.laid w) ∧ sizedMet enc Tryz.prog Tryz.f21 (OpenSpec.ofChange Rows.drumSureSpec) false w args)
   (Rows.drumSureSpec.post enc Tryz.prog Tryz.f21 false true false false) :=
 law_row (s := Rows.drumSureSpec) (enc := enc) started #[.agg #[.slice none 0 0, .int .i64 0, .int .i64 0, .slice none 0 0, .slice none 0 0, .slice none 0 0], .agg #[.int .i64 0, .slice none 0 0], .int .i64 0, .int .i64 0] (by kernel_rfl) Tryz.func21 (by kernel_rfl) (by kernel_rfl) (by kernel_rfl) rfl
   (by
    rw [Tryz.params21]
    have h : ∀ t ∈ ([27, 54, 3, 3] : List Nat), t ∈ [3, 9, 23, 27, 54, 92] := by decide
    exact fun t ht => parT t (h t ht)) rfl
   (by
    rw [Tryz.params21]
    intro ds h
    match ds, h with
    | [d0, d1, d2, d3], _ => rfl)
   (by
    rw [Tryz.params21]
    intro W base args ds p hval hA
    obtain ⟨args⟩ := args
    obtain ⟨v0, vs0, d0, ds0, p0, q0, e0, rfl, rfl, h0, r0⟩ := trodAll_cons hA
    have e0 : args = _ := e0; subst e0
    obtain ⟨v1, vs1, d1, ds1, p1, q1, e1, rfl, rfl, h1, r1⟩ := trodAll_cons r0
    subst e1
    obtain ⟨v2, vs2, d2, ds2, p2, q2, e2, rfl, rfl, h2, r2⟩ := trodAll_cons r1
    subst e2
    obtain ⟨v3, vs3, d3, ds3, p3, q3, e3, rfl, rfl, h3, r3⟩ := trodAll_cons r2
    subst e3
    obtain ⟨rfl, rfl, rfl⟩ := trodAll_nil r3
    obtain ⟨x0, z0⟩ := rd_drum (hval 0 27 v0 rfl rfl) h0
    obtain ⟨x1, z1⟩ := rd_truth (hval 1 54 v1 rfl rfl) h1
    obtain ⟨x2, z2⟩ := rd_int (hval 2 3 v2 rfl rfl)
    obtain ⟨x3, z3⟩ := rd_int (hval 3 3 v3 rfl rfl)
    refine ⟨rfl, [.agg (cDrum x0), .agg (cTruth x1), .i x2, .i x3], ⟨rfl, ?_⟩, c_21 1000 x0 x1 x2 x3 (law_21 x0 x1 x2 x3)⟩
    intro j c u hc hu
    match j, hc, hu with
    | 0, hc, hu => cases hc; cases hu; exact z0
    | 1, hc, hu => cases hc; cases hu; exact z1
    | 2, hc, hu => cases hc; cases hu; exact z2
    | 3, hc, hu => cases hc; cases hu; exact z3)
theorem drumSure_facts : factsA Tryz.prog Tryz.f21 Rows.drumSureSpec Rows.drumSureRow = true := by kernel_rfl
theorem drumSure_road0 : (Rows.drumSureRow.inPlace == Tryz.prog.inPlace 21) = true := by kernel_rfl
theorem drumSure_road1 : (Rows.drumSureRow.unfollowed == Tryz.prog.unfollowed 21) = true := by kernel_rfl
theorem drumSure_road2 : (Rows.drumSureRow.recurses == Tryz.prog.recurses 21) = true := by kernel_rfl
theorem drumSure_road3 : (Rows.drumSureRow.named == Tryz.prog.varsNamed 21) = true := by kernel_rfl
theorem drumSure_row : Rows.DrumSureSaid :=
 OpenClaim.holds_of_wide 21 Tryz.f21 rfl rfl rfl rfl rfl rfl rfl ⟨rfl, rfl, rfl, rfl, rfl⟩ rfl rfl rfl rfl rfl (by as_aux_lemma => kernel_rfl) Tryz.func21 (joined_of drumSure_facts drumSure_road0 drumSure_road1 drumSure_road2 drumSure_road3)
  (of_decide_eq_true (by as_aux_lemma => kernel_rfl)) (by unfold Func.isWrapper; rw [if_neg (of_decide_eq_false (by as_aux_lemma => kernel_rfl))]; exact ⟨rfl, rfl⟩)
  (fun os started H enc _ => drumSure_lifted os started H enc)
theorem drumSure_card : Rows.DrumSureCardSaid :=
 Claim7.holds_tied_plain_at .later [] [.data, .data, .data, .data, .pinned] true (true, "263524fd91af563947b647e8709e73ef988cdef21cccd4074f632dc410392126") true drumSure_row (fun _ h => by cases h) (by as_aux_lemma => kernel_rfl) (fun _ h => by cases h) drumSure_row_tie rfl ⟨rfl, rfl⟩ mainK rfl
  (fun f fn hf hfn => by
   obtain rfl : f = 21 := Option.some.inj ((show Tryz.prog.funcNamed "nacre/nacrelaw03.DrumSure" = some 21 by as_aux_lemma => kernel_rfl).symm.trans hf) |>.symm
   obtain rfl : fn = Tryz.f21 := (Option.some.inj (Tryz.func21.symm.trans hfn)).symm
   exact ⟨looksK, fun j t ht => by
    rw [Tryz.params21] at ht
    have hm : t ∈ [27, 54, 3, 3] := by simpa using Array.mem_of_getElem? ht
    have h : ∀ t ∈ ([27, 54, 3, 3] : List Nat), t ∈ [3, 9, 23, 27, 54, 92] := by decide
    exact standK t (h t hm)⟩)
  (by as_aux_lemma => kernel_rfl)
#print axioms drumSure_card
end Go.Proofs.YtohmhlkdgfcaeaaGreatDoor
