/- DrumTrue: whatever is true of a drum, its acid is one of those that are possible, and the strength of each hour lies within its bounds; the least and the greatest strengths are truths. For every input that can be read as data, the tables of Go's library being as their text lays them: the call returns true, and each argument reads behind it as before. -/
import Derived.Test.YtohmhlkdgfcaeaaGreatDoorTie
import Derived.Test.YtohmhlkdgfcaeaaGreatDoorCards
import Derived.Test.YtohmhlkdgfcaeaaGreatDoorX17a
set_option linter.unusedVariables false
set_option linter.unusedSimpArgs false
namespace Go.Proofs.YtohmhlkdgfcaeaaGreatDoor
open Go Go.RowKit
set_option maxRecDepth 4000
attribute [local irreducible] W Ops GS GSG
def s_17_j14 (K5 : Int → Option (Bool)) (v121 : Int) (v133 : Bool) : Option (Bool) := bif v133 then ( some (false) ) else ( K5 (wr (v121 + 1)) )
def s_17_j16 (n : Nat) (v0 : Drum) (v2 : Int) (v135 : ((List Span) × Int)) (v144 : Bool) : Option (Bool) := bif v144 then ( some (false) ) else ( (s_73 n v135.1 false).bind fun v145 => (s_68 n v0 (Truth.mk v2 v145)).bind fun v146 => (s_73 n v135.1 true).bind fun v147 => (s_68 n v0 (Truth.mk v2 v147)).bind fun v148 => bif (decide (v146.2 = 0)) then ( bif (decide (v148.2 = 0)) then (
 bif v146.1 then ( bif v148.1 then ( (s_24 n ).bind fun v149 => some (v149) ) else ( some (false) ) ) else ( some (false) ) ) else ( some (false) ) ) else ( some (false) ) )
def s_17_j15 (n : Nat) (v0 : Drum) (v2 : Int) (v107 : ((List Int) × Int)) (v135 : ((List Span) × Int)) (v138 : Bool) : Option (Bool) := bif v138 then ( (s_71 n v107.1 v2).bind fun v139 => bif (!v139) then ( bif (!decide (v135.2 = 0)) then ( (s_24 n ).bind fun v140 => some (v140) ) else ( (s_72 n v0.known v2).bind fun v141 => bif (!v141) then ( (s_24 n ).bind fun v142 => some (v142) ) else (
 some (false) ) ) ) else ( some (false) ) ) else ( bif (!decide (v135.2 = 0)) then ( s_17_j16 n v0 v2 v135 true ) else ( (s_70 n v0 v135.1).bind fun v143 => s_17_j16 n v0 v2 v135 (!v143) ) )
def s_17_j12 (n : Nat) (K5 : Int → Option (Bool)) (v0 : Drum) (v1 : Truth) (v2 : Int) (v107 : ((List Int) × Int)) (v108 : ((List Span) × Int)) (v121 : Int) (v128 : Bool) : Option (Bool) := bif v128 then ( (ix v1.strength v121).bind fun v129 => (ix v108.1 v121).bind fun v130 => bif (decide (v129 < v130.low)) then ( s_17_j14 K5 v121 true ) else ( (ix v1.strength v121).bind fun v131 =>
 (ix v108.1 v121).bind fun v132 => s_17_j14 K5 v121 (decide (v132.high < v131)) ) ) else ( (shl .i64 1 (IntKind.u64.wrap v2)).bind fun v134 => (s_25 n (Drum.mk v0.acids v134 v0.hours v0.adds v0.strips v0.batches)).bind fun v135 => (s_71 n v107.1 v2).bind fun v136 => bif (!v136) then ( s_17_j15 n v0 v2 v107 v135 true ) else ( (s_72 n v0.known v2).bind fun v137 => s_17_j15 n v0 v2 v107 v135 (!v137)
 ) )
def s_17_l5 (n : Nat) (v0 : Drum) (v1 : Truth) (v2 : Int) (v106 : (Bool × Int)) (v107 : ((List Int) × Int)) (v108 : ((List Span) × Int)) : Nat → Int → Option (Bool)
| 0, _ => none
| k5 + 1, v121 => bif (decide (v121 < (v108.1.length : Int))) then ( s_17_j12 n (s_17_l5 n v0 v1 v2 v106 v107 v108 k5) v0 v1 v2 v107 v108 v121 v106.1 ) else ( s_17_j12 n (s_17_l5 n v0 v1 v2 v106 v107 v108 k5) v0 v1 v2 v107 v108 v121 false )
def s_17_j4 (n : Nat) (v0 : Drum) (v1 : Truth) (v2 : Int) (v106 : (Bool × Int)) (v107 : ((List Int) × Int)) (v108 : ((List Span) × Int)) (v114 : Bool) : Option (Bool) := bif v114 then ( some (false) ) else ( s_17_l5 n v0 v1 v2 v106 v107 v108 n 0 )
def s_17_j3 (n : Nat) (v0 : Drum) (v1 : Truth) (v2 : Int) (v106 : (Bool × Int)) (v107 : ((List Int) × Int)) (v108 : ((List Span) × Int)) (v112 : Bool) : Option (Bool) := bif v112 then ( some (false) ) else ( bif v106.1 then ( (s_71 n v107.1 v1.acid).bind fun v113 => s_17_j4 n v0 v1 v2 v106 v107 v108 (!v113) ) else ( s_17_j4 n v0 v1 v2 v106 v107 v108 false ) )
def s_17_j2 (n : Nat) (v0 : Drum) (v1 : Truth) (v2 : Int) (v106 : (Bool × Int)) (v107 : ((List Int) × Int)) (v108 : ((List Span) × Int)) (v109 : Bool) : Option (Bool) := bif v109 then ( some (false) ) else ( bif (!decide (v107.2 = 0)) then ( (s_24 n ).bind fun v110 => some (v110) ) else ( bif (decide ((v0.acids.length : Int) < (v107.1.length : Int))) then (
 s_17_j3 n v0 v1 v2 v106 v107 v108 true ) else ( (s_70 n v0 v108.1).bind fun v111 => s_17_j3 n v0 v1 v2 v106 v107 v108 (!v111) ) ) )
def s_17_j1 (n : Nat) (v0 : Drum) (v1 : Truth) (v2 : Int) (v104 : Bool) : Option (Bool) := bif v104 then ( (s_24 n ).bind fun v105 => some (v105) ) else ( (s_68 n v0 v1).bind fun v106 => (s_69 n v0).bind fun v107 => (s_25 n v0).bind fun v108 => bif (!decide (v106.2 = 0)) then ( s_17_j2 n v0 v1 v2 v106 v107 v108 true ) else ( bif (!decide (v107.2 = v108.2)) then (
 s_17_j2 n v0 v1 v2 v106 v107 v108 true ) else ( bif (!decide (v107.2 = 0)) then ( bif (!decide (v107.2 = 7)) then ( s_17_j2 n v0 v1 v2 v106 v107 v108 true ) else ( s_17_j2 n v0 v1 v2 v106 v107 v108 v106.1 ) ) else ( s_17_j2 n v0 v1 v2 v106 v107 v108 false ) ) ) )
def s_17 (n : Nat) (v0 : Drum) (v1 : Truth) (v2 : Int) : Option (Bool) := (s_23 n v0).bind fun v101 => bif (!v101) then ( s_17_j1 n v0 v1 v2 true ) else ( bif (decide (15 < (v1.strength.length : Int))) then ( s_17_j1 n v0 v1 v2 true ) else ( (s_39 n v0).bind fun v102 => bif (!v102) then ( s_17_j1 n v0 v1 v2 true ) else ( (s_44 n v0 v1).bind fun v103 => bif (!v103) then (
 s_17_j1 n v0 v1 v2 true ) else ( bif (decide (v2 < 0)) then ( s_17_j1 n v0 v1 v2 true ) else ( s_17_j1 n v0 v1 v2 (decide ((v0.acids.length : Int) ≤ v2)) ) ) ) ) )
theorem c_17 (n : Nat) (v0 : Drum) (v1 : Truth) (v2 : Int) {r : (Bool)} (h : s_17 n v0 v1 v2 = some r) :
  Fun Tryz.prog 17 [.agg (cDrum v0), .agg (cTruth v1), .val (.int .i64 v2)] (.ret (.b r)) := by
 unfold s_17 at h
 refine enterW 223 Tryz.func17 q q q ?_
 intro w0 F0
 change W _ _ (Ev [(0, .pv (.agg (cDrum v0))), (1, .pv (.agg (cTruth v1))), (2, .pv (.i v2))]) _
 refine W.seq<|W.region<|ob (g_box q q q q q) q q<|ob (g_box q q q q q) q q<|va q q q q q<|on0<|Sq.n<|W.seq<|W.seqJ (σ := Bool) (fun s => (⟨[(2, .pv (.i v2)), (3, .box 3 0), (4, .box 4 0), (51, .pv (.b s))], [(3, 27, [.pv (.sl (List.map cAcid v0.acids)), .pv (.i v0.known), .pv (.i v0.hours), .pv (.sl (List.map eI v0.adds)), .pv (.sl (List.map cStrip v0.strips)), .pv (.sl (List.map cBatch v0.batches))]), (4, 54, [.pv (.i v1.acid), .pv (.sl (List.map eI v1.strength))])], []⟩ : Env)) (fun s => s_17_j1 n v0 v1 v2 s = some r) ?_ ?_
 ·refine W.region<|ov (g_loadA q q q q q ag_27 sz_27 q q) q ?_
  obtain ⟨v101, e101, h⟩ := bind_some h
  refine ov (g_call q q q ca_23 q (c_23 _ _ e101)) q<|ov (g_not q q q q) q<|vm q q q q q<|Ops.split 24 q (fun hb => ?_) (fun hb => ?_)
  ·have h := bif_t h hb
   refine o2 q q q q q q<|o2 q q q q q q<|o2 q q q q q q<|o2 q q q q q q<|vt q q q q q q<|vm q q q q q<|o2 q q q q q q<|o2 q q q q q q<|o2 q q q q q q<|vt q q q q q q<|vm q q q q q<|o2 q q q q q q<|o2 q q q q q q<|o2 q q q q q q<|o2 q q q q q q<|vt q q q q q q<|vm q q q q q<|o2 q q q q q q<|o2 q q q q q q<|vt q q q q q q<|vm q q q q q<|o2 q q q q q q<|o2 q q q q q q<|o2 q q q q q q<|o2 q q q q q q<|o2 q q q q q q<|vt q q q q q q<|on0<|Sq.n<|⟨true, h, has_mk ⟨q, q, q, q, trivial⟩ ⟨q, q, trivial⟩ trivial q⟩
  ·have h := bif_f h hb
   refine on q q q<|ov (g_fld q q q q fl_54_1) q<|on q q q<|ov (g_load1 q q q q q q ag_23) q<|on q q q<|ov (g_lenM (l := v1.strength) (enc := eI) q ul_23 q q q) q<|on q q q<|ov (g_gtr q q q q q) q<|vf q q q q q q<|vm q q q q q<|Ops.split 30 q (fun hb => ?_) (fun hb => ?_)
   ·have h := bif_t h hb
    refine o2 q q q q q q<|o2 q q q q q q<|o2 q q q q q q<|vt q q q q q q<|vm q q q q q<|o2 q q q q q q<|o2 q q q q q q<|o2 q q q q q q<|o2 q q q q q q<|vt q q q q q q<|vm q q q q q<|o2 q q q q q q<|o2 q q q q q q<|vt q q q q q q<|vm q q q q q<|o2 q q q q q q<|o2 q q q q q q<|o2 q q q q q q<|o2 q q q q q q<|o2 q q q q q q<|vt q q q q q q<|on0<|Sq.n<|⟨true, h, has_mk ⟨q, q, q, q, trivial⟩ ⟨q, q, trivial⟩ trivial q⟩
   ·have h := bif_f h hb
    refine on q q q<|ov (g_loadA q q q q q ag_27 sz_27 q q) q<|on q q q ?_
    obtain ⟨v102, e102, h⟩ := bind_some h
    refine ov (g_call q q q ca_39 q (c_39 _ _ e102)) q<|on q q q<|ov (g_not q q q q) q<|vf q q q q q q<|vm q q q q q<|Ops.split 35 q (fun hb => ?_) (fun hb => ?_)
    ·have h := bif_t h hb
     refine o2 q q q q q q<|o2 q q q q q q<|o2 q q q q q q<|o2 q q q q q q<|vt q q q q q q<|vm q q q q q<|o2 q q q q q q<|o2 q q q q q q<|vt q q q q q q<|vm q q q q q<|o2 q q q q q q<|o2 q q q q q q<|o2 q q q q q q<|o2 q q q q q q<|o2 q q q q q q<|vt q q q q q q<|on0<|Sq.n<|⟨true, h, has_mk ⟨q, q, q, q, trivial⟩ ⟨q, q, trivial⟩ trivial q⟩
    ·have h := bif_f h hb
     refine on q q q<|ov (g_loadA q q q q q ag_27 sz_27 q q) q<|on q q q<|ov (g_loadA q q q q q ag_54 sz_54 q q) q<|on q q q ?_
     obtain ⟨v103, e103, h⟩ := bind_some h
     refine ov (g_call q q q ca_44 q (c_44 _ _ _ e103)) q<|on q q q<|ov (g_not q q q q) q<|vf q q q q q q<|vm q q q q q<|Ops.split 41 q (fun hb => ?_) (fun hb => ?_)
     ·have h := bif_t h hb
      refine o2 q q q q q q<|o2 q q q q q q<|vt q q q q q q<|vm q q q q q<|o2 q q q q q q<|o2 q q q q q q<|o2 q q q q q q<|o2 q q q q q q<|o2 q q q q q q<|vt q q q q q q<|on0<|Sq.n<|⟨true, h, has_mk ⟨q, q, q, q, trivial⟩ ⟨q, q, trivial⟩ trivial q⟩
     ·have h := bif_f h hb
      refine on q q q<|vm q q q q q<|on q q q<|ov (g_lss q q q q q) q<|vf q q q q q q<|vm q q q q q<|Ops.split 45 q (fun hb => ?_) (fun hb => ?_)
      ·have h := bif_t h hb
       refine o2 q q q q q q<|o2 q q q q q q<|o2 q q q q q q<|o2 q q q q q q<|o2 q q q q q q<|vt q q q q q q<|on0<|Sq.n<|⟨true, h, has_mk ⟨q, q, q, q, trivial⟩ ⟨q, q, trivial⟩ trivial q⟩
      ·have h := bif_f h hb
       refine on q q q<|vm q q q q q<|on q q q<|ov (g_fld q q q q fl_27_0) q<|on q q q<|ov (g_load1 q q q q q q ag_22) q<|on q q q<|ov (g_lenM (l := v0.acids) (enc := cAcid) q ul_22 q q q) q<|on q q q<|ov (g_geq q q q q q) q<|vf q q q q q q<|on0<|Sq.n<|⟨(decide ((v0.acids.length : Int) ≤ v2)), h, has_mk ⟨q, q, q, q, trivial⟩ ⟨q, q, trivial⟩ trivial q⟩
 ·rintro v104 h
  change s_17_j1 n v0 v1 v2 v104 = some r at h
  unfold s_17_j1 at h
  change W _ _ (⟨[(2, .pv (.i v2)), (3, .box 3 0), (4, .box 4 0), (51, .pv (.b v104))], [(3, 27, [.pv (.sl (List.map cAcid v0.acids)), .pv (.i v0.known), .pv (.i v0.hours), .pv (.sl (List.map eI v0.adds)), .pv (.sl (List.map cStrip v0.strips)), .pv (.sl (List.map cBatch v0.batches))]), (4, 54, [.pv (.i v1.acid), .pv (.sl (List.map eI v1.strength))])], []⟩ : Env) _
  refine W.cond (b := v104) q (fun hc => ?_) (fun hc => ?_)
  ·have h := bif_t h hc
   refine W.seq<|W.region ?_
   obtain ⟨v105, e105, h⟩ := bind_some h
   refine ov (g_call q q q ca_24 q (c_24 _  e105)) q<|va q q q q q<|on0<|Sq.n<|W.ret<|Sq.r ?_
   obtain rfl := Option.some.inj h
   exact Fin.r q (.cons (.tmp _ _ q) .nil) q
  ·have h := bif_f h hc
   refine W.skip<|Sq.n<|W.seq<|W.region<|ov (g_loadA q q q q q ag_27 sz_27 q q) q<|ov (g_loadA q q q q q ag_54 sz_54 q q) q ?_
   obtain ⟨v106, e106, h⟩ := bind_some h
   refine ov (g_call q q q ca_68 q (c_68 _ _ _ e106)) q<|vm q q q q q<|ov (g_extract q q q q q) q<|ov (g_extract q q q q q) q<|va q q q q q<|va q q q q q<|on0<|Sq.n<|W.seq<|W.region<|ov (g_loadA q q q q q ag_27 sz_27 q q) q ?_
   obtain ⟨v107, e107, h⟩ := bind_some h
   refine ov (g_call q q q ca_69 q (c_69 _ _ e107)) q<|vm q q q q q<|ov (g_extract q q q q q) q<|ov (g_extract q q q q q) q<|va q q q q q<|va q q q q q<|on0<|Sq.n<|W.seq<|W.region<|ov (g_loadA q q q q q ag_27 sz_27 q q) q ?_
   obtain ⟨v108, e108, h⟩ := bind_some h
   refine ov (g_call q q q ca_25 q (c_25 _ _ e108)) q<|vm q q q q q<|ov (g_extract q q q q q) q<|ov (g_extract q q q q q) q<|va q q q q q<|va q q q q q<|on0<|Sq.n<|W.seq<|W.seqJ (σ := Bool) (fun s => (⟨[(2, .pv (.i v2)), (3, .box 3 0), (4, .box 4 0), (7, .pv (.b v106.1)), (9, .pv (.sl (List.map eI v107.1))), (10, .pv (.i v107.2)), (11, .pv (.sl (List.map cSpan v108.1))), (86, .pv (.b s))], [(3, 27, [.pv (.sl (List.map cAcid v0.acids)), .pv (.i v0.known), .pv (.i v0.hours), .pv (.sl (List.map eI v0.adds)), .pv (.sl (List.map cStrip v0.strips)), .pv (.sl (List.map cBatch v0.batches))]), (4, 54, [.pv (.i v1.acid), .pv (.sl (List.map eI v1.strength))])], []⟩ : Env)) (fun s => s_17_j2 n v0 v1 v2 v106 v107 v108 s = some r) ?_ ?_
   ·refine W.region<|vm q q q q q<|ov (g_neq q q q q q) q<|vm q q q q q<|Ops.split 71 q (fun hb => ?_) (fun hb => ?_)
    ·have h := bif_t h hb
     refine o2 q q q q q q<|o2 q q q q q q<|o2 q q q q q q<|vt q q q q q q<|vm q q q q q<|o2 q q q q q q<|o2 q q q q q q<|o2 q q q q q q<|o2 q q q q q q<|o2 q q q q q q<|o2 q q q q q q<|o2 q q q q q q<|o2 q q q q q q<|o2 q q q q q q<|vt q q q q q q<|on0<|Sq.n<|⟨true, h, has_mk ⟨q, q, q, q, q, q, q, q, trivial⟩ ⟨q, q, trivial⟩ trivial q⟩
    ·have h := bif_f h hb
     refine on q q q<|vm q q q q q<|on q q q<|vm q q q q q<|on q q q<|ov (g_neq q q q q q) q<|vf q q q q q q<|vm q q q q q<|Ops.split 76 q (fun hb => ?_) (fun hb => ?_)
     ·have h := bif_t h hb
      refine o2 q q q q q q<|o2 q q q q q q<|o2 q q q q q q<|o2 q q q q q q<|o2 q q q q q q<|o2 q q q q q q<|o2 q q q q q q<|o2 q q q q q q<|o2 q q q q q q<|vt q q q q q q<|on0<|Sq.n<|⟨true, h, has_mk ⟨q, q, q, q, q, q, q, q, trivial⟩ ⟨q, q, trivial⟩ trivial q⟩
     ·have h := bif_f h hb
      refine on q q q<|vm q q q q q<|on q q q<|ov (g_neq q q q q q) q<|on q q q<|vm q q q q q<|Ops.split 79 q (fun hb => ?_) (fun hb => ?_)
      ·have h := bif_t h hb
       refine on q q q<|vm q q q q q<|on q q q<|ov (g_neq q q q q q) q<|on q q q<|vm q q q q q<|Ops.split 82 q (fun hb => ?_) (fun hb => ?_)
       ·have h := bif_t h hb
        refine o2 q q q q q q<|on q q q<|vt q q q q q q<|on q q q<|vt q q q q q q<|vf q q q q q q<|on0<|Sq.n<|⟨true, h, has_mk ⟨q, q, q, q, q, q, q, q, trivial⟩ ⟨q, q, trivial⟩ trivial q⟩
       ·have h := bif_f h hb
        refine on q q q<|vm q q q q q<|on q q q<|vf q q q q q q<|on q q q<|vt q q q q q q<|vf q q q q q q<|on0<|Sq.n<|⟨v106.1, h, has_mk ⟨q, q, q, q, q, q, q, q, trivial⟩ ⟨q, q, trivial⟩ trivial q⟩
      ·have h := bif_f h hb
       refine o2 q q q q q q<|o2 q q q q q q<|o2 q q q q q q<|o2 q q q q q q<|o2 q q q q q q<|on q q q<|vf q q q q q q<|vf q q q q q q<|on0<|Sq.n<|⟨false, h, has_mk ⟨q, q, q, q, q, q, q, q, trivial⟩ ⟨q, q, trivial⟩ trivial q⟩
   ·rintro v109 h
    change s_17_j2 n v0 v1 v2 v106 v107 v108 v109 = some r at h
    unfold s_17_j2 at h
    change W _ _ (⟨[(2, .pv (.i v2)), (3, .box 3 0), (4, .box 4 0), (7, .pv (.b v106.1)), (9, .pv (.sl (List.map eI v107.1))), (10, .pv (.i v107.2)), (11, .pv (.sl (List.map cSpan v108.1))), (86, .pv (.b v109))], [(3, 27, [.pv (.sl (List.map cAcid v0.acids)), .pv (.i v0.known), .pv (.i v0.hours), .pv (.sl (List.map eI v0.adds)), .pv (.sl (List.map cStrip v0.strips)), .pv (.sl (List.map cBatch v0.batches))]), (4, 54, [.pv (.i v1.acid), .pv (.sl (List.map eI v1.strength))])], []⟩ : Env) _
    refine W.cond (b := v109) q (fun hc => ?_) (fun hc => ?_)
    ·have h := bif_t h hc
     refine W.seq<|W.region<|va q q q q q<|on0<|Sq.n<|W.ret<|Sq.r ?_
     obtain rfl := Option.some.inj h
     exact Fin.r q (.cons (.tmp _ _ q) .nil) q
    ·have h := bif_f h hc
     refine W.skip<|Sq.n<|W.seq<|W.seq<|W.region<|vm q q q q q<|ov (g_neq q q q q q) q<|on0<|Sq.n<|W.cond (b := (!decide (v107.2 = 0))) q (fun hc => ?_) (fun hc => ?_)
     ·have h := bif_t h hc
      refine W.seq<|W.region ?_
      obtain ⟨v110, e110, h⟩ := bind_some h
      refine ov (g_call q q q ca_24 q (c_24 _  e110)) q<|va q q q q q<|on0<|Sq.n<|W.ret<|Sq.r ?_
      obtain rfl := Option.some.inj h
      exact Fin.r q (.cons (.tmp _ _ q) .nil) q
     ·have h := bif_f h hc
      refine W.skip<|Sq.n<|W.seq<|W.seqJ (σ := Bool) (fun s => (⟨[(2, .pv (.i v2)), (3, .box 3 0), (4, .box 4 0), (7, .pv (.b v106.1)), (9, .pv (.sl (List.map eI v107.1))), (11, .pv (.sl (List.map cSpan v108.1))), (101, .pv (.b s))], [(3, 27, [.pv (.sl (List.map cAcid v0.acids)), .pv (.i v0.known), .pv (.i v0.hours), .pv (.sl (List.map eI v0.adds)), .pv (.sl (List.map cStrip v0.strips)), .pv (.sl (List.map cBatch v0.batches))]), (4, 54, [.pv (.i v1.acid), .pv (.sl (List.map eI v1.strength))])], []⟩ : Env)) (fun s => s_17_j3 n v0 v1 v2 v106 v107 v108 s = some r) ?_ ?_
      ·refine W.region<|vm q q q q q<|ov (g_lenM (l := v107.1) (enc := eI) q ul_23 q q q) q<|ov (g_fld q q q q fl_27_0) q<|ov (g_load1 q q q q q q ag_22) q<|ov (g_lenM (l := v0.acids) (enc := cAcid) q ul_22 q q q) q<|ov (g_gtr q q q q q) q<|vm q q q q q<|Ops.split 96 q (fun hb => ?_) (fun hb => ?_)
       ·have h := bif_t h hb
        refine o2 q q q q q q<|o2 q q q q q q<|o2 q q q q q q<|o2 q q q q q q<|vt q q q q q q<|on0<|Sq.n<|⟨true, h, has_mk ⟨q, q, q, q, q, q, q, trivial⟩ ⟨q, q, trivial⟩ trivial q⟩
       ·have h := bif_f h hb
        refine on q q q<|ov (g_loadA q q q q q ag_27 sz_27 q q) q<|on q q q<|vm q q q q q<|on q q q ?_
        obtain ⟨v111, e111, h⟩ := bind_some h
        refine ov (g_call q q q ca_70 q (c_70 _ _ _ e111)) q<|on q q q<|ov (g_not q q q q) q<|vf q q q q q q<|on0<|Sq.n<|⟨(!v111), h, has_mk ⟨q, q, q, q, q, q, q, trivial⟩ ⟨q, q, trivial⟩ trivial q⟩
      ·rintro v112 h
       change s_17_j3 n v0 v1 v2 v106 v107 v108 v112 = some r at h
       unfold s_17_j3 at h
       change W _ _ (⟨[(2, .pv (.i v2)), (3, .box 3 0), (4, .box 4 0), (7, .pv (.b v106.1)), (9, .pv (.sl (List.map eI v107.1))), (11, .pv (.sl (List.map cSpan v108.1))), (101, .pv (.b v112))], [(3, 27, [.pv (.sl (List.map cAcid v0.acids)), .pv (.i v0.known), .pv (.i v0.hours), .pv (.sl (List.map eI v0.adds)), .pv (.sl (List.map cStrip v0.strips)), .pv (.sl (List.map cBatch v0.batches))]), (4, 54, [.pv (.i v1.acid), .pv (.sl (List.map eI v1.strength))])], []⟩ : Env) _
       refine W.cond (b := v112) q (fun hc => ?_) (fun hc => ?_)
       ·have h := bif_t h hc
        refine W.seq<|W.region<|va q q q q q<|on0<|Sq.n<|W.ret<|Sq.r ?_
        obtain rfl := Option.some.inj h
        exact Fin.r q (.cons (.tmp _ _ q) .nil) q
       ·have h := bif_f h hc
        refine W.skip<|Sq.n<|W.seq<|W.seqJ (σ := Bool) (fun s => (⟨[(2, .pv (.i v2)), (3, .box 3 0), (4, .box 4 0), (7, .pv (.b v106.1)), (9, .pv (.sl (List.map eI v107.1))), (11, .pv (.sl (List.map cSpan v108.1))), (109, .pv (.b s))], [(3, 27, [.pv (.sl (List.map cAcid v0.acids)), .pv (.i v0.known), .pv (.i v0.hours), .pv (.sl (List.map eI v0.adds)), .pv (.sl (List.map cStrip v0.strips)), .pv (.sl (List.map cBatch v0.batches))]), (4, 54, [.pv (.i v1.acid), .pv (.sl (List.map eI v1.strength))])], []⟩ : Env)) (fun s => s_17_j4 n v0 v1 v2 v106 v107 v108 s = some r) ?_ ?_
        ·refine W.region<|vm q q q q q<|vm q q q q q<|Ops.split 103 q (fun hb => ?_) (fun hb => ?_)
         ·have h := bif_t h hb
          refine on q q q<|vm q q q q q<|on q q q<|ov (g_fld q q q q fl_54_0) q<|on q q q<|ov (g_load1 q q q q q q ag_3) q<|on q q q ?_
          obtain ⟨v113, e113, h⟩ := bind_some h
          refine ov (g_call q q q ca_71 q (c_71 _ _ _ e113)) q<|on q q q<|ov (g_not q q q q) q<|vt q q q q q q<|on0<|Sq.n<|⟨(!v113), h, has_mk ⟨q, q, q, q, q, q, q, trivial⟩ ⟨q, q, trivial⟩ trivial q⟩
         ·have h := bif_f h hb
          refine o2 q q q q q q<|o2 q q q q q q<|o2 q q q q q q<|o2 q q q q q q<|o2 q q q q q q<|vf q q q q q q<|on0<|Sq.n<|⟨false, h, has_mk ⟨q, q, q, q, q, q, q, trivial⟩ ⟨q, q, trivial⟩ trivial q⟩
        ·rintro v114 h
         change s_17_j4 n v0 v1 v2 v106 v107 v108 v114 = some r at h
         unfold s_17_j4 at h
         change W _ _ (⟨[(2, .pv (.i v2)), (3, .box 3 0), (4, .box 4 0), (7, .pv (.b v106.1)), (9, .pv (.sl (List.map eI v107.1))), (11, .pv (.sl (List.map cSpan v108.1))), (109, .pv (.b v114))], [(3, 27, [.pv (.sl (List.map cAcid v0.acids)), .pv (.i v0.known), .pv (.i v0.hours), .pv (.sl (List.map eI v0.adds)), .pv (.sl (List.map cStrip v0.strips)), .pv (.sl (List.map cBatch v0.batches))]), (4, 54, [.pv (.i v1.acid), .pv (.sl (List.map eI v1.strength))])], []⟩ : Env) _
         refine W.cond (b := v114) q (fun hc => ?_) (fun hc => ?_)
         ·have h := bif_t h hc
          refine W.seq<|W.region<|va q q q q q<|on0<|Sq.n<|W.ret<|Sq.r ?_
          obtain rfl := Option.some.inj h
          exact Fin.r q (.cons (.tmp _ _ q) .nil) q
         ·have h := bif_f h hc
          refine W.skip<|Sq.n<|W.seq<|W.seq<|W.region<|va q q q q q<|on0<|Sq.n<|W.block<|W.loop (σ := Nat × Int) (fun s => (⟨[(2, .pv (.i v2)), (3, .box 3 0), (4, .box 4 0), (7, .pv (.b v106.1)), (9, .pv (.sl (List.map eI v107.1))), (11, .pv (.sl (List.map cSpan v108.1))), (13, .pv (.i s.2))], [(3, 27, [.pv (.sl (List.map cAcid v0.acids)), .pv (.i v0.known), .pv (.i v0.hours), .pv (.sl (List.map eI v0.adds)), .pv (.sl (List.map cStrip v0.strips)), .pv (.sl (List.map cBatch v0.batches))]), (4, 54, [.pv (.i v1.acid), .pv (.sl (List.map eI v1.strength))])], []⟩ : Env)) (fun s => s_17_l5 n v0 v1 v2 v106 v107 v108 s.1 s.2 = some r) (fun s => s.1) (n, 0) h (has_mk ⟨q, q, q, q, q, q, q, trivial⟩ ⟨q, q, trivial⟩ trivial q) ?_
          rintro ⟨k5, v121⟩ h
          change s_17_l5 n v0 v1 v2 v106 v107 v108 k5 v121 = some r at h
          rcases k5 with _ | k5
          ·rw [s_17_l5] at h
           cases h
          ·rw [s_17_l5] at h
           change W _ _ (⟨[(2, .pv (.i v2)), (3, .box 3 0), (4, .box 4 0), (7, .pv (.b v106.1)), (9, .pv (.sl (List.map eI v107.1))), (11, .pv (.sl (List.map cSpan v108.1))), (13, .pv (.i v121))], [(3, 27, [.pv (.sl (List.map cAcid v0.acids)), .pv (.i v0.known), .pv (.i v0.hours), .pv (.sl (List.map eI v0.adds)), .pv (.sl (List.map cStrip v0.strips)), .pv (.sl (List.map cBatch v0.batches))]), (4, 54, [.pv (.i v1.acid), .pv (.sl (List.map eI v1.strength))])], []⟩ : Env) _
           refine W.seq<|W.seqJ (σ := Bool) (fun s => (⟨[(2, .pv (.i v2)), (3, .box 3 0), (4, .box 4 0), (7, .pv (.b v106.1)), (9, .pv (.sl (List.map eI v107.1))), (11, .pv (.sl (List.map cSpan v108.1))), (13, .pv (.i v121)), (116, .pv (.b s))], [(3, 27, [.pv (.sl (List.map cAcid v0.acids)), .pv (.i v0.known), .pv (.i v0.hours), .pv (.sl (List.map eI v0.adds)), .pv (.sl (List.map cStrip v0.strips)), .pv (.sl (List.map cBatch v0.batches))]), (4, 54, [.pv (.i v1.acid), .pv (.sl (List.map eI v1.strength))])], []⟩ : Env)) (fun s => s_17_j12 n (s_17_l5 n v0 v1 v2 v106 v107 v108 k5) v0 v1 v2 v107 v108 v121 s = some r) ?_ ?_
           ·refine W.region<|vm q q q q q<|vm q q q q q<|ov (g_lenM (l := v108.1) (enc := cSpan) q ul_30 q q q) q<|ov (g_lss q q q q q) q<|vm q q q q q<|Ops.split 114 q (fun hb => ?_) (fun hb => ?_)
            ·have h := bif_t h hb
             refine on q q q<|vm q q q q q<|vt q q q q q q<|on0<|Sq.n<|⟨v106.1, h, has_mk ⟨q, q, q, q, q, q, q, q, trivial⟩ ⟨q, q, trivial⟩ trivial q⟩
            ·have h := bif_f h hb
             refine o2 q q q q q q<|vf q q q q q q<|on0<|Sq.n<|⟨false, h, has_mk ⟨q, q, q, q, q, q, q, q, trivial⟩ ⟨q, q, trivial⟩ trivial q⟩
           ·rintro v128 h
            change s_17_j12 n (s_17_l5 n v0 v1 v2 v106 v107 v108 k5) v0 v1 v2 v107 v108 v121 v128 = some r at h
            unfold s_17_j12 at h
            change W _ _ (⟨[(2, .pv (.i v2)), (3, .box 3 0), (4, .box 4 0), (7, .pv (.b v106.1)), (9, .pv (.sl (List.map eI v107.1))), (11, .pv (.sl (List.map cSpan v108.1))), (13, .pv (.i v121)), (116, .pv (.b v128))], [(3, 27, [.pv (.sl (List.map cAcid v0.acids)), .pv (.i v0.known), .pv (.i v0.hours), .pv (.sl (List.map eI v0.adds)), .pv (.sl (List.map cStrip v0.strips)), .pv (.sl (List.map cBatch v0.batches))]), (4, 54, [.pv (.i v1.acid), .pv (.sl (List.map eI v1.strength))])], []⟩ : Env) _
            refine W.cond (b := v128) q (fun hc => ?_) (fun hc => ?_)
            ·have h := bif_t h hc
             refine W.skip<|Sq.n<|W.seq<|W.block<|W.seqJ (σ := Bool) (fun s => (⟨[(2, .pv (.i v2)), (3, .box 3 0), (4, .box 4 0), (7, .pv (.b v106.1)), (9, .pv (.sl (List.map eI v107.1))), (11, .pv (.sl (List.map cSpan v108.1))), (13, .pv (.i v121)), (142, .pv (.b s))], [(3, 27, [.pv (.sl (List.map cAcid v0.acids)), .pv (.i v0.known), .pv (.i v0.hours), .pv (.sl (List.map eI v0.adds)), .pv (.sl (List.map cStrip v0.strips)), .pv (.sl (List.map cBatch v0.batches))]), (4, 54, [.pv (.i v1.acid), .pv (.sl (List.map eI v1.strength))])], []⟩ : Env)) (fun s => s_17_j14 (s_17_l5 n v0 v1 v2 v106 v107 v108 k5) v121 s = some r) ?_ ?_
             ·obtain ⟨v129, e129, h⟩ := bind_some h
              obtain ⟨v130, e130, h⟩ := bind_some h
              rcases Bool.eq_false_or_eq_true ((decide (v129 < v130.low))) with hb13 | hb13
              ·have h := bif_t h hb13
               refine W.draw (m := 22) Checked.mixed (Pre.v (GSG.of q (g_fld q q q q fl_54_1)) ((Pre.v (GSG.of q (g_load1 q q q q q q ag_23)) ((Pre.v (GSG.of q (g_move q q q q)) ((Pre.v (GSG.of q (g_idxI (l := v1.strength) (enc := eI) e129 q q q q q el_23 q)) ((Pre.v (GSG.of q (g_loadR1 q q q q q ag_3)) ((Pre.v (GSG.of q (g_move q q q q)) ((Pre.v (GSG.of q (g_move q q q q)) ((Pre.v (GSG.of q (g_idxI (l := v108.1) (enc := cSpan) e130 q q q q q el_30 q)) ((Pre.v (GSG.of q (g_fldR q q q q fl_57_0 q)) ((Pre.v (GSG.of q (g_loadR1 q q q q q ag_3)) ((Pre.v (GSG.of q (g_lss q q q q q)) ((Pre.v (GSG.as (GSG.of q (g_move q q q q)) (congrArg (fun b => TV.pv (PV.b b)) hb13)) ((Pre.v (GSG.off2 q q q q q q) ((Pre.v (GSG.off2 q q q q q q) ((Pre.v (GSG.off2 q q q q q q) ((Pre.v (GSG.off2 q q q q q q) ((Pre.v (GSG.off2 q q q q q q) ((Pre.v (GSG.off2 q q q q q q) ((Pre.v (GSG.off2 q q q q q q) ((Pre.v (GSG.off2 q q q q q q) ((Pre.v (GSG.off2 q q q q q q) ((Pre.v (GSG.off2 q q q q q q) (Pre.nil _)))))))))))))))))))))))))))))))))))))))))))) (by kernel_rfl)<|o2 q q q q q q<|vt q q q q q q<|on0<|Sq.n<|⟨true, h, has_mk ⟨q, q, q, q, q, q, q, q, trivial⟩ ⟨q, q, trivial⟩ trivial q⟩
              ·have h := bif_f h hb13
               obtain ⟨v131, e131, h⟩ := bind_some h
               obtain ⟨v132, e132, h⟩ := bind_some h
               refine W.draw (m := 22) Checked.mixed (Pre.v (GSG.of q (g_fld q q q q fl_54_1)) ((Pre.v (GSG.of q (g_load1 q q q q q q ag_23)) ((Pre.v (GSG.of q (g_move q q q q)) ((Pre.v (GSG.of q (g_idxI (l := v1.strength) (enc := eI) e129 q q q q q el_23 q)) ((Pre.v (GSG.of q (g_loadR1 q q q q q ag_3)) ((Pre.v (GSG.of q (g_move q q q q)) ((Pre.v (GSG.of q (g_move q q q q)) ((Pre.v (GSG.of q (g_idxI (l := v108.1) (enc := cSpan) e130 q q q q q el_30 q)) ((Pre.v (GSG.of q (g_fldR q q q q fl_57_0 q)) ((Pre.v (GSG.of q (g_loadR1 q q q q q ag_3)) ((Pre.v (GSG.of q (g_lss q q q q q)) ((Pre.v (GSG.as (GSG.of q (g_move q q q q)) (congrArg (fun b => TV.pv (PV.b b)) hb13)) ((Pre.v (GSG.on q q q (g_fld q q q q fl_54_1)) ((Pre.v (GSG.on q q q (g_load1 q q q q q q ag_23)) ((Pre.v (GSG.on q q q (g_move q q q q)) ((Pre.v (GSG.on q q q (g_idxI (l := v1.strength) (enc := eI) e131 q q q q q el_23 q)) ((Pre.v (GSG.on q q q (g_loadR1 q q q q q ag_3)) ((Pre.v (GSG.on q q q (g_move q q q q)) ((Pre.v (GSG.on q q q (g_move q q q q)) ((Pre.v (GSG.on q q q (g_idxI (l := v108.1) (enc := cSpan) e132 q q q q q el_30 q)) ((Pre.v (GSG.on q q q (g_fldR q q q q fl_57_1 q)) ((Pre.v (GSG.on q q q (g_loadR1 q q q q q ag_3)) (Pre.nil _)))))))))))))))))))))))))))))))))))))))))))) (by kernel_rfl)<|on q q q<|ov (g_gtr q q q q q) q<|vf q q q q q q<|on0<|Sq.n<|⟨(decide (v132.high < v131)), h, has_mk ⟨q, q, q, q, q, q, q, q, trivial⟩ ⟨q, q, trivial⟩ trivial q⟩
             ·rintro v133 h
              change s_17_j14 (s_17_l5 n v0 v1 v2 v106 v107 v108 k5) v121 v133 = some r at h
              unfold s_17_j14 at h
              change W _ _ (⟨[(2, .pv (.i v2)), (3, .box 3 0), (4, .box 4 0), (7, .pv (.b v106.1)), (9, .pv (.sl (List.map eI v107.1))), (11, .pv (.sl (List.map cSpan v108.1))), (13, .pv (.i v121)), (142, .pv (.b v133))], [(3, 27, [.pv (.sl (List.map cAcid v0.acids)), .pv (.i v0.known), .pv (.i v0.hours), .pv (.sl (List.map eI v0.adds)), .pv (.sl (List.map cStrip v0.strips)), .pv (.sl (List.map cBatch v0.batches))]), (4, 54, [.pv (.i v1.acid), .pv (.sl (List.map eI v1.strength))])], []⟩ : Env) _
              refine W.cond (b := v133) q (fun hc => ?_) (fun hc => ?_)
              ·have h := bif_t h hc
               refine W.seq<|W.region<|va q q q q q<|on0<|Sq.n<|W.ret<|Bl.r<|Sq.r<|Sq.r<|Bl.r<|Sq.r ?_
               obtain rfl := Option.some.inj h
               exact Fin.r q (.cons (.tmp _ _ q) .nil) q
              ·have h := bif_f h hc
               exact W.skip<|Bl.n<|Sq.n<|W.region<|vm q q q q q<|ov (g_add q q q q q) q<|va q q q q q<|on0<|Sq.n<|⟨(k5, wr (v121 + 1)), h, Nat.lt_succ_self _, has_mk ⟨q, q, q, q, q, q, q, trivial⟩ ⟨q, q, trivial⟩ trivial q⟩
            ·have h := bif_f h hc
             refine W.exit<|Sq.e<|Sq.e<|Bl.e<|Sq.n<|W.seq<|W.region<|ov (g_loadA q q q q q ag_27 sz_27 q q) q<|ob (g_alloc q q q zr_27) q q<|Ops.step q (s_storeB q q q q q q sz_27 q q)<|on0<|Sq.n<|W.seq<|W.region<|vm q q q q q<|ov (g_conv q q q q ⟨_, ui_3⟩ ui_98) q ?_
             obtain ⟨v134, e134, h⟩ := bind_some h
             refine ov (g_shlI e134 q q q q q) q<|ov (g_fld q q q q fl_27_1) q<|Ops.step q (s_storeB q q q q q q sz_3 q q)<|on0<|Sq.n<|W.seq<|W.region<|ov (g_loadA q q q q q ag_27 sz_27 q q) q ?_
             obtain ⟨v135, e135, h⟩ := bind_some h
             refine ov (g_call q q q ca_25 q (c_25 _ _ e135)) q<|vm q q q q q<|ov (g_extract q q q q q) q<|ov (g_extract q q q q q) q<|va q q q q q<|va q q q q q<|on0<|Sq.n<|W.seq<|W.seqJ (σ := Bool) (fun s => (⟨[(2, .pv (.i v2)), (3, .box 3 0), (9, .pv (.sl (List.map eI v107.1))), (15, .pv (.sl (List.map cSpan v135.1))), (16, .pv (.i v135.2)), (163, .pv (.b s))], [(3, 27, [.pv (.sl (List.map cAcid v0.acids)), .pv (.i v0.known), .pv (.i v0.hours), .pv (.sl (List.map eI v0.adds)), .pv (.sl (List.map cStrip v0.strips)), .pv (.sl (List.map cBatch v0.batches))])], []⟩ : Env)) (fun s => s_17_j15 n v0 v2 v107 v135 s = some r) ?_ ?_
             ·refine W.region<|vm q q q q q<|vm q q q q q ?_
              obtain ⟨v136, e136, h⟩ := bind_some h
              refine ov (g_call q q q ca_71 q (c_71 _ _ _ e136)) q<|ov (g_not q q q q) q<|vm q q q q q<|Ops.split 157 q (fun hb => ?_) (fun hb => ?_)
              ·have h := bif_t h hb
               refine o2 q q q q q q<|o2 q q q q q q<|o2 q q q q q q<|o2 q q q q q q<|o2 q q q q q q<|vt q q q q q q<|on0<|Sq.n<|⟨true, h, has_mk ⟨q, q, q, q, q, q, trivial⟩ ⟨q, trivial⟩ trivial q⟩
              ·have h := bif_f h hb
               refine on q q q<|ov (g_fld q q q q fl_27_1) q<|on q q q<|ov (g_load1 q q q q q q ag_3) q<|on q q q<|vm q q q q q<|on q q q ?_
               obtain ⟨v137, e137, h⟩ := bind_some h
               refine ov (g_call q q q ca_72 q (c_72 _ _ _ e137)) q<|on q q q<|ov (g_not q q q q) q<|vf q q q q q q<|on0<|Sq.n<|⟨(!v137), h, has_mk ⟨q, q, q, q, q, q, trivial⟩ ⟨q, trivial⟩ trivial q⟩
             ·rintro v138 h
              change s_17_j15 n v0 v2 v107 v135 v138 = some r at h
              unfold s_17_j15 at h
              change W _ _ (⟨[(2, .pv (.i v2)), (3, .box 3 0), (9, .pv (.sl (List.map eI v107.1))), (15, .pv (.sl (List.map cSpan v135.1))), (16, .pv (.i v135.2)), (163, .pv (.b v138))], [(3, 27, [.pv (.sl (List.map cAcid v0.acids)), .pv (.i v0.known), .pv (.i v0.hours), .pv (.sl (List.map eI v0.adds)), .pv (.sl (List.map cStrip v0.strips)), .pv (.sl (List.map cBatch v0.batches))])], []⟩ : Env) _
              refine W.cond (b := v138) q (fun hc => ?_) (fun hc => ?_)
              ·have h := bif_t h hc
               refine W.seq<|W.region<|vm q q q q q<|vm q q q q q ?_
               obtain ⟨v139, e139, h⟩ := bind_some h
               refine ov (g_call q q q ca_71 q (c_71 _ _ _ e139)) q<|ov (g_not q q q q) q<|vm q q q q q<|Ops.split 168 q (fun hb => ?_) (fun hb => ?_)
               ·have h := bif_t h hb
                refine on q q q<|vm q q q q q<|on q q q<|ov (g_neq q q q q q) q<|on q q q<|vm q q q q q<|Ops.split 171 q (fun hb => ?_) (fun hb => ?_)
                ·have h := bif_t h hb
                 refine o2 q q q q q q<|o2 q q q q q q<|o2 q q q q q q<|o2 q q q q q q<|o2 q q q q q q<|on q q q<|vt q q q q q q<|vt q q q q q q<|vm q q q q q<|on q q q ?_
                 obtain ⟨v140, e140, h⟩ := bind_some h
                 refine ov (g_call q q q ca_24 q (c_24 _  e140)) q<|vt q q q q q q<|va q q q q q<|on0<|Sq.n<|W.ret<|Sq.r ?_
                 obtain rfl := Option.some.inj h
                 exact Fin.r q (.cons (.tmp _ _ q) .nil) q
                ·have h := bif_f h hb
                 refine on q q q<|ov (g_fld q q q q fl_27_1) q<|on q q q<|ov (g_load1 q q q q q q ag_3) q<|on q q q<|vm q q q q q<|on q q q ?_
                 obtain ⟨v141, e141, h⟩ := bind_some h
                 refine ov (g_call q q q ca_72 q (c_72 _ _ _ e141)) q<|on q q q<|ov (g_not q q q q) q<|on q q q<|vf q q q q q q<|vt q q q q q q<|vm q q q q q<|Ops.split 179 q (fun hb => ?_) (fun hb => ?_)
                 ·have h := bif_t h hb
                  refine on q q q ?_
                  obtain ⟨v142, e142, h⟩ := bind_some h
                  refine ov (g_call q q q ca_24 q (c_24 _  e142)) q<|vt q q q q q q<|va q q q q q<|on0<|Sq.n<|W.ret<|Sq.r ?_
                  obtain rfl := Option.some.inj h
                  exact Fin.r q (.cons (.tmp _ _ q) .nil) q
                 ·have h := bif_f h hb
                  refine o2 q q q q q q<|vf q q q q q q<|va q q q q q<|on0<|Sq.n<|W.ret<|Sq.r ?_
                  obtain rfl := Option.some.inj h
                  exact Fin.r q (.cons (.tmp _ _ q) .nil) q
               ·have h := bif_f h hb
                refine o2 q q q q q q<|o2 q q q q q q<|o2 q q q q q q<|o2 q q q q q q<|o2 q q q q q q<|o2 q q q q q q<|o2 q q q q q q<|o2 q q q q q q<|o2 q q q q q q<|vf q q q q q q<|vm q q q q q<|o2 q q q q q q<|vf q q q q q q<|va q q q q q<|on0<|Sq.n<|W.ret<|Sq.r ?_
                obtain rfl := Option.some.inj h
                exact Fin.r q (.cons (.tmp _ _ q) .nil) q
              ·have h := bif_f h hc
               refine W.skip<|Sq.n<|W.seq<|W.seqJ (σ := Bool) (fun s => (⟨[(2, .pv (.i v2)), (3, .box 3 0), (15, .pv (.sl (List.map cSpan v135.1))), (189, .pv (.b s))], [(3, 27, [.pv (.sl (List.map cAcid v0.acids)), .pv (.i v0.known), .pv (.i v0.hours), .pv (.sl (List.map eI v0.adds)), .pv (.sl (List.map cStrip v0.strips)), .pv (.sl (List.map cBatch v0.batches))])], []⟩ : Env)) (fun s => s_17_j16 n v0 v2 v135 s = some r) ?_ ?_
               ·refine W.region<|vm q q q q q<|ov (g_neq q q q q q) q<|vm q q q q q<|Ops.split 184 q (fun hb => ?_) (fun hb => ?_)
                ·have h := bif_t h hb
                 refine o2 q q q q q q<|o2 q q q q q q<|o2 q q q q q q<|o2 q q q q q q<|vt q q q q q q<|on0<|Sq.n<|⟨true, h, has_mk ⟨q, q, q, q, trivial⟩ ⟨q, trivial⟩ trivial q⟩
                ·have h := bif_f h hb
                 refine on q q q<|ov (g_loadA q q q q q ag_27 sz_27 q q) q<|on q q q<|vm q q q q q<|on q q q ?_
                 obtain ⟨v143, e143, h⟩ := bind_some h
                 refine ov (g_call q q q ca_70 q (c_70 _ _ _ e143)) q<|on q q q<|ov (g_not q q q q) q<|vf q q q q q q<|on0<|Sq.n<|⟨(!v143), h, has_mk ⟨q, q, q, q, trivial⟩ ⟨q, trivial⟩ trivial q⟩
               ·rintro v144 h
                change s_17_j16 n v0 v2 v135 v144 = some r at h
                unfold s_17_j16 at h
                change W _ _ (⟨[(2, .pv (.i v2)), (3, .box 3 0), (15, .pv (.sl (List.map cSpan v135.1))), (189, .pv (.b v144))], [(3, 27, [.pv (.sl (List.map cAcid v0.acids)), .pv (.i v0.known), .pv (.i v0.hours), .pv (.sl (List.map eI v0.adds)), .pv (.sl (List.map cStrip v0.strips)), .pv (.sl (List.map cBatch v0.batches))])], []⟩ : Env) _
                refine W.cond (b := v144) q (fun hc => ?_) (fun hc => ?_)
                ·have h := bif_t h hc
                 refine W.seq<|W.region<|va q q q q q<|on0<|Sq.n<|W.ret<|Sq.r ?_
                 obtain rfl := Option.some.inj h
                 exact Fin.r q (.cons (.tmp _ _ q) .nil) q
                ·have h := bif_f h hc
                 refine W.skip<|Sq.n<|W.seq ?_
                 obtain ⟨v145, e145, h⟩ := bind_some h
                 obtain ⟨v146, e146, h⟩ := bind_some h
                 refine W.draw (m := 10) Checked.mixed (Pre.v (GSG.of q (g_loadA q q q q q ag_27 sz_27 q q)) ((Pre.v (GSG.of q (g_move q q q q)) ((Pre.v (GSG.of q (g_move q q q q)) ((Pre.v (GSG.of q (g_call q q q ca_73 q (c_73 _ _ _ e145))) ((Pre.v (GSG.of q (g_build (cs := (cTruth (Truth.mk v2 v145))) q q q zr_54 st_54 q q)) ((Pre.v (GSG.of q (g_call q q q ca_68 q (c_68 _ _ _ e146))) ((Pre.v (GSG.of q (g_move q q q q)) ((Pre.v (GSG.of q (g_extract q q q q q)) ((Pre.v (GSG.of q (g_extract q q q q q)) ((Pre.v (GSG.of q (g_assign q q q q)) (Pre.nil _)))))))))))))))))))) (by kernel_rfl)<|va q q q q q<|on0<|Sq.n<|W.seq ?_
                 obtain ⟨v147, e147, h⟩ := bind_some h
                 obtain ⟨v148, e148, h⟩ := bind_some h
                 refine W.draw (m := 10) Checked.mixed (Pre.v (GSG.of q (g_loadA q q q q q ag_27 sz_27 q q)) ((Pre.v (GSG.of q (g_move q q q q)) ((Pre.v (GSG.of q (g_move q q q q)) ((Pre.v (GSG.of q (g_call q q q ca_73 q (c_73 _ _ _ e147))) ((Pre.v (GSG.of q (g_build (cs := (cTruth (Truth.mk v2 v147))) q q q zr_54 st_54 q q)) ((Pre.v (GSG.of q (g_call q q q ca_68 q (c_68 _ _ _ e148))) ((Pre.v (GSG.of q (g_move q q q q)) ((Pre.v (GSG.of q (g_extract q q q q q)) ((Pre.v (GSG.of q (g_extract q q q q q)) ((Pre.v (GSG.of q (g_assign q q q q)) (Pre.nil _)))))))))))))))))))) (by kernel_rfl)<|va q q q q q<|on0<|Sq.n<|W.seq<|W.region<|vm q q q q q<|ov (g_eql q q q q q) q<|vm q q q q q<|Ops.split 210 q (fun hb => ?_) (fun hb => ?_)
                 ·have h := bif_t h hb
                  refine on q q q<|vm q q q q q<|on q q q<|ov (g_eql q q q q q) q<|vt q q q q q q<|vm q q q q q<|Ops.split 214 q (fun hb => ?_) (fun hb => ?_)
                  ·have h := bif_t h hb
                   refine on q q q<|vm q q q q q<|vt q q q q q q<|vm q q q q q<|Ops.split 217 q (fun hb => ?_) (fun hb => ?_)
                   ·have h := bif_t h hb
                    refine on q q q<|vm q q q q q<|vt q q q q q q<|vm q q q q q<|Ops.split 220 q (fun hb => ?_) (fun hb => ?_)
                    ·have h := bif_t h hb
                     refine on q q q ?_
                     obtain ⟨v149, e149, h⟩ := bind_some h
                     refine ov (g_call q q q ca_24 q (c_24 _  e149)) q<|vt q q q q q q<|va q q q q q<|on0<|Sq.n<|W.ret ?_
                     obtain rfl := Option.some.inj h
                     exact Fin.r q (.cons (.tmp _ _ q) .nil) q
                    ·have h := bif_f h hb
                     refine o2 q q q q q q<|vf q q q q q q<|va q q q q q<|on0<|Sq.n<|W.ret ?_
                     obtain rfl := Option.some.inj h
                     exact Fin.r q (.cons (.tmp _ _ q) .nil) q
                   ·have h := bif_f h hb
                    refine o2 q q q q q q<|vf q q q q q q<|vm q q q q q<|o2 q q q q q q<|vf q q q q q q<|va q q q q q<|on0<|Sq.n<|W.ret ?_
                    obtain rfl := Option.some.inj h
                    exact Fin.r q (.cons (.tmp _ _ q) .nil) q
                  ·have h := bif_f h hb
                   refine o2 q q q q q q<|vf q q q q q q<|vm q q q q q<|o2 q q q q q q<|vf q q q q q q<|vm q q q q q<|o2 q q q q q q<|vf q q q q q q<|va q q q q q<|on0<|Sq.n<|W.ret ?_
                   obtain rfl := Option.some.inj h
                   exact Fin.r q (.cons (.tmp _ _ q) .nil) q
                 ·have h := bif_f h hb
                  refine o2 q q q q q q<|o2 q q q q q q<|vf q q q q q q<|vm q q q q q<|o2 q q q q q q<|vf q q q q q q<|vm q q q q q<|o2 q q q q q q<|vf q q q q q q<|vm q q q q q<|o2 q q q q q q<|vf q q q q q q<|va q q q q q<|on0<|Sq.n<|W.ret ?_
                  obtain rfl := Option.some.inj h
                  exact Fin.r q (.cons (.tmp _ _ q) .nil) q
end Go.Proofs.YtohmhlkdgfcaeaaGreatDoor
namespace Go.Proofs.YtohmhlkdgfcaeaaGreatDoor
open Go Go.RowKit
theorem range_filter_none (m : Nat) (p : Nat → Bool) (hp : ∀ i, i < m → p i = false) : (List.range m).filter p = [] := by
 rw [List.filter_eq_nil_iff]
 intro a ha
 rw [hp a (List.mem_range.1 ha)]
 simp
theorem range_filter_one (m v : Nat) (hv : v < m) (p : Nat → Bool) (hp : ∀ i, i ≠ v → p i = false) (hpv : p v = true) : (List.range m).filter p = [v] := by
 induction m with
 | zero => omega
 | succ m ih =>
  rw [List.range_succ, List.filter_append]
  by_cases h : v = m
  ·subst h
   rw [range_filter_none v p (fun i hi => hp i (by omega))]
   simp [hpv]
  ·rw [ih (by omega)]
   have := hp m (by omega)
   simp [this]
theorem hasB_pow : ∀ v, v < 4 → ∀ i, i < 4 → hasB (2 ^ v) i = decide (i = v) := by decide
section
variable {n : Nat} {d : Drum} {tr : Truth}
def oneD (d : Drum) (v : Nat) : Drum := ⟨d.acids, 2 ^ v, d.hours, d.adds, d.strips, d.batches⟩
theorem oneD_ok (hd : d.ok) {v : Nat} (hv : v < d.acids.length) : (oneD d v).ok := by
 refine ⟨hd.acl, ?_, hd.hr, hd.adl, hd.stl, hd.btl, hd.ac, hd.ad, hd.st, hd.bt⟩
 show 1 ≤ (2 : Int) ^ v ∧ (2 : Int) ^ v ≤ 2 ^ d.acids.length - 1
 have hl := hd.acl
 have h1 : (2 : Nat) ^ (v + 1) ≤ 2 ^ d.acids.length := Nat.pow_le_pow_right (by omega) hv
 have h2 : (1 : Nat) ≤ 2 ^ v := Nat.pow_pos (by omega)
 have h3 : (2 : Nat) ^ (v + 1) = 2 ^ v * 2 := Nat.pow_succ ..
 have h4 : ((2 : Int) ^ v) = ((2 ^ v : Nat) : Int) := by push_cast; rfl
 have h5 : ((2 : Int) ^ d.acids.length) = ((2 ^ d.acids.length : Nat) : Int) := by push_cast; rfl
 rw [h4, h5]
 generalize (2 : Nat) ^ v = x at *
 generalize (2 : Nat) ^ d.acids.length = y at *
 omega
theorem oneD_idx (hd : d.ok) {v : Nat} (hv : v < d.acids.length) : idx (oneD d v) = if Poss d.adds d.strips (acidAt d v) (hrs d) then [v] else [] := by
 have hl := hd.acl
 have hp : ∀ i, i < 4 → PossI (oneD d v) i = (decide (i = v) && decide (Poss d.adds d.strips (acidAt d i) (hrs d))) := by
  intro i hi
  unfold PossI
  show (hasB (2 ^ v) i && _) = _
  rw [hasB_pow v (by omega) i hi]
  rfl
 have hcongr : (List.range d.acids.length).filter (PossI (oneD d v)) = (List.range d.acids.length).filter (fun i => decide (i = v) && decide (Poss d.adds d.strips (acidAt d i) (hrs d))) := by
  apply List.filter_congr
  intro i hi
  rw [List.mem_range] at hi
  exact hp i (by omega)
 show (List.range d.acids.length).filter (PossI (oneD d v)) = _
 rw [hcongr]
 by_cases h : Poss d.adds d.strips (acidAt d v) (hrs d)
 ·rw [if_pos h]
  exact range_filter_one _ v hv _ (fun i hi => by rw [decide_eq_false hi]; rfl) (by rw [decide_eq_true rfl, decide_eq_true h]; rfl)
 ·rw [if_neg h]
  refine range_filter_none _ _ (fun i hi => ?_)
  by_cases e : i = v
  ·subst e; rw [decide_eq_false h, Bool.and_false]
  ·rw [decide_eq_false e]; rfl
theorem p_71 (n : Nat) (hn : 100 ≤ n) (l : List Int) (hl : l.length ≤ 50) (x : Int) : s_71 n l x = some (l.any (fun y => decide (y = x))) := by
 unfold s_71
 have h1 := loop_list l (fun k i (_ : Unit) => s_71_l1 l x k i) (fun _ y s K => bif decide (y = x) then some true else K s) (fun _ => some false) (fun k i _ => by rw [s_71_l1]) (by omega) n 0 () (by omega) (by omega)
 rw [show ((0 : Nat) : Int) = 0 from rfl, List.drop_zero] at h1
 rw [h1]
 clear h1 hl
 have key : ∀ (r : List Int) (i : Nat), fc (σ := Unit) (fun _ y s K => bif decide (y = x) then some true else K s) (fun _ => some false) i r () = some (r.any (fun y => decide (y = x))) := by
  intro r
  induction r with
  | nil => intro i; rfl
  | cons y r ih =>
   intro i
   rw [fc, ih, List.any_cons]
   cases decide (y = x) <;> rfl
 exact key l 0
theorem any_intL (l : List Nat) (v : Nat) : (intL l).any (fun y => decide (y = (v : Int))) = decide (v ∈ l) := by
 induction l with
 | nil => simp [intL]
 | cons x r ih =>
  have : intL (x :: r) = (x : Int) :: intL r := rfl
  rw [this, List.any_cons, ih]
  rw [Bool.eq_iff_iff]
  simp only [Bool.or_eq_true, decide_eq_true_eq, List.mem_cons]
  constructor
  ·rintro (h | h)
   ·exact .inl (by omega)
   ·exact .inr h
  ·rintro (h | h)
   ·exact .inl (by omega)
   ·exact .inr h
theorem p_70 (hn : 100 ≤ n) (hd : d.ok) (c : Nat → Span) (hc : ∀ h, h < hrs d → 0 ≤ (c h).low ∧ (c h).low ≤ (c h).high ∧ (c h).high ≤ 1300) : s_70 n d (lst (hrs d) c) = some true := by
 have hhr := hrs_le hd
 have hH := hrs_eq hd
 unfold s_70
 rw [loop_all (lst (hrs d) c) (s_70_l1 d (lst (hrs d) c)) (fun _ => true) (some true) (fun k i => ?_) (by rw [lst_length]; omega) (by rw [lst_length]; omega)]
 ·rw [List.all_eq_true.2 (fun _ _ => rfl)]; rfl
 ·rw [s_70_l1]
  by_cases hi : i < hrs d
  ·obtain ⟨h1, h2, h3⟩ := hc i hi
   simp only [ix_at (lst_get (c := c) hi), Option.bind_some, s_70_j10]
   rw [decide_eq_false (show ¬ (c i).low < 0 by omega), decide_eq_false (show ¬ (c i).high < (c i).low by omega), decide_eq_false (show ¬ 1300 < (c i).high by omega)]
   simp only [cond_false, cond_true, lst_length]
   rw [decide_eq_true (show (((hrs d : Nat) : Int) = d.hours) by omega)]
  ·rw [lst_length]
   have e1 : decide ((i : Int) < ((hrs d : Nat) : Int)) = false := decide_eq_false (by omega)
   rw [e1, cond_false, cond_false, decide_eq_true (show (((hrs d : Nat) : Int) = d.hours) by omega)]
theorem upd_in {s t : Span} {x : Int} (h : s.mem x ∨ t.mem x) : (upd s t).mem x := by
 unfold Span.mem upd at *
 simp only
 omega
theorem hull_in {x : Int} {h i : Nat} : ∀ (l : List Nat) (s : Span), (s.mem x ∨ (i ∈ l ∧ (bdAt d i h).mem x)) → (l.foldl (fun s i => upd s (bdAt d i h)) s).mem x := by
 intro l
 induction l with
 | nil =>
  intro s h
  rcases h with h | ⟨h, _⟩
  ·exact h
  ·cases h
 | cons j r ih =>
  intro s hh
  rw [List.foldl_cons]
  refine ih _ ?_
  rcases hh with hh | ⟨hh, h2⟩
  ·exact .inl (upd_in (.inl hh))
  ·rcases List.mem_cons.1 hh with rfl | hh
   ·exact .inl (upd_in (.inr h2))
   ·exact .inr ⟨hh, h2⟩
theorem hull_small {h : Nat} : ∀ (l : List Nat) (s : Span), (0 ≤ s.low ∧ s.low ≤ s.high ∧ s.high ≤ 1300) → (∀ i, i ∈ l → 0 ≤ (bdAt d i h).low ∧ (bdAt d i h).low ≤ (bdAt d i h).high ∧ (bdAt d i h).high ≤ 1300) →
  0 ≤ (l.foldl (fun s i => upd s (bdAt d i h)) s).low ∧ (l.foldl (fun s i => upd s (bdAt d i h)) s).low ≤ (l.foldl (fun s i => upd s (bdAt d i h)) s).high ∧ (l.foldl (fun s i => upd s (bdAt d i h)) s).high ≤ 1300 := by
 intro l
 induction l with
 | nil => intro s h _; exact h
 | cons j r ih =>
  intro s hs hl
  rw [List.foldl_cons]
  refine ih _ ?_ (fun i hi => hl i (List.mem_cons_of_mem _ hi))
  have := hl j List.mem_cons_self
  unfold upd
  simp only
  omega
theorem hull_ok (hd : d.ok) (hne : idx d ≠ []) {h : Nat} (hh : h < hrs d) : 0 ≤ (hull d (idx d) h).low ∧ (hull d (idx d) h).low ≤ (hull d (idx d) h).high ∧ (hull d (idx d) h).high ≤ 1300 := by
 obtain ⟨i0, r0, hi0⟩ : ∃ i r, idx d = i :: r := by
  cases h : idx d with
  | nil => exact absurd h hne
  | cons i r => exact ⟨i, r, rfl⟩
 have h0 : i0 ∈ idx d := by rw [hi0]; exact List.mem_cons_self
 unfold hull
 refine hull_small _ _ ?_ (fun i hi => bdAt_pos hd hi hh)
 rw [hi0]
 exact bdAt_pos hd h0 hh
theorem intL_len (l : List Nat) : (intL l).length = l.length := by simp [intL]
theorem ends_fit (hd : d.ok) {v : Nat} (hv : v ∈ idx d) (hi : Bool) : sizedB d ⟨(v : Int), lstI (hrs d) (fun h => bif hi then (bdAt d v h).high else (bdAt d v h).low)⟩ = true ∧ fitB d ⟨(v : Int), lstI (hrs d) (fun h => bif hi then (bdAt d v h).high else (bdAt d v h).low)⟩ = true := by
 obtain ⟨m1, m2⟩ := idx_mem hv
 unfold PossI at m2
 simp only [Bool.and_eq_true, decide_eq_true_eq] at m2
 refine ⟨(sized_iff hd).2 ⟨⟨by simp, by simpa using m1⟩, by simp [lstI]⟩, (fit_tru hd).2 ⟨by simpa using m2.1, ?_⟩⟩
 obtain ⟨t1, t2⟩ := bd_tru (acidAt_ok hd m1) hd.ad m2.2
 have hst : ∀ h, h < hrs d → stren ⟨(v : Int), lstI (hrs d) (fun h => bif hi then (bdAt d v h).high else (bdAt d v h).low)⟩ h = bif hi then (bdAt d v h).high else (bdAt d v h).low := by
  intro h hh
  unfold stren
  rw [List.getD_eq_getElem?_getD, lstI_get hh]
  rfl
 have hac : trAcid d ⟨(v : Int), lstI (hrs d) (fun h => bif hi then (bdAt d v h).high else (bdAt d v h).low)⟩ = acidAt d v := by unfold trAcid; simp
 rw [hac]
 have conv : ∀ g : Nat → Int, (∀ h, h < hrs d → stren ⟨(v : Int), lstI (hrs d) (fun h => bif hi then (bdAt d v h).high else (bdAt d v h).low)⟩ h = g h) → Tru d.adds d.strips (acidAt d v) (hrs d) g → Tru d.adds d.strips (acidAt d v) (hrs d) (stren ⟨(v : Int), lstI (hrs d) (fun h => bif hi then (bdAt d v h).high else (bdAt d v h).low)⟩) := by
  intro g hg ht h hh
  have := ht h hh
  rw [hg h hh]
  cases h with
  | zero => exact this
  | succ h =>
   simp only at this ⊢
   rw [hg h (by omega)]
   exact this
 cases hi with
 | false => exact conv _ hst t1
 | true => exact conv _ hst t2
theorem law_17 (d : Drum) (tr : Truth) (v : Int) : s_17 1000 d tr v = some true := by
 unfold s_17
 rw [p_23, Option.bind_some]
 have out : s_17_j1 1000 d tr v true = some true := by unfold s_17_j1; rw [cond_true, p_24, Option.bind_some]
 have hn : 100 ≤ 1000 := by omega
 cases hsh : shortB d with
 | false => simp only [Bool.not_false, cond_true]; exact out
 | true =>
  have hs := shortB_iff.1 hsh
  simp only [Bool.not_true, cond_false, p_39 hn hs, p_44, Option.bind_some]
  cases decide (15 < ((List.length tr.strength : Nat) : Int)) with
  | true => simp only [cond_true]; exact out
  | false =>
   cases hok : okD d with
   | false => simp only [Bool.not_false, cond_true, cond_false]; exact out
   | true =>
    have hd := okD_iff.1 hok
    have hH := hrs_eq hd
    have hhr := hrs_le hd
    have hil := idx_len hd
    have hacl := hd.acl
    have hkn := hd.kn
    have hpw := (pow_bound (i := d.acids.length) (by omega)).2
    cases hsz : sizedB d tr with
    | false => simp only [Bool.not_false, Bool.not_true, cond_true, cond_false]; exact out
    | true =>
     simp only [Bool.not_true, cond_false]
     by_cases h0 : v < 0
     ·rw [decide_eq_true h0, cond_true]; exact out
     ·rw [decide_eq_false h0, cond_false]
      by_cases h1 : ((d.acids.length : Nat) : Int) ≤ v
      ·rw [decide_eq_true h1]; exact out
      ·rw [decide_eq_false h1]
       obtain ⟨v', hv⟩ := Int.eq_ofNat_of_zero_le (show 0 ≤ v by omega)
       subst hv
       have hvl : v' < d.acids.length := by omega
       unfold s_17_j1
       simp only [cond_false, p_68 hn hs, p_69 hn hs, p_25 hn hs, Option.bind_some, hok, hsz, Bool.and_self, cond_true, decide_true, Bool.not_true]
       rcases err_of_ok hok with he | he
       ·have hne := (err_zero he).2.2
        simp only [he, decide_true, Bool.not_true, cond_false, cond_true]
        have ask : ∀ (K : Int → Option Bool) (i : Int), s_17_j12 1000 K d tr (v' : Int) (intL (idx d), 0) (lst (hrs d) (hull d (idx d)), 0) i false = some true := by
         intro K i
         have hshl : shl .i64 1 (IntKind.u64.wrap (v' : Int)) = some (2 ^ v') := by
          have e0 : IntKind.u64.wrap (v' : Int) = (v' : Int) := by
           have : v' < 4 := by omega
           rcases v' with _ | _ | _ | _ | v' <;> first | rfl | omega
          rw [e0]
          have hpv := pow_bound (i := v') (by omega)
          unfold shl
          rw [show decide ((0 : Int) ≤ (v' : Int)) = true from decide_eq_true (by omega), cond_true]
          have hm : min ((v' : Nat) : Int).toNat IntKind.i64.bits = v' := by
           show min v' 64 = v'
           omega
          rw [hm, Int.one_mul]
          exact congrArg some (wr_of (by omega))
         have hdo := oneD_ok hd hvl
         have hso : Short (oneD d v') := ⟨hs.a, hs.b, hs.c, hs.e⟩
         have hio := oneD_idx hd hvl
         unfold s_17_j12
         rw [cond_false, hshl, Option.bind_some]
         have e25 := p_25 (n := 1000) (d := oneD d v') hn hso
         show ((s_25 1000 (oneD d v')).bind _) = _
         rw [e25, Option.bind_some, p_71 1000 hn _ (by rw [intL_len]; omega), any_intL, Option.bind_some, p_72 hn (by omega) (by omega) (by omega)]
         by_cases hv : v' ∈ idx d
         ·obtain ⟨m1, m2⟩ := idx_mem hv
          have m3 := m2
          unfold PossI at m3
          simp only [Bool.and_eq_true, decide_eq_true_eq] at m3
          rw [if_pos m3.2] at hio
          have heo : err (oneD d v') true = 0 := by unfold err; rw [okD_iff.2 hdo, hio]; rfl
          rw [decide_eq_true hv, Bool.not_true, cond_false, Option.bind_some, m3.1, Bool.not_true, heo]
          simp only [decide_true, cond_true]
          have hl : lst (hrs (oneD d v')) (hull (oneD d v') (idx (oneD d v'))) = lst (hrs d) (bdAt d v') := by
           refine lst_congr (fun h _ => ?_)
           rw [hio]
           exact upd_self _
          rw [hl]
          unfold s_17_j15
          rw [cond_false]
          simp only [decide_true, Bool.not_true, cond_false]
          rw [p_70 hn hd _ (fun h hh => bdAt_pos hd hv hh), Option.bind_some]
          unfold s_17_j16
          simp only [Bool.not_true, cond_false]
          rw [p_73 hn (by omega), Option.bind_some, p_68 hn hs, Option.bind_some, p_73 hn (by omega), Option.bind_some, p_68 hn hs, Option.bind_some]
          obtain ⟨a1, a2⟩ := ends_fit hd hv false
          obtain ⟨b1, b2⟩ := ends_fit hd hv true
          simp only [cond_true, cond_false] at a1 a2 b1 b2 ⊢
          simp only [hok, a1, a2, b1, b2, Bool.and_self, cond_true, decide_true, p_24, Option.bind_some]
         ·rw [decide_eq_false hv, Bool.not_false, cond_true]
          unfold s_17_j15
          simp only [cond_true, p_71 1000 hn _ (show (intL (idx d)).length ≤ 50 by rw [intL_len]; omega), any_intL, decide_eq_false hv, Bool.not_false, Option.bind_some]
          by_cases hp : Poss d.adds d.strips (acidAt d v') (hrs d)
          ·have hb : hasB d.known v' = false := by
            cases hb : hasB d.known v' with
            | false => rfl
            | true =>
             exfalso
             refine hv ?_
             unfold idx
             rw [List.mem_filter, List.mem_range]
             refine ⟨hvl, ?_⟩
             unfold PossI
             rw [hb, decide_eq_true hp]; rfl
           rw [if_pos hp] at hio
           have heo : err (oneD d v') true = 0 := by unfold err; rw [okD_iff.2 hdo, hio]; rfl
           rw [heo]
           simp only [decide_true, cond_true, Bool.not_true, cond_false]
           rw [p_72 hn (by omega) (by omega) (by omega), hb, Option.bind_some, Bool.not_false, cond_true, p_24, Option.bind_some]
          ·rw [if_neg hp] at hio
           have heo : err (oneD d v') true = 7 := by unfold err; rw [okD_iff.2 hdo, hio]; rfl
           rw [heo]
           simp only [show decide ((7 : Int) = 0) = false from rfl, cond_false, Bool.not_false, cond_true, p_24, Option.bind_some]
        unfold s_17_j2
        simp only [cond_false, decide_true, Bool.not_true]
        rw [decide_eq_false (show ¬ (((d.acids.length : Nat) : Int) < (((intL (idx d)).length : Nat) : Int)) by
         rw [intL_len]
         have h1 := List.length_filter_le (PossI d) (List.range d.acids.length)
         rw [List.length_range] at h1
         unfold idx
         omega), cond_false, p_70 hn hd _ (fun h hh => hull_ok hd hne hh), Option.bind_some]
        unfold s_17_j3
        simp only [Bool.not_true, cond_false]
        cases hf : fitB d tr with
        | false =>
         simp only [cond_false]
         unfold s_17_j4
         rw [cond_false, s_17_l5]
         simp only [ask]
         cases decide ((0 : Int) < (((lst (hrs d) (hull d (idx d))).length : Nat) : Int)) <;> rfl
        | true =>
         have hi := fit_idx hd hsz hf
         obtain ⟨⟨q1, q2⟩, q3⟩ := (sized_iff hd).1 hsz
         have hac : tr.acid = ((tr.acid.toNat : Nat) : Int) := by omega
         have e71 := p_71 1000 hn (intL (idx d)) (by rw [intL_len]; omega) tr.acid
         rw [hac, any_intL, decide_eq_true hi, ← hac] at e71
         rw [cond_true, e71, Option.bind_some, Bool.not_true]
         unfold s_17_j4
         rw [cond_false, loop_all (lst (hrs d) (hull d (idx d))) (s_17_l5 1000 d tr (v' : Int) (true, 0) (intL (idx d), 0) (lst (hrs d) (hull d (idx d)), 0)) (fun _ => true) (some true) (fun k i => ?_) (by rw [lst_length]; omega) (by rw [lst_length]; omega)]
         ·rw [List.all_eq_true.2 (fun _ _ => rfl), cond_true]
         ·rw [s_17_l5]
          simp only [ask, lst_length]
          by_cases hih : i < hrs d
          ·have hmem : (hull d (idx d) i).mem (stren tr i) := hull_in (i := tr.acid.toNat) _ _ (.inr ⟨hi, fit_bd hd hsz hf hih⟩)
           unfold Span.mem at hmem
           unfold s_17_j12
           simp only [cond_true, stren_at (tr := tr) (h := i) (by omega), ix_at (lst_get (c := hull d (idx d)) hih), Option.bind_some, s_17_j14]
           rw [decide_eq_false (show ¬ (stren tr i < (hull d (idx d) i).low) by omega), decide_eq_false (show ¬ ((hull d (idx d) i).high < stren tr i) by omega)]
           simp only [cond_false]
          ·have e1 : decide ((i : Int) < ((hrs d : Nat) : Int)) = false := decide_eq_false (by omega)
           rw [e1, cond_false, cond_false]
       ·have hf : fitB d tr = false := by
         cases hf : fitB d tr with
         | false => rfl
         | true => have := idx_err hok (fit_idx hd hsz hf); omega
        simp only [he, hf, show decide ((7 : Int) = 0) = false from rfl, decide_true, Bool.not_true, Bool.not_false, cond_false, cond_true]
        unfold s_17_j2
        simp only [cond_false, show decide ((7 : Int) = 0) = false from rfl, Bool.not_false, cond_true, p_24, Option.bind_some]
end
end Go.Proofs.YtohmhlkdgfcaeaaGreatDoor
namespace Go.Proofs.YtohmhlkdgfcaeaaGreatDoor
open Go Go.RowKit
section
variable {α : Type} (lt : α → α → Bool)
def least : α → List α → α
 | x, [] => x
 | x, y :: r => least (bif lt y x then y else x) r
end
end Go.Proofs.YtohmhlkdgfcaeaaGreatDoor
namespace Go.Proofs.YtohmhlkdgfcaeaaGreatDoor
open Go Go.RowKit
def rn : Int → List Int → Int
 | c, [] => c
 | c, x :: r => rn (max c (x + 1)) r
def rgB : Int → List Int → Bool
 | _, [] => true
 | c, x :: r => decide (x ≤ c) && rgB (max c (x + 1)) r
theorem rgB_app : ∀ (l : List Int) (c x : Int), rgB c (l ++ [x]) = (rgB c l && decide (x ≤ rn c l)) := by
 intro l
 induction l with
 | nil =>
  intro c x
  show (decide (x ≤ c) && true) = (true && decide (x ≤ c))
  rw [Bool.and_true, Bool.true_and]
 | cons y r ih => intro c x; rw [List.cons_append, rgB, ih, rgB, rn, Bool.and_assoc]
end Go.Proofs.YtohmhlkdgfcaeaaGreatDoor
namespace Go.Proofs.YtohmhlkdgfcaeaaGreatDoor
open Go Go.RowKit
structure Way (l : List Int) : Prop where
 rg : rgB 0 l = true
 nn : ∀ x ∈ l, 0 ≤ x
theorem Way.nil : Way [] := ⟨rfl, by simp⟩
theorem Way.step {l : List Int} (h : Way l) {x : Nat} (hx : (x : Int) ≤ rn 0 l) : Way (l ++ [(x : Int)]) :=
 ⟨by rw [rgB_app, h.rg, decide_eq_true hx]; rfl, fun y hy => by
  rcases List.mem_append.1 hy with hy | hy
  ·exact h.nn y hy
  ·obtain rfl := List.mem_singleton.1 hy; omega⟩
end Go.Proofs.YtohmhlkdgfcaeaaGreatDoor
namespace Go.Proofs.YtohmhlkdgfcaeaaGreatDoor
open Go Go.RowKit Go.ChangeShapes Go.WideShapes
set_option maxRecDepth 100000
theorem drumTrue_lifted (os : Os) (started : os.Started) (H : Type) (enc : TypeId × Value → H) :
  ReturnsInHanded {} Tryz.checked os 17 .any (fun w args => (Rows.drumTrueSpec.pre enc Tryz.prog Tryz.f17 [] false w args ∧ laidMetH Tryz.prog Rows.drumTrueRow.laid w) ∧ sizedMet enc Tryz.prog Tryz.f17 (OpenSpec.ofChange Rows.drumTrueSpec) false w args)
   (Rows.drumTrueSpec.post enc Tryz.prog Tryz.f17 false true false false) :=
 law_row (s := Rows.drumTrueSpec) (enc := enc) started #[.agg #[.slice none 0 0, .int .i64 0, .int .i64 0, .slice none 0 0, .slice none 0 0, .slice none 0 0], .agg #[.int .i64 0, .slice none 0 0], .int .i64 0] (by kernel_rfl) Tryz.func17 (by kernel_rfl) (by kernel_rfl) (by kernel_rfl) rfl
   (by
    rw [Tryz.params17]
    have h : ∀ t ∈ ([27, 54, 3] : List Nat), t ∈ [3, 9, 23, 27, 54, 92] := by decide
    exact fun t ht => parT t (h t ht)) rfl
   (by
    rw [Tryz.params17]
    intro ds h
    match ds, h with
    | [d0, d1, d2], _ => rfl)
   (by
    rw [Tryz.params17]
    intro W base args ds p hval hA
    obtain ⟨args⟩ := args
    obtain ⟨v0, vs0, d0, ds0, p0, q0, e0, rfl, rfl, h0, r0⟩ := trodAll_cons hA
    have e0 : args = _ := e0; subst e0
    obtain ⟨v1, vs1, d1, ds1, p1, q1, e1, rfl, rfl, h1, r1⟩ := trodAll_cons r0
    subst e1
    obtain ⟨v2, vs2, d2, ds2, p2, q2, e2, rfl, rfl, h2, r2⟩ := trodAll_cons r1
    subst e2
    obtain ⟨rfl, rfl, rfl⟩ := trodAll_nil r2
    obtain ⟨x0, z0⟩ := rd_drum (hval 0 27 v0 rfl rfl) h0
    obtain ⟨x1, z1⟩ := rd_truth (hval 1 54 v1 rfl rfl) h1
    obtain ⟨x2, z2⟩ := rd_int (hval 2 3 v2 rfl rfl)
    refine ⟨rfl, [.agg (cDrum x0), .agg (cTruth x1), .i x2], ⟨rfl, ?_⟩, c_17 1000 x0 x1 x2 (law_17 x0 x1 x2)⟩
    intro j c u hc hu
    match j, hc, hu with
    | 0, hc, hu => cases hc; cases hu; exact z0
    | 1, hc, hu => cases hc; cases hu; exact z1
    | 2, hc, hu => cases hc; cases hu; exact z2)
theorem drumTrue_facts : factsA Tryz.prog Tryz.f17 Rows.drumTrueSpec Rows.drumTrueRow = true := by kernel_rfl
theorem drumTrue_road0 : (Rows.drumTrueRow.inPlace == Tryz.prog.inPlace 17) = true := by kernel_rfl
theorem drumTrue_road1 : (Rows.drumTrueRow.unfollowed == Tryz.prog.unfollowed 17) = true := by kernel_rfl
theorem drumTrue_road2 : (Rows.drumTrueRow.recurses == Tryz.prog.recurses 17) = true := by kernel_rfl
theorem drumTrue_road3 : (Rows.drumTrueRow.named == Tryz.prog.varsNamed 17) = true := by kernel_rfl
theorem drumTrue_row : Rows.DrumTrueSaid :=
 OpenClaim.holds_of_wide 17 Tryz.f17 rfl rfl rfl rfl rfl rfl rfl ⟨rfl, rfl, rfl, rfl, rfl⟩ rfl rfl rfl rfl rfl (by as_aux_lemma => kernel_rfl) Tryz.func17 (joined_of drumTrue_facts drumTrue_road0 drumTrue_road1 drumTrue_road2 drumTrue_road3)
  (of_decide_eq_true (by as_aux_lemma => kernel_rfl)) (by unfold Func.isWrapper; rw [if_neg (of_decide_eq_false (by as_aux_lemma => kernel_rfl))]; exact ⟨rfl, rfl⟩)
  (fun os started H enc _ => drumTrue_lifted os started H enc)
theorem drumTrue_card : Rows.DrumTrueCardSaid :=
 Claim7.holds_tied_plain_at .later [] [.data, .data, .data, .data, .pinned] true (true, "263524fd91af563947b647e8709e73ef988cdef21cccd4074f632dc410392126") true drumTrue_row (fun _ h => by cases h) (by as_aux_lemma => kernel_rfl) (fun _ h => by cases h) drumTrue_row_tie rfl ⟨rfl, rfl⟩ mainK rfl
  (fun f fn hf hfn => by
   obtain rfl : f = 17 := Option.some.inj ((show Tryz.prog.funcNamed "nacre/nacrelaw03.DrumTrue" = some 17 by as_aux_lemma => kernel_rfl).symm.trans hf) |>.symm
   obtain rfl : fn = Tryz.f17 := (Option.some.inj (Tryz.func17.symm.trans hfn)).symm
   exact ⟨looksK, fun j t ht => by
    rw [Tryz.params17] at ht
    have hm : t ∈ [27, 54, 3] := by simpa using Array.mem_of_getElem? ht
    have h : ∀ t ∈ ([27, 54, 3] : List Nat), t ∈ [3, 9, 23, 27, 54, 92] := by decide
    exact standK t (h t hm)⟩)
  (by as_aux_lemma => kernel_rfl)
#print axioms drumTrue_card
end Go.Proofs.YtohmhlkdgfcaeaaGreatDoor
