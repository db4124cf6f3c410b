/- DrumEmptied: after each hour of the window all batches are smooth and thick enough, whatever is true; after each other hour some batch is not known to be. For every input that can be read as data, the tables of Go's library being as their text lays them: the call returns true, and each argument reads behind it as before. -/
import Derived.Test.YtohmhlkdgfcaeaaGreatDoorTie
import Derived.Test.YtohmhlkdgfcaeaaGreatDoorCards
import Derived.Test.YtohmhlkdgfcaeaaGreatDoorX8a
set_option linter.unusedVariables false
set_option linter.unusedSimpArgs false
namespace Go.Proofs.YtohmhlkdgfcaeaaGreatDoor
open Go Go.RowKit
set_option maxRecDepth 4000
attribute [local irreducible] W Ops GS GSG
def s_8_j16 (K4 : Bool → Int → Option (Bool)) (v109 : ((List Bounds) × Int)) (v118 : Bool) (v119 : Int) (v126 : Batch) (v129 : Bool) : Option (Bool) := bif v129 then ( some (false) ) else ( bif v118 then ( (ix v109.1 v119).bind fun v130 => bif (decide (v130.rough.high ≤ v126.goal)) then ( (ix v109.1 v119).bind fun v131 => K4 (decide (v126.least ≤ v131.thick.low)) (wr (v119 + 1)) ) else (
 K4 false (wr (v119 + 1)) ) ) else ( K4 false (wr (v119 + 1)) ) )
def s_8_l4 (n : Nat) (v0 : Drum) (v108 : ((List State) × Int)) (v109 : ((List Bounds) × Int)) (v111 : Bool) : Nat → Bool → Int → Option (Bool)
| 0, _, _ => none
| k4 + 1, v118, v119 => bif (decide (v119 < (v108.1.length : Int))) then ( (ix v0.batches v119).bind fun v126 => bif v111 then ( (ix v108.1 v119).bind fun v127 => bif (decide (v126.goal < v127.rough)) then ( s_8_j16 (s_8_l4 n v0 v108 v109 v111 k4) v109 v118 v119 v126 true ) else ( (ix v108.1 v119).bind fun v128 =>
 s_8_j16 (s_8_l4 n v0 v108 v109 v111 k4) v109 v118 v119 v126 (decide (v128.thick < v126.least)) ) ) else ( s_8_j16 (s_8_l4 n v0 v108 v109 v111 k4) v109 v118 v119 v126 false ) ) else ( bif (v118 == v111) then ( (s_24 n ).bind fun v132 => some (v132) ) else ( some (false) ) )
def s_8_j3 (n : Nat) (v0 : Drum) (v108 : ((List State) × Int)) (v109 : ((List Bounds) × Int)) (v111 : Bool) : Option (Bool) := s_8_l4 n v0 v108 v109 v111 n true 0
def s_8_j2 (n : Nat) (v0 : Drum) (v2 : Int) (v107 : (Span × Int)) (v108 : ((List State) × Int)) (v109 : ((List Bounds) × Int)) (v110 : Bool) : Option (Bool) := bif v110 then ( some (false) ) else ( bif (decide (v107.2 = 0)) then ( bif (decide (v107.1.low ≤ v2)) then ( s_8_j3 n v0 v108 v109 (decide (v2 ≤ v107.1.high)) ) else ( s_8_j3 n v0 v108 v109 false ) ) else ( s_8_j3 n v0 v108 v109 false ) )
def s_8_j1 (n : Nat) (v0 : Drum) (v1 : Truth) (v2 : Int) (v105 : Bool) : Option (Bool) := bif v105 then ( (s_24 n ).bind fun v106 => some (v106) ) else ( (s_46 n v0).bind fun v107 => (s_47 n v0 v1 v2).bind fun v108 => (s_48 n v0 v2).bind fun v109 => bif (!decide (v108.2 = 0)) then ( s_8_j2 n v0 v2 v107 v108 v109 true ) else ( bif (!decide (v109.2 = 0)) then ( s_8_j2 n v0 v2 v107 v108 v109 true
 ) else ( bif (!decide ((v108.1.length : Int) = (v0.batches.length : Int))) then ( s_8_j2 n v0 v2 v107 v108 v109 true ) else ( bif (!decide ((v109.1.length : Int) = (v108.1.length : Int))) then ( s_8_j2 n v0 v2 v107 v108 v109 true ) else ( bif (!decide (v107.2 = 0)) then ( s_8_j2 n v0 v2 v107 v108 v109 (!decide (v107.2 = 5)) ) else (
 s_8_j2 n v0 v2 v107 v108 v109 false ) ) ) ) ) )
def s_8 (n : Nat) (v0 : Drum) (v1 : Truth) (v2 : Int) : Option (Bool) := (s_23 n v0).bind fun v101 => bif (!v101) then ( s_8_j1 n v0 v1 v2 true ) else ( bif (decide (15 < (v1.strength.length : Int))) then ( s_8_j1 n v0 v1 v2 true ) else ( (s_39 n v0).bind fun v102 => bif (!v102) then ( s_8_j1 n v0 v1 v2 true ) else ( (s_44 n v0 v1).bind fun v103 => bif (!v103) then (
 s_8_j1 n v0 v1 v2 true ) else ( (s_45 n v0 v1).bind fun v104 => bif (!v104) then ( s_8_j1 n v0 v1 v2 true ) else ( bif (decide (v2 < 0)) then ( s_8_j1 n v0 v1 v2 true ) else ( s_8_j1 n v0 v1 v2 (decide (v0.hours < v2)) ) ) ) ) ) )
theorem c_8 (n : Nat) (v0 : Drum) (v1 : Truth) (v2 : Int) {r : (Bool)} (h : s_8 n v0 v1 v2 = some r) :
  Fun Tryz.prog 8 [.agg (cDrum v0), .agg (cTruth v1), .val (.int .i64 v2)] (.ret (.b r)) := by
 unfold s_8 at h
 refine enterW 176 Tryz.func8 q q q ?_
 intro w0 F0
 change W _ _ (Ev [(0, .pv (.agg (cDrum v0))), (1, .pv (.agg (cTruth v1))), (2, .pv (.i v2))]) _
 refine W.seq<|W.region<|ob (g_box q q q q q) q q<|ob (g_box q q q q q) q q<|va q q q q q<|on0<|Sq.n<|W.seq<|W.seqJ (σ := Bool) (fun s => (⟨[(2, .pv (.i v2)), (3, .box 3 0), (4, .box 4 0), (52, .pv (.b s))], [(3, 27, [.pv (.sl (List.map cAcid v0.acids)), .pv (.i v0.known), .pv (.i v0.hours), .pv (.sl (List.map eI v0.adds)), .pv (.sl (List.map cStrip v0.strips)), .pv (.sl (List.map cBatch v0.batches))]), (4, 54, [.pv (.i v1.acid), .pv (.sl (List.map eI v1.strength))])], []⟩ : Env)) (fun s => s_8_j1 n v0 v1 v2 s = some r) ?_ ?_
 ·refine W.region<|ov (g_loadA q q q q q ag_27 sz_27 q q) q ?_
  obtain ⟨v101, e101, h⟩ := bind_some h
  refine ov (g_call q q q ca_23 q (c_23 _ _ e101)) q<|ov (g_not q q q q) q<|vm q q q q q<|Ops.split 20 q (fun hb => ?_) (fun hb => ?_)
  ·have h := bif_t h hb
   refine o2 q q q q q q<|o2 q q q q q q<|o2 q q q q q q<|o2 q q q q q q<|vt q q q q q q<|vm q q q q q<|o2 q q q q q q<|o2 q q q q q q<|o2 q q q q q q<|vt q q q q q q<|vm q q q q q<|o2 q q q q q q<|o2 q q q q q q<|o2 q q q q q q<|o2 q q q q q q<|vt q q q q q q<|vm q q q q q<|o2 q q q q q q<|o2 q q q q q q<|o2 q q q q q q<|o2 q q q q q q<|vt q q q q q q<|vm q q q q q<|o2 q q q q q q<|o2 q q q q q q<|vt q q q q q q<|vm q q q q q<|o2 q q q q q q<|o2 q q q q q q<|o2 q q q q q q<|o2 q q q q q q<|vt q q q q q q<|on0<|Sq.n<|⟨true, h, has_mk ⟨q, q, q, q, trivial⟩ ⟨q, q, trivial⟩ trivial q⟩
  ·have h := bif_f h hb
   refine on q q q<|ov (g_fld q q q q fl_54_1) q<|on q q q<|ov (g_load1 q q q q q q ag_23) q<|on q q q<|ov (g_lenM (l := v1.strength) (enc := eI) q ul_23 q q q) q<|on q q q<|ov (g_gtr q q q q q) q<|vf q q q q q q<|vm q q q q q<|Ops.split 26 q (fun hb => ?_) (fun hb => ?_)
   ·have h := bif_t h hb
    refine o2 q q q q q q<|o2 q q q q q q<|o2 q q q q q q<|vt q q q q q q<|vm q q q q q<|o2 q q q q q q<|o2 q q q q q q<|o2 q q q q q q<|o2 q q q q q q<|vt q q q q q q<|vm q q q q q<|o2 q q q q q q<|o2 q q q q q q<|o2 q q q q q q<|o2 q q q q q q<|vt q q q q q q<|vm q q q q q<|o2 q q q q q q<|o2 q q q q q q<|vt q q q q q q<|vm q q q q q<|o2 q q q q q q<|o2 q q q q q q<|o2 q q q q q q<|o2 q q q q q q<|vt q q q q q q<|on0<|Sq.n<|⟨true, h, has_mk ⟨q, q, q, q, trivial⟩ ⟨q, q, trivial⟩ trivial q⟩
   ·have h := bif_f h hb
    refine on q q q<|ov (g_loadA q q q q q ag_27 sz_27 q q) q<|on q q q ?_
    obtain ⟨v102, e102, h⟩ := bind_some h
    refine ov (g_call q q q ca_39 q (c_39 _ _ e102)) q<|on q q q<|ov (g_not q q q q) q<|vf q q q q q q<|vm q q q q q<|Ops.split 31 q (fun hb => ?_) (fun hb => ?_)
    ·have h := bif_t h hb
     refine o2 q q q q q q<|o2 q q q q q q<|o2 q q q q q q<|o2 q q q q q q<|vt q q q q q q<|vm q q q q q<|o2 q q q q q q<|o2 q q q q q q<|o2 q q q q q q<|o2 q q q q q q<|vt q q q q q q<|vm q q q q q<|o2 q q q q q q<|o2 q q q q q q<|vt q q q q q q<|vm q q q q q<|o2 q q q q q q<|o2 q q q q q q<|o2 q q q q q q<|o2 q q q q q q<|vt q q q q q q<|on0<|Sq.n<|⟨true, h, has_mk ⟨q, q, q, q, trivial⟩ ⟨q, q, trivial⟩ trivial q⟩
    ·have h := bif_f h hb
     refine on q q q<|ov (g_loadA q q q q q ag_27 sz_27 q q) q<|on q q q<|ov (g_loadA q q q q q ag_54 sz_54 q q) q<|on q q q ?_
     obtain ⟨v103, e103, h⟩ := bind_some h
     refine ov (g_call q q q ca_44 q (c_44 _ _ _ e103)) q<|on q q q<|ov (g_not q q q q) q<|vf q q q q q q<|vm q q q q q<|Ops.split 37 q (fun hb => ?_) (fun hb => ?_)
     ·have h := bif_t h hb
      refine o2 q q q q q q<|o2 q q q q q q<|o2 q q q q q q<|o2 q q q q q q<|vt q q q q q q<|vm q q q q q<|o2 q q q q q q<|o2 q q q q q q<|vt q q q q q q<|vm q q q q q<|o2 q q q q q q<|o2 q q q q q q<|o2 q q q q q q<|o2 q q q q q q<|vt q q q q q q<|on0<|Sq.n<|⟨true, h, has_mk ⟨q, q, q, q, trivial⟩ ⟨q, q, trivial⟩ trivial q⟩
     ·have h := bif_f h hb
      refine on q q q<|ov (g_loadA q q q q q ag_27 sz_27 q q) q<|on q q q<|ov (g_loadA q q q q q ag_54 sz_54 q q) q<|on q q q ?_
      obtain ⟨v104, e104, h⟩ := bind_some h
      refine ov (g_call q q q ca_45 q (c_45 _ _ _ e104)) q<|on q q q<|ov (g_not q q q q) q<|vf q q q q q q<|vm q q q q q<|Ops.split 43 q (fun hb => ?_) (fun hb => ?_)
      ·have h := bif_t h hb
       refine o2 q q q q q q<|o2 q q q q q q<|vt q q q q q q<|vm q q q q q<|o2 q q q q q q<|o2 q q q q q q<|o2 q q q q q q<|o2 q q q q q q<|vt q q q q q q<|on0<|Sq.n<|⟨true, h, has_mk ⟨q, q, q, q, trivial⟩ ⟨q, q, trivial⟩ trivial q⟩
      ·have h := bif_f h hb
       refine on q q q<|vm q q q q q<|on q q q<|ov (g_lss q q q q q) q<|vf q q q q q q<|vm q q q q q<|Ops.split 47 q (fun hb => ?_) (fun hb => ?_)
       ·have h := bif_t h hb
        refine o2 q q q q q q<|o2 q q q q q q<|o2 q q q q q q<|o2 q q q q q q<|vt q q q q q q<|on0<|Sq.n<|⟨true, h, has_mk ⟨q, q, q, q, trivial⟩ ⟨q, q, trivial⟩ trivial q⟩
       ·have h := bif_f h hb
        refine on q q q<|vm q q q q q<|on q q q<|ov (g_fld q q q q fl_27_2) q<|on q q q<|ov (g_load1 q q q q q q ag_3) q<|on q q q<|ov (g_gtr q q q q q) q<|vf q q q q q q<|on0<|Sq.n<|⟨(decide (v0.hours < v2)), h, has_mk ⟨q, q, q, q, trivial⟩ ⟨q, q, trivial⟩ trivial q⟩
 ·rintro v105 h
  change s_8_j1 n v0 v1 v2 v105 = some r at h
  unfold s_8_j1 at h
  change W _ _ (⟨[(2, .pv (.i v2)), (3, .box 3 0), (4, .box 4 0), (52, .pv (.b v105))], [(3, 27, [.pv (.sl (List.map cAcid v0.acids)), .pv (.i v0.known), .pv (.i v0.hours), .pv (.sl (List.map eI v0.adds)), .pv (.sl (List.map cStrip v0.strips)), .pv (.sl (List.map cBatch v0.batches))]), (4, 54, [.pv (.i v1.acid), .pv (.sl (List.map eI v1.strength))])], []⟩ : Env) _
  refine W.cond (b := v105) q (fun hc => ?_) (fun hc => ?_)
  ·have h := bif_t h hc
   refine W.seq<|W.region ?_
   obtain ⟨v106, e106, h⟩ := bind_some h
   refine ov (g_call q q q ca_24 q (c_24 _  e106)) q<|va q q q q q<|on0<|Sq.n<|W.ret<|Sq.r ?_
   obtain rfl := Option.some.inj h
   exact Fin.r q (.cons (.tmp _ _ q) .nil) q
  ·have h := bif_f h hc
   refine W.skip<|Sq.n<|W.seq<|W.region<|ov (g_loadA q q q q q ag_27 sz_27 q q) q ?_
   obtain ⟨v107, e107, h⟩ := bind_some h
   refine ov (g_call q q q ca_46 q (c_46 _ _ e107)) q<|vm q q q q q<|ov (g_extract q q q q q) q<|ov (g_extract q q q q q) q<|ob (g_alloc q q q zr_57) q q<|Ops.step q (s_storeB q q q q q q sz_57 q q)<|va q q q q q<|on0<|Sq.n<|W.seq<|W.region<|ov (g_loadA q q q q q ag_27 sz_27 q q) q<|ov (g_loadA q q q q q ag_54 sz_54 q q) q<|vm q q q q q ?_
   obtain ⟨v108, e108, h⟩ := bind_some h
   refine ov (g_call q q q ca_47 q (c_47 _ _ _ _ e108)) q<|vm q q q q q<|ov (g_extract q q q q q) q<|ov (g_extract q q q q q) q<|va q q q q q<|va q q q q q<|on0<|Sq.n<|W.seq<|W.region<|ov (g_loadA q q q q q ag_27 sz_27 q q) q<|vm q q q q q ?_
   obtain ⟨v109, e109, h⟩ := bind_some h
   refine ov (g_call q q q ca_48 q (c_48 _ _ _ e109)) q<|vm q q q q q<|ov (g_extract q q q q q) q<|ov (g_extract q q q q q) q<|va q q q q q<|va q q q q q<|on0<|Sq.n<|W.seq<|W.seqJ (σ := Bool) (fun s => (⟨[(2, .pv (.i v2)), (3, .box 3 0), (7, .box 7 0), (8, .pv (.i v107.2)), (9, .pv (.sl (List.map cState v108.1))), (11, .pv (.sl (List.map cBounds v109.1))), (100, .pv (.b s))], [(3, 27, [.pv (.sl (List.map cAcid v0.acids)), .pv (.i v0.known), .pv (.i v0.hours), .pv (.sl (List.map eI v0.adds)), .pv (.sl (List.map cStrip v0.strips)), .pv (.sl (List.map cBatch v0.batches))]), (7, 57, [.pv (.i v107.1.low), .pv (.i v107.1.high)])], []⟩ : Env)) (fun s => s_8_j2 n v0 v2 v107 v108 v109 s = some r) ?_ ?_
   ·refine W.region<|vm q q q q q<|ov (g_neq q q q q q) q<|vm q q q q q<|Ops.split 74 q (fun hb => ?_) (fun hb => ?_)
    ·have h := bif_t h hb
     refine o2 q q q q q q<|o2 q q q q q q<|vt q q q q q q<|vm q q q q q<|o2 q q q q q q<|o2 q q q q q q<|o2 q q q q q q<|o2 q q q q q q<|o2 q q q q q q<|o2 q q q q q q<|vt q q q q q q<|vm q q q q q<|o2 q q q q q q<|o2 q q q q q q<|o2 q q q q q q<|o2 q q q q q q<|o2 q q q q q q<|vt q q q q q q<|vm q q q q q<|o2 q q q q q q<|o2 q q q q q q<|o2 q q q q q q<|o2 q q q q q q<|o2 q q q q q q<|o2 q q q q q q<|vt q q q q q q<|on0<|Sq.n<|⟨true, h, has_mk ⟨q, q, q, q, q, q, q, trivial⟩ ⟨q, q, trivial⟩ trivial q⟩
    ·have h := bif_f h hb
     refine on q q q<|vm q q q q q<|on q q q<|ov (g_neq q q q q q) q<|vf q q q q q q<|vm q q q q q<|Ops.split 78 q (fun hb => ?_) (fun hb => ?_)
     ·have h := bif_t h hb
      refine o2 q q q q q q<|o2 q q q q q q<|o2 q q q q q q<|o2 q q q q q q<|o2 q q q q q q<|o2 q q q q q q<|vt q q q q q q<|vm q q q q q<|o2 q q q q q q<|o2 q q q q q q<|o2 q q q q q q<|o2 q q q q q q<|o2 q q q q q q<|vt q q q q q q<|vm q q q q q<|o2 q q q q q q<|o2 q q q q q q<|o2 q q q q q q<|o2 q q q q q q<|o2 q q q q q q<|o2 q q q q q q<|vt q q q q q q<|on0<|Sq.n<|⟨true, h, has_mk ⟨q, q, q, q, q, q, q, trivial⟩ ⟨q, q, trivial⟩ trivial q⟩
     ·have h := bif_f h hb
      refine on q q q<|vm q q q q q<|on q q q<|ov (g_lenM (l := v108.1) (enc := cState) q ul_60 q q q) q<|on q q q<|ov (g_fld q q q q fl_27_5) q<|on q q q<|ov (g_load1 q q q q q q ag_25) q<|on q q q<|ov (g_lenM (l := v0.batches) (enc := cBatch) q ul_25 q q q) q<|on q q q<|ov (g_neq q q q q q) q<|vf q q q q q q<|vm q q q q q<|Ops.split 86 q (fun hb => ?_) (fun hb => ?_)
      ·have h := bif_t h hb
       refine o2 q q q q q q<|o2 q q q q q q<|o2 q q q q q q<|o2 q q q q q q<|o2 q q q q q q<|vt q q q q q q<|vm q q q q q<|o2 q q q q q q<|o2 q q q q q q<|o2 q q q q q q<|o2 q q q q q q<|o2 q q q q q q<|o2 q q q q q q<|vt q q q q q q<|on0<|Sq.n<|⟨true, h, has_mk ⟨q, q, q, q, q, q, q, trivial⟩ ⟨q, q, trivial⟩ trivial q⟩
      ·have h := bif_f h hb
       refine on q q q<|vm q q q q q<|on q q q<|ov (g_lenM (l := v109.1) (enc := cBounds) q ul_63 q q q) q<|on q q q<|vm q q q q q<|on q q q<|ov (g_lenM (l := v108.1) (enc := cState) q ul_60 q q q) q<|on q q q<|ov (g_neq q q q q q) q<|vf q q q q q q<|vm q q q q q<|Ops.split 93 q (fun hb => ?_) (fun hb => ?_)
       ·have h := bif_t h hb
        refine o2 q q q q q q<|o2 q q q q q q<|o2 q q q q q q<|o2 q q q q q q<|o2 q q q q q q<|o2 q q q q q q<|vt q q q q q q<|on0<|Sq.n<|⟨true, h, has_mk ⟨q, q, q, q, q, q, q, trivial⟩ ⟨q, q, trivial⟩ trivial q⟩
       ·have h := bif_f h hb
        refine on q q q<|vm q q q q q<|on q q q<|ov (g_neq q q q q q) q<|on q q q<|vm q q q q q<|Ops.split 96 q (fun hb => ?_) (fun hb => ?_)
        ·have h := bif_t h hb
         refine on q q q<|vm q q q q q<|on q q q<|ov (g_neq q q q q q) q<|on q q q<|vt q q q q q q<|vf q q q q q q<|on0<|Sq.n<|⟨(!decide (v107.2 = 5)), h, has_mk ⟨q, q, q, q, q, q, q, trivial⟩ ⟨q, q, trivial⟩ trivial q⟩
        ·have h := bif_f h hb
         refine o2 q q q q q q<|o2 q q q q q q<|on q q q<|vf q q q q q q<|vf q q q q q q<|on0<|Sq.n<|⟨false, h, has_mk ⟨q, q, q, q, q, q, q, trivial⟩ ⟨q, q, trivial⟩ trivial q⟩
   ·rintro v110 h
    change s_8_j2 n v0 v2 v107 v108 v109 v110 = some r at h
    unfold s_8_j2 at h
    change W _ _ (⟨[(2, .pv (.i v2)), (3, .box 3 0), (7, .box 7 0), (8, .pv (.i v107.2)), (9, .pv (.sl (List.map cState v108.1))), (11, .pv (.sl (List.map cBounds v109.1))), (100, .pv (.b v110))], [(3, 27, [.pv (.sl (List.map cAcid v0.acids)), .pv (.i v0.known), .pv (.i v0.hours), .pv (.sl (List.map eI v0.adds)), .pv (.sl (List.map cStrip v0.strips)), .pv (.sl (List.map cBatch v0.batches))]), (7, 57, [.pv (.i v107.1.low), .pv (.i v107.1.high)])], []⟩ : Env) _
    refine W.cond (b := v110) q (fun hc => ?_) (fun hc => ?_)
    ·have h := bif_t h hc
     refine W.seq<|W.region<|va q q q q q<|on0<|Sq.n<|W.ret<|Sq.r ?_
     obtain rfl := Option.some.inj h
     exact Fin.r q (.cons (.tmp _ _ q) .nil) q
    ·have h := bif_f h hc
     refine W.skip<|Sq.n<|W.seqJ (σ := Bool) (fun s => (⟨[(3, .box 3 0), (9, .pv (.sl (List.map cState v108.1))), (11, .pv (.sl (List.map cBounds v109.1))), (13, .pv (.b s))], [(3, 27, [.pv (.sl (List.map cAcid v0.acids)), .pv (.i v0.known), .pv (.i v0.hours), .pv (.sl (List.map eI v0.adds)), .pv (.sl (List.map cStrip v0.strips)), .pv (.sl (List.map cBatch v0.batches))])], []⟩ : Env)) (fun s => s_8_j3 n v0 v108 v109 s = some r) ?_ ?_
     ·refine W.region<|vm q q q q q<|ov (g_eql q q q q q) q<|vm q q q q q<|Ops.split 103 q (fun hb => ?_) (fun hb => ?_)
      ·have h := bif_t h hb
       refine on q q q<|vm q q q q q<|on q q q<|ov (g_fld q q q q fl_57_0) q<|on q q q<|ov (g_load1 q q q q q q ag_3) q<|on q q q<|ov (g_geq q q q q q) q<|vt q q q q q q<|vm q q q q q<|Ops.split 109 q (fun hb => ?_) (fun hb => ?_)
       ·have h := bif_t h hb
        refine on q q q<|vm q q q q q<|on q q q<|ov (g_fld q q q q fl_57_1) q<|on q q q<|ov (g_load1 q q q q q q ag_3) q<|on q q q<|ov (g_leq q q q q q) q<|vt q q q q q q<|va q q q q q<|on0<|Sq.n<|⟨(decide (v2 ≤ v107.1.high)), h, has_mk ⟨q, q, q, q, trivial⟩ ⟨q, trivial⟩ trivial q⟩
       ·have h := bif_f h hb
        refine o2 q q q q q q<|o2 q q q q q q<|o2 q q q q q q<|o2 q q q q q q<|vf q q q q q q<|va q q q q q<|on0<|Sq.n<|⟨false, h, has_mk ⟨q, q, q, q, trivial⟩ ⟨q, trivial⟩ trivial q⟩
      ·have h := bif_f h hb
       refine o2 q q q q q q<|o2 q q q q q q<|o2 q q q q q q<|o2 q q q q q q<|vf q q q q q q<|vm q q q q q<|o2 q q q q q q<|o2 q q q q q q<|o2 q q q q q q<|o2 q q q q q q<|vf q q q q q q<|va q q q q q<|on0<|Sq.n<|⟨false, h, has_mk ⟨q, q, q, q, trivial⟩ ⟨q, trivial⟩ trivial q⟩
     ·rintro v111 h
      change s_8_j3 n v0 v108 v109 v111 = some r at h
      unfold s_8_j3 at h
      change W _ _ (⟨[(3, .box 3 0), (9, .pv (.sl (List.map cState v108.1))), (11, .pv (.sl (List.map cBounds v109.1))), (13, .pv (.b v111))], [(3, 27, [.pv (.sl (List.map cAcid v0.acids)), .pv (.i v0.known), .pv (.i v0.hours), .pv (.sl (List.map eI v0.adds)), .pv (.sl (List.map cStrip v0.strips)), .pv (.sl (List.map cBatch v0.batches))])], []⟩ : Env) _
      refine W.seq<|W.region<|va q q q q q<|on0<|Sq.n<|W.seq<|W.seq<|W.region<|va q q q q q<|on0<|Sq.n<|W.block<|W.loop (σ := Nat × Bool × Int) (fun s => (⟨[(3, .box 3 0), (9, .pv (.sl (List.map cState v108.1))), (11, .pv (.sl (List.map cBounds v109.1))), (13, .pv (.b v111)), (14, .pv (.b s.2.1)), (15, .pv (.i s.2.2))], [(3, 27, [.pv (.sl (List.map cAcid v0.acids)), .pv (.i v0.known), .pv (.i v0.hours), .pv (.sl (List.map eI v0.adds)), .pv (.sl (List.map cStrip v0.strips)), .pv (.sl (List.map cBatch v0.batches))])], []⟩ : Env)) (fun s => s_8_l4 n v0 v108 v109 v111 s.1 s.2.1 s.2.2 = some r) (fun s => s.1) (n, true, 0) h (has_mk ⟨q, q, q, q, q, q, trivial⟩ ⟨q, trivial⟩ trivial q) ?_
      rintro ⟨k4, v118, v119⟩ h
      change s_8_l4 n v0 v108 v109 v111 k4 v118 v119 = some r at h
      rcases k4 with _ | k4
      ·rw [s_8_l4] at h
       cases h
      ·rw [s_8_l4] at h
       change W _ _ (⟨[(3, .box 3 0), (9, .pv (.sl (List.map cState v108.1))), (11, .pv (.sl (List.map cBounds v109.1))), (13, .pv (.b v111)), (14, .pv (.b v118)), (15, .pv (.i v119))], [(3, 27, [.pv (.sl (List.map cAcid v0.acids)), .pv (.i v0.known), .pv (.i v0.hours), .pv (.sl (List.map eI v0.adds)), .pv (.sl (List.map cStrip v0.strips)), .pv (.sl (List.map cBatch v0.batches))])], []⟩ : Env) _
       refine W.seq<|W.seq<|W.region<|vm q q q q q<|vm q q q q q<|ov (g_lenM (l := v108.1) (enc := cState) q ul_60 q q q) q<|ov (g_lss q q q q q) q<|on0<|Sq.n<|W.cond (b := (decide (v119 < (v108.1.length : Int)))) q (fun hc => ?_) (fun hc => ?_)
       ·have h := bif_t h hc
        refine W.skip<|Sq.n<|W.seq<|W.block<|W.seq<|W.region<|ov (g_fld q q q q fl_27_5) q<|ov (g_load1 q q q q q q ag_25) q<|vm q q q q q ?_
        obtain ⟨v126, e126, h⟩ := bind_some h
        refine ov (g_idxI (l := v0.batches) (enc := cBatch) e126 q q q q q el_25 q) q<|ov (g_loadRA q q q q ag_67 sz_67 q q) q<|ob (g_alloc q q q zr_67) q q<|Ops.step q (s_storeB q q q q q q sz_67 q q)<|on0<|Sq.n<|W.seq<|W.seqJ (σ := Bool) (fun s => (⟨[(3, .box 3 0), (9, .pv (.sl (List.map cState v108.1))), (11, .pv (.sl (List.map cBounds v109.1))), (13, .pv (.b v111)), (14, .pv (.b v118)), (15, .pv (.i v119)), (16, .box 16 0), (146, .pv (.b s))], [(3, 27, [.pv (.sl (List.map cAcid v0.acids)), .pv (.i v0.known), .pv (.i v0.hours), .pv (.sl (List.map eI v0.adds)), .pv (.sl (List.map cStrip v0.strips)), .pv (.sl (List.map cBatch v0.batches))]), (16, 67, [.pv (.i v126.rough), .pv (.i v126.goal), .pv (.i v126.thick), .pv (.i v126.least), .pv (.i v126.polish), .pv (.i v126.eat)])], []⟩ : Env)) (fun s => s_8_j16 (s_8_l4 n v0 v108 v109 v111 k4) v109 v118 v119 v126 s = some r) ?_ ?_
        ·rcases Bool.eq_false_or_eq_true (v111) with hb14 | hb14
         ·have h := bif_t h hb14
          obtain ⟨v127, e127, h⟩ := bind_some h
          rcases Bool.eq_false_or_eq_true ((decide (v126.goal < v127.rough))) with hb15 | hb15
          ·have h := bif_t h hb15
           refine W.draw (m := 18) Checked.mixed (Pre.v (GSG.of q (g_move q q q q)) ((Pre.v (GSG.as (GSG.of q (g_move q q q q)) (congrArg (fun b => TV.pv (PV.b b)) hb14)) ((Pre.v (GSG.on q q q (g_move q q q q)) ((Pre.v (GSG.on q q q (g_move q q q q)) ((Pre.v (GSG.on q q q (g_idxI (l := v108.1) (enc := cState) e127 q q q q q el_60 q)) ((Pre.v (GSG.on q q q (g_fldR q q q q fl_69_0 q)) ((Pre.v (GSG.on q q q (g_loadR1 q q q q q ag_3)) ((Pre.v (GSG.on q q q (g_fld q q q q fl_67_1)) ((Pre.v (GSG.on q q q (g_load1 q q q q q q ag_3)) ((Pre.v (GSG.on q q q (g_gtr q q q q q)) ((Pre.v (GSG.as (GSG.on q q q (g_move q q q q)) (congrArg (fun b => TV.pv (PV.b b)) hb15)) ((Pre.v (GSG.off2 q q q q q q) ((Pre.v (GSG.off2 q q q q q q) ((Pre.v (GSG.off2 q q q q q q) ((Pre.v (GSG.off2 q q q q q q) ((Pre.v (GSG.off2 q q q q q q) ((Pre.v (GSG.off2 q q q q q q) ((Pre.v (GSG.off2 q q q q q q) (Pre.nil _)))))))))))))))))))))))))))))))))))) (by kernel_rfl)<|o2 q q q q q q<|on q q q<|vt q q q q q q<|vt q q q q q q<|on0<|Sq.n<|⟨true, h, has_mk ⟨q, q, q, q, q, q, q, q, trivial⟩ ⟨q, q, trivial⟩ trivial q⟩
          ·have h := bif_f h hb15
           obtain ⟨v128, e128, h⟩ := bind_some h
           refine W.draw (m := 18) Checked.mixed (Pre.v (GSG.of q (g_move q q q q)) ((Pre.v (GSG.as (GSG.of q (g_move q q q q)) (congrArg (fun b => TV.pv (PV.b b)) hb14)) ((Pre.v (GSG.on q q q (g_move q q q q)) ((Pre.v (GSG.on q q q (g_move q q q q)) ((Pre.v (GSG.on q q q (g_idxI (l := v108.1) (enc := cState) e127 q q q q q el_60 q)) ((Pre.v (GSG.on q q q (g_fldR q q q q fl_69_0 q)) ((Pre.v (GSG.on q q q (g_loadR1 q q q q q ag_3)) ((Pre.v (GSG.on q q q (g_fld q q q q fl_67_1)) ((Pre.v (GSG.on q q q (g_load1 q q q q q q ag_3)) ((Pre.v (GSG.on q q q (g_gtr q q q q q)) ((Pre.v (GSG.as (GSG.on q q q (g_move q q q q)) (congrArg (fun b => TV.pv (PV.b b)) hb15)) ((Pre.v (GSG.on q q q (g_move q q q q)) ((Pre.v (GSG.on q q q (g_move q q q q)) ((Pre.v (GSG.on q q q (g_idxI (l := v108.1) (enc := cState) e128 q q q q q el_60 q)) ((Pre.v (GSG.on q q q (g_fldR q q q q fl_69_1 q)) ((Pre.v (GSG.on q q q (g_loadR1 q q q q q ag_3)) ((Pre.v (GSG.on q q q (g_fld q q q q fl_67_3)) ((Pre.v (GSG.on q q q (g_load1 q q q q q q ag_3)) (Pre.nil _)))))))))))))))))))))))))))))))))))) (by kernel_rfl)<|on q q q<|ov (g_lss q q q q q) q<|on q q q<|vf q q q q q q<|vt q q q q q q<|on0<|Sq.n<|⟨(decide (v128.thick < v126.least)), h, has_mk ⟨q, q, q, q, q, q, q, q, trivial⟩ ⟨q, q, trivial⟩ trivial q⟩
         ·have h := bif_f h hb14
          refine W.draw (m := 18) Checked.mixed (Pre.v (GSG.of q (g_move q q q q)) ((Pre.v (GSG.as (GSG.of q (g_move q q q q)) (congrArg (fun b => TV.pv (PV.b b)) hb14)) ((Pre.v (GSG.off2 q q q q q q) ((Pre.v (GSG.off2 q q q q q q) ((Pre.v (GSG.off2 q q q q q q) ((Pre.v (GSG.off2 q q q q q q) ((Pre.v (GSG.off2 q q q q q q) ((Pre.v (GSG.off2 q q q q q q) ((Pre.v (GSG.off2 q q q q q q) ((Pre.v (GSG.off2 q q q q q q) ((Pre.v (GSG.off2 q q q q q q) ((Pre.v (GSG.off2 q q q q q q) ((Pre.v (GSG.off2 q q q q q q) ((Pre.v (GSG.off2 q q q q q q) ((Pre.v (GSG.off2 q q q q q q) ((Pre.v (GSG.off2 q q q q q q) ((Pre.v (GSG.off2 q q q q q q) ((Pre.v (GSG.off2 q q q q q q) (Pre.nil _)))))))))))))))))))))))))))))))))))) (by kernel_rfl)<|o2 q q q q q q<|o2 q q q q q q<|vf q q q q q q<|on0<|Sq.n<|⟨false, h, has_mk ⟨q, q, q, q, q, q, q, q, trivial⟩ ⟨q, q, trivial⟩ trivial q⟩
        ·rintro v129 h
         change s_8_j16 (s_8_l4 n v0 v108 v109 v111 k4) v109 v118 v119 v126 v129 = some r at h
         unfold s_8_j16 at h
         change W _ _ (⟨[(3, .box 3 0), (9, .pv (.sl (List.map cState v108.1))), (11, .pv (.sl (List.map cBounds v109.1))), (13, .pv (.b v111)), (14, .pv (.b v118)), (15, .pv (.i v119)), (16, .box 16 0), (146, .pv (.b v129))], [(3, 27, [.pv (.sl (List.map cAcid v0.acids)), .pv (.i v0.known), .pv (.i v0.hours), .pv (.sl (List.map eI v0.adds)), .pv (.sl (List.map cStrip v0.strips)), .pv (.sl (List.map cBatch v0.batches))]), (16, 67, [.pv (.i v126.rough), .pv (.i v126.goal), .pv (.i v126.thick), .pv (.i v126.least), .pv (.i v126.polish), .pv (.i v126.eat)])], []⟩ : Env) _
         refine W.cond (b := v129) q (fun hc => ?_) (fun hc => ?_)
         ·have h := bif_t h hc
          refine W.seq<|W.region<|va q q q q q<|on0<|Sq.n<|W.ret<|Sq.r<|Bl.r<|Sq.r<|Sq.r<|Bl.r<|Sq.r ?_
          obtain rfl := Option.some.inj h
          exact Fin.r q (.cons (.tmp _ _ q) .nil) q
         ·have h := bif_f h hc
          refine W.skip<|Sq.n ?_
          rcases Bool.eq_false_or_eq_true (v118) with hb17 | hb17
          ·have h := bif_t h hb17
           obtain ⟨v130, e130, h⟩ := bind_some h
           rcases Bool.eq_false_or_eq_true ((decide (v130.rough.high ≤ v126.goal))) with hb18 | hb18
           ·have h := bif_t h hb18
            obtain ⟨v131, e131, h⟩ := bind_some h
            exact W.draw (m := 21) Checked.mixed (Pre.v (GSG.of q (g_move q q q q)) ((Pre.v (GSG.as (GSG.of q (g_move q q q q)) (congrArg (fun b => TV.pv (PV.b b)) hb17)) ((Pre.v (GSG.on q q q (g_move q q q q)) ((Pre.v (GSG.on q q q (g_move q q q q)) ((Pre.v (GSG.on q q q (g_idxI (l := v109.1) (enc := cBounds) e130 q q q q q el_63 q)) ((Pre.v (GSG.on q q q (g_fldR q q q q fl_71_0 q)) ((Pre.v (GSG.on q q q (g_fldR q q q q fl_57_1 q)) ((Pre.v (GSG.on q q q (g_loadR1 q q q q q ag_3)) ((Pre.v (GSG.on q q q (g_fld q q q q fl_67_1)) ((Pre.v (GSG.on q q q (g_load1 q q q q q q ag_3)) ((Pre.v (GSG.on q q q (g_leq q q q q q)) ((Pre.v (GSG.of q (g_pickT q q q q q)) ((Pre.v (GSG.as (GSG.of q (g_move q q q q)) (congrArg (fun b => TV.pv (PV.b b)) hb18)) ((Pre.v (GSG.on q q q (g_move q q q q)) ((Pre.v (GSG.on q q q (g_move q q q q)) ((Pre.v (GSG.on q q q (g_idxI (l := v109.1) (enc := cBounds) e131 q q q q q el_63 q)) ((Pre.v (GSG.on q q q (g_fldR q q q q fl_71_1 q)) ((Pre.v (GSG.on q q q (g_fldR q q q q fl_57_0 q)) ((Pre.v (GSG.on q q q (g_loadR1 q q q q q ag_3)) ((Pre.v (GSG.on q q q (g_fld q q q q fl_67_3)) ((Pre.v (GSG.on q q q (g_load1 q q q q q q ag_3)) (Pre.nil _)))))))))))))))))))))))))))))))))))))))))) (by kernel_rfl)<|on q q q<|ov (g_geq q q q q q) q<|vt q q q q q q<|va q q q q q<|on0<|Bl.n<|Sq.n<|W.region<|vm q q q q q<|ov (g_add q q q q q) q<|va q q q q q<|on0<|Sq.n<|⟨(k4, (decide (v126.least ≤ v131.thick.low)), wr (v119 + 1)), h, Nat.lt_succ_self _, has_mk ⟨q, q, q, q, q, q, trivial⟩ ⟨q, trivial⟩ trivial q⟩
           ·have h := bif_f h hb18
            exact W.draw (m := 21) Checked.mixed (Pre.v (GSG.of q (g_move q q q q)) ((Pre.v (GSG.as (GSG.of q (g_move q q q q)) (congrArg (fun b => TV.pv (PV.b b)) hb17)) ((Pre.v (GSG.on q q q (g_move q q q q)) ((Pre.v (GSG.on q q q (g_move q q q q)) ((Pre.v (GSG.on q q q (g_idxI (l := v109.1) (enc := cBounds) e130 q q q q q el_63 q)) ((Pre.v (GSG.on q q q (g_fldR q q q q fl_71_0 q)) ((Pre.v (GSG.on q q q (g_fldR q q q q fl_57_1 q)) ((Pre.v (GSG.on q q q (g_loadR1 q q q q q ag_3)) ((Pre.v (GSG.on q q q (g_fld q q q q fl_67_1)) ((Pre.v (GSG.on q q q (g_load1 q q q q q q ag_3)) ((Pre.v (GSG.on q q q (g_leq q q q q q)) ((Pre.v (GSG.of q (g_pickT q q q q q)) ((Pre.v (GSG.as (GSG.of q (g_move q q q q)) (congrArg (fun b => TV.pv (PV.b b)) hb18)) ((Pre.v (GSG.off2 q q q q q q) ((Pre.v (GSG.off2 q q q q q q) ((Pre.v (GSG.off2 q q q q q q) ((Pre.v (GSG.off2 q q q q q q) ((Pre.v (GSG.off2 q q q q q q) ((Pre.v (GSG.off2 q q q q q q) ((Pre.v (GSG.off2 q q q q q q) ((Pre.v (GSG.off2 q q q q q q) (Pre.nil _)))))))))))))))))))))))))))))))))))))))))) (by kernel_rfl)<|o2 q q q q q q<|vf q q q q q q<|va q q q q q<|on0<|Bl.n<|Sq.n<|W.region<|vm q q q q q<|ov (g_add q q q q q) q<|va q q q q q<|on0<|Sq.n<|⟨(k4, false, wr (v119 + 1)), h, Nat.lt_succ_self _, has_mk ⟨q, q, q, q, q, q, trivial⟩ ⟨q, trivial⟩ trivial q⟩
          ·have h := bif_f h hb17
           exact W.draw (m := 21) Checked.mixed (Pre.v (GSG.of q (g_move q q q q)) ((Pre.v (GSG.as (GSG.of q (g_move q q q q)) (congrArg (fun b => TV.pv (PV.b b)) hb17)) ((Pre.v (GSG.off2 q q q q q q) ((Pre.v (GSG.off2 q q q q q q) ((Pre.v (GSG.off2 q q q q q q) ((Pre.v (GSG.off2 q q q q q q) ((Pre.v (GSG.off2 q q q q q q) ((Pre.v (GSG.off2 q q q q q q) ((Pre.v (GSG.off2 q q q q q q) ((Pre.v (GSG.off2 q q q q q q) ((Pre.v (GSG.off2 q q q q q q) ((Pre.v (GSG.of q (g_pickF q q q q q)) ((Pre.v (GSG.of q (g_move q q q q)) ((Pre.v (GSG.off2 q q q q q q) ((Pre.v (GSG.off2 q q q q q q) ((Pre.v (GSG.off2 q q q q q q) ((Pre.v (GSG.off2 q q q q q q) ((Pre.v (GSG.off2 q q q q q q) ((Pre.v (GSG.off2 q q q q q q) ((Pre.v (GSG.off2 q q q q q q) ((Pre.v (GSG.off2 q q q q q q) (Pre.nil _)))))))))))))))))))))))))))))))))))))))))) (by kernel_rfl)<|o2 q q q q q q<|vf q q q q q q<|va q q q q q<|on0<|Bl.n<|Sq.n<|W.region<|vm q q q q q<|ov (g_add q q q q q) q<|va q q q q q<|on0<|Sq.n<|⟨(k4, false, wr (v119 + 1)), h, Nat.lt_succ_self _, has_mk ⟨q, q, q, q, q, q, trivial⟩ ⟨q, trivial⟩ trivial q⟩
       ·have h := bif_f h hc
        refine W.exit<|Sq.e<|Sq.e<|Bl.e<|Sq.n<|W.seq<|W.region<|vm q q q q q<|vm q q q q q<|ov (g_beql q q q q q ub_4) q<|vm q q q q q<|Ops.split 173 q (fun hb => ?_) (fun hb => ?_)
        ·have h := bif_t h hb
         refine on q q q ?_
         obtain ⟨v132, e132, h⟩ := bind_some h
         refine ov (g_call q q q ca_24 q (c_24 _  e132)) q<|vt q q q q q q<|va q q q q q<|on0<|Sq.n<|W.ret ?_
         obtain rfl := Option.some.inj h
         exact Fin.r q (.cons (.tmp _ _ q) .nil) q
        ·have h := bif_f h hb
         refine o2 q q q q q q<|vf q q q q q q<|va q q q q q<|on0<|Sq.n<|W.ret ?_
         obtain rfl := Option.some.inj h
         exact Fin.r q (.cons (.tmp _ _ q) .nil) q
end Go.Proofs.YtohmhlkdgfcaeaaGreatDoor
namespace Go.Proofs.YtohmhlkdgfcaeaaGreatDoor
open Go Go.RowKit
def pickF (set : Int) : Nat → List Span → List Span
 | _, [] => []
 | i, s :: r => if hasB set i = true then s :: pickF set (i + 1) r else pickF set (i + 1) r
def com (w : List Span) (set : Int) : Span := capL ⟨0, 12⟩ (pickF set 0 w)
theorem and_one6 : ∀ x : Nat, x < 64 → bits .and .i64 (x : Int) 1 = (x : Int) % 2 := by decide
section
variable {n : Nat} {d : Drum} {b : Batch}
theorem p_145w {set : Int} {i : Nat} (hi : i ≤ 6) (h0 : 0 ≤ set) (h1 : set ≤ 63) : s_145 n set i = some (hasB set i) := by
 unfold s_145
 have hp := pow_bound hi
 have e1 : shr .i64 set (i : Int) = some (set / 2 ^ i) := by
  unfold shr
  rw [show decide ((0 : Int) ≤ (i : Int)) = true from decide_eq_true (by omega), cond_true]
  have hm : min ((i : Nat) : Int).toNat IntKind.i64.bits = i := by
   show min i 64 = i
   omega
  rw [hm, Int.fdiv_eq_ediv_of_nonneg _ (by omega)]
 rw [e1, Option.bind_some, hasB]
 have h3 : 0 ≤ set / 2 ^ i := Int.ediv_nonneg h0 (by omega)
 have h4 : set / 2 ^ i ≤ set := Int.ediv_le_self _ h0
 obtain ⟨x, hx⟩ := Int.eq_ofNat_of_zero_le h3
 rw [hx, and_one6 x (by omega)]
theorem common_pick (set : Int) : ∀ (w : List Span) (i : Nat) (o : Span), commonFrom (w.map spanP) set i (o.low, o.high) = spanP (capL o (pickF set i w)) := by
 intro w
 induction w with
 | nil => intro i o; rfl
 | cons s r ih =>
  intro i o
  have e : setHas set i = hasB set i := by
   unfold setHas hasB
   rw [Bool.eq_iff_iff]
   simp
  rw [List.map_cons, commonFrom, e, pickF]
  by_cases h : hasB set i = true
  ·rw [if_pos h, if_pos h]
   exact ih (i + 1) (cap o s)
  ·rw [if_neg h, if_neg h]
   exact ih (i + 1) o
theorem p_102 (hn : 100 ≤ n) (w : List Span) (hw : w.length ≤ 6) {set : Int} (h0 : 0 ≤ set) (h1 : set ≤ 63) : s_102 n ⟨w⟩ set = some (com w set) := by
 have e : s_102m n ⟨w⟩ set = some (com w set) := by
  unfold s_102m
  have h1 := loop_list w (s_102m_l1 n ⟨w⟩ set) (fun i x s K => bif hasB set i then K (cap s x) else K s) (fun s => some s) (fun k i s => by
   rw [s_102m_l1]
   by_cases hi : i < w.length
   ·rw [ix_at (List.getElem?_eq_getElem hi), Option.bind_some, Option.bind_some, p_145w (by omega) h0 h1, Option.bind_some]
    rfl
   ·have e1 : decide ((i : Int) < ((w.length : Nat) : Int)) = false := decide_eq_false (by omega)
    simp only [e1, cond_false]) (by omega) n 0 ⟨0, 12⟩ (by omega) (by omega)
  rw [show ((0 : Nat) : Int) = 0 from rfl, List.drop_zero] at h1
  rw [h1]
  have key : ∀ (l : List Span) (i : Nat) (s : Span), fc (fun i x s K => bif hasB set i then K (cap s x) else K s) (fun s => some s) i l s = some (capL s (pickF set i l)) := by
   intro l
   induction l with
   | nil => intro i s; rfl
   | cons x r ih =>
    intro i s
    rw [fc, pickF]
    by_cases h : hasB set i = true
    ·rw [h, cond_true, if_pos rfl, ih]; rfl
    ·have h' : hasB set i = false := by simpa using h
     rw [h', cond_false, if_neg (by simp), ih]
  exact key w 0 _
 unfold s_102
 rw [e, Option.bind_some]
 have hc := common_pick set w 0 ⟨0, 12⟩
 have hcm : commonOf (w.map spanP) set = spanP (com w set) := hc
 simp only [hcm, decide_true, cond_true]
theorem p_99 (hn : 100 ≤ n) (w : List Span) (hw : w.length ≤ 6) {set : Int} (h0 : 0 ≤ set) (h1 : set ≤ 63) : s_99 n ⟨w⟩ set = some (decide (com w set).ne) := by
 unfold s_99
 rw [p_102 hn w hw h0 h1]
 rfl
theorem pickF_full : ∀ (w : List Span) (m i : Nat), m < 6 → i + w.length = m → pickF (2 ^ m - 1) i w = w := by
 intro w
 induction w with
 | nil => intro m i _ _; rfl
 | cons s r ih =>
  intro m i hm hi
  simp only [List.length_cons] at hi
  rw [pickF, if_pos (hasB_full m hm i (by omega)), ih m (i + 1) hm (by omega)]
theorem com_full (w : List Span) (hw : w.length < 6) : com w (2 ^ w.length - 1) = comm w := by
 unfold com comm
 rw [pickF_full w w.length 0 hw (by omega)]
theorem smP_mono (hd : d.ok) (hb : b.ok) (hne : idx d ≠ []) {t t' : Nat} (h : t ≤ t') (ht : t' ≤ hrs d) (hs : smP d b t = true) : smP d b t' = true := by
 have hm := bnds_mono hd hb hne (t := t) (t' - t) (by omega)
 rw [show t + (t' - t) = t' by omega] at hm
 unfold smP at *
 unfold leB at hm
 rw [decide_eq_true_eq] at *
 omega
theorem thP_anti (hd : d.ok) (hb : b.ok) (hne : idx d ≠ []) {t t' : Nat} (h : t ≤ t') (ht : t' ≤ hrs d) (hs : thP d b t' = true) : thP d b t = true := by
 have hm := bnds_mono hd hb hne (t := t) (t' - t) (by omega)
 rw [show t + (t' - t) = t' by omega] at hm
 unfold thP at *
 unfold leB at hm
 rw [decide_eq_true_eq] at *
 omega
theorem win_mem (hd : d.ok) (hb : b.ok) (hne : idx d ≠ []) {t : Nat} (ht : t ≤ hrs d) : (winP d b).mem (t : Int) ↔ smP d b t = true ∧ thP d b t = true := by
 unfold winP
 have hsm : 0 ≤ firstH (smP d b) (hrs d + 1) 0 → (firstH (smP d b) (hrs d + 1) 0 ≤ (t : Int) ↔ smP d b t = true) := by
  intro h
  obtain ⟨q1, q2, q3⟩ := firstH_spec (smP d b) (hrs d + 1) 0 h
  have q4 := firstH_before (smP d b) (hrs d + 1) 0 h
  constructor
  ·intro h5
   exact smP_mono hd hb hne (t := (firstH (smP d b) (hrs d + 1) 0).toNat) (by omega) ht q1
  ·intro h5
   rcases Int.lt_or_le (t : Int) (firstH (smP d b) (hrs d + 1) 0) with h6 | h6
   ·rw [q4 t (by omega) h6] at h5; cases h5
   ·exact h6
 have hth : (t : Int) ≤ lastH (thP d b) (hrs d + 1) ↔ thP d b t = true := by
  rcases Int.lt_or_le (lastH (thP d b) (hrs d + 1)) 0 with h | h
  ·have := lastH_none _ _ h t (by omega)
   constructor
   ·intro h5; omega
   ·intro h5; rw [this] at h5; cases h5
  ·obtain ⟨q1, q2, q3⟩ := lastH_spec _ _ h
   constructor
   ·intro h5
    exact thP_anti hd hb hne (t' := (lastH (thP d b) (hrs d + 1)).toNat) (by omega) (by omega) q1
   ·intro h5
    rcases Int.lt_or_le (lastH (thP d b) (hrs d + 1)) (t : Int) with h6 | h6
    ·rw [q3 t h6 (by omega)] at h5; cases h5
    ·exact h6
 by_cases h : firstH (smP d b) (hrs d + 1) 0 < 0
 ·rw [decide_eq_true h, cond_true]
  have := firstH_none _ _ _ h t (by omega) (by omega)
  rw [this]
  simp only [Span.mem]
  constructor
  ·intro h5; omega
  ·intro h5; cases h5.1
 ·rw [decide_eq_false h, cond_false]
  have h2 := hsm (by omega)
  simp only [Span.mem]
  rw [h2, hth]
theorem comm_mem (hd : d.ok) (hne : idx d ≠ []) {t : Nat} (ht : t ≤ hrs d) : (comm (wsP d)).mem (t : Int) ↔ ∀ b ∈ d.batches, smP d b t = true ∧ thP d b t = true := by
 have hhr := hrs_le hd
 rw [mem_comm]
 unfold wsP
 constructor
 ·rintro ⟨_, h⟩ b hb
  exact (win_mem hd (hd.bt b hb) hne ht).1 (h _ (List.mem_map_of_mem hb))
 ·intro h
  refine ⟨by omega, fun s hs => ?_⟩
  obtain ⟨b, hb, rfl⟩ := List.mem_map.1 hs
  exact (win_mem hd (hd.bt b hb) hne ht).2 (h b hb)
theorem wsP_len : (wsP d).length = d.batches.length := by simp [wsP]
theorem p_46 (hn : 100 ≤ n) (hs : Short d) : s_46 n d = some (bif decide (err d true = 0) then (bif decide (comm (wsP d)).ne then (comm (wsP d), 0) else (⟨0, 0⟩, 5)) else (⟨0, 0⟩, err d true)) := by
 unfold s_46
 rw [p_84 hn hs, Option.bind_some]
 by_cases he : err d true = 0
 ·obtain ⟨h1, _, hne⟩ := err_zero he
  have hd := okD_iff.1 h1
  have hbt := hd.btl
  have hl : (wsP d).length ≤ 6 := by rw [wsP_len]; omega
  have hpv := pow_bound (i := (wsP d).length) hl
  simp only [he, decide_true, Bool.not_true, cond_false, cond_true]
  rw [p_98 hd hn hne, Option.bind_some, p_100 n _ hl, Option.bind_some, p_99 hn _ hl (by omega) (by omega), Option.bind_some, Option.bind_some, p_102 hn _ hl (by omega) (by omega), Option.bind_some, com_full _ (by rw [wsP_len]; omega)]
  cases decide (comm (wsP d)).ne <;> rfl
 ·simp only [decide_eq_false he, Bool.not_false, cond_true, cond_false]
end
end Go.Proofs.YtohmhlkdgfcaeaaGreatDoor
namespace Go.Proofs.YtohmhlkdgfcaeaaGreatDoor
open Go Go.RowKit
theorem foldl_all {α : Type} (p : α → Bool) : ∀ (l : List α) (s : Bool), l.foldl (fun s x => s && p x) s = (s && l.all p) := by
 intro l
 induction l with
 | nil => intro s; simp
 | cons x r ih => intro s; rw [List.foldl_cons, ih, List.all_cons, Bool.and_assoc]
section
variable {n : Nat} {d : Drum} {tr : Truth}
theorem mem_ne {s : Span} {x : Int} (h : s.mem x) : s.ne := by unfold Span.mem Span.ne at *; omega
theorem p_8_j3 (hd : d.ok) (hne : idx d ≠ []) (hsz : sizedB d tr = true) (hf : fitB d tr = true) {t : Nat} (ht : t ≤ hrs d) (v : Bool) (hv : v = true ↔ ∀ b ∈ d.batches, smP d b t = true ∧ thP d b t = true) : s_8_j3 1000 d (runL d tr t, 0) (bndL d t, 0) v = some true := by
 have hbt := hd.btl
 have l1 : (runL d tr t).length = d.batches.length := by simp [runL]
 unfold s_8_j3
 have h1 := loop_list d.batches (fun k i s => s_8_l4 1000 d (runL d tr t, 0) (bndL d t, 0) v k s i) (fun i b s K => bif v then (bif decide (b.goal < (stateAt b (stren tr) t).rough) then some false else bif decide ((stateAt b (stren tr) t).thick < b.least) then some false else K (s && (smP d b t && thP d b t))) else K (s && (smP d b t && thP d b t)))
  (fun s => bif s == v then some true else some false) (fun k i s => by
   simp only
   rw [s_8_l4]
   simp only [l1]
   by_cases hi : i < d.batches.length
   ·have hb := List.getElem?_eq_getElem hi
    have g1 : ix (runL d tr t) (i : Int) = some (stateAt d.batches[i] (stren tr) t) := ix_at (by unfold runL; rw [List.getElem?_map, hb]; rfl)
    have g3 : ix (bndL d t) (i : Int) = some (bnds d d.batches[i] t) := ix_at (by unfold bndL; rw [List.getElem?_map, hb]; rfl)
    have hj : s_8_j16 (fun s i => s_8_l4 1000 d (runL d tr t, 0) (bndL d t, 0) v k s i) (bndL d t, 0) s (i : Int) d.batches[i] false = s_8_l4 1000 d (runL d tr t, 0) (bndL d t, 0) v k (s && (smP d d.batches[i] t && thP d d.batches[i] t)) (wr ((i : Int) + 1)) := by
     unfold s_8_j16
     rw [cond_false]
     cases s with
     | false => rw [cond_false, Bool.false_and]
     | true =>
      simp only [g3, Option.bind_some, cond_true, Bool.true_and]
      unfold smP thP
      cases decide ((bnds d d.batches[i] t).rough.high ≤ d.batches[i].goal)
      ·rw [cond_false, Bool.false_and]
      ·rw [cond_true, Bool.true_and]
    have hjt : s_8_j16 (fun s i => s_8_l4 1000 d (runL d tr t, 0) (bndL d t, 0) v k s i) (bndL d t, 0) s (i : Int) d.batches[i] true = some false := by
     unfold s_8_j16
     rw [cond_true]
    have e1 : decide ((i : Int) < ((d.batches.length : Nat) : Int)) = true := decide_eq_true (by omega)
    simp only [e1, cond_true, ix_at hb, Option.bind_some, g1]
    cases v with
    | false =>
     simp only [cond_false]
     exact hj
    | true =>
     simp only [cond_true]
     cases decide (d.batches[i].goal < (stateAt d.batches[i] (stren tr) t).rough)
     ·simp only [cond_false]
      cases decide ((stateAt d.batches[i] (stren tr) t).thick < d.batches[i].least)
      ·simp only [cond_false]; exact hj
      ·simp only [cond_true]; exact hjt
     ·simp only [cond_true]; exact hjt
   ·have e1 : decide ((i : Int) < ((d.batches.length : Nat) : Int)) = false := decide_eq_false (by omega)
    simp only [e1, cond_false, p_24, Option.bind_some]) (by omega) 1000 0 true (by omega) (by omega)
 rw [show ((0 : Nat) : Int) = 0 from rfl, List.drop_zero] at h1
 rw [h1, fc_fold (fun s b => s && (smP d b t && thP d b t))]
 ·rw [foldl_all, Bool.true_and]
  have : d.batches.all (fun b => smP d b t && thP d b t) = v := by
   rw [Bool.eq_iff_iff, hv, List.all_eq_true]
   simp only [Bool.and_eq_true]
  rw [this]
  simp
 ·intro i b s K hb
  cases hvv : v with
  | false => rfl
  | true =>
   have h2 := hv.1 hvv b hb
   have hin := fit_inB hd hsz hf (hd.bt b hb) ht
   unfold inB at hin
   have h3 := h2.1
   have h4 := h2.2
   unfold smP at h3
   unfold thP at h4
   rw [decide_eq_true_eq] at h3 h4
   rw [cond_true, decide_eq_false (by omega), cond_false, decide_eq_false (by omega), cond_false]
theorem law_8 (d : Drum) (tr : Truth) (t : Int) : s_8 1000 d tr t = some true := by
 unfold s_8
 rw [p_23, Option.bind_some]
 have out : s_8_j1 1000 d tr t true = some true := by unfold s_8_j1; rw [cond_true, p_24, Option.bind_some]
 have hn : 100 ≤ 1000 := by omega
 cases hsh : shortB d with
 | false => simp only [Bool.not_false, cond_true]; exact out
 | true =>
  have hs := shortB_iff.1 hsh
  simp only [Bool.not_true, cond_false, p_39 hn hs, p_44, Option.bind_some]
  cases decide (15 < ((List.length tr.strength : Nat) : Int)) with
  | true => simp only [cond_true]; exact out
  | false =>
   cases hok : okD d with
   | false => simp only [Bool.not_false, cond_true, cond_false]; exact out
   | true =>
    have hd := okD_iff.1 hok
    have hH := hrs_eq hd
    have hhr := hrs_le hd
    cases hsz : sizedB d tr with
    | false => simp only [Bool.not_false, Bool.not_true, cond_true, cond_false]; exact out
    | true =>
     simp only [Bool.not_true, cond_false, p_45 hd hn hsz, Option.bind_some]
     cases hf : fitB d tr with
     | false => simp only [Bool.not_false, cond_true]; exact out
     | true =>
      simp only [Bool.not_true, cond_false]
      by_cases h2 : t < 0
      ·rw [decide_eq_true h2, cond_true]; exact out
      ·rw [decide_eq_false h2, cond_false]
       by_cases h3 : d.hours < t
       ·rw [decide_eq_true h3]; exact out
       ·rw [decide_eq_false h3]
        have hi := fit_idx hd hsz hf
        have he := idx_err hok hi
        have hne := (err_zero he).2.2
        obtain ⟨t', ht⟩ := Int.eq_ofNat_of_zero_le (show 0 ≤ t by omega)
        have ht' : t' ≤ hrs d := by omega
        have f1 : fineT d t = true := inb_iff.2 (by omega)
        have r1 : runOk d tr t = true := by unfold runOk; rw [hok, hsz, hf, f1]; rfl
        have n1 : t.toNat = t' := by omega
        have l1 : (runL d tr t').length = d.batches.length := by simp [runL]
        have l3 : (bndL d t').length = d.batches.length := by simp [bndL]
        unfold s_8_j1
        simp only [cond_false, p_46 hn hs, p_47 hn hs, p_48 hn hs, Option.bind_some, he, f1, r1, n1, decide_true, cond_true, Bool.not_true, l1, l3]
        have hcm := comm_mem hd hne ht'
        rw [← ht] at hcm
        by_cases hc : (comm (wsP d)).ne
        ·rw [decide_eq_true hc, cond_true]
         simp only [decide_true, Bool.not_true, cond_false]
         unfold s_8_j2
         simp only [cond_false, decide_true, cond_true]
         by_cases h5 : (comm (wsP d)).low ≤ t
         ·rw [decide_eq_true h5, cond_true]
          refine p_8_j3 hd hne hsz hf ht' _ ?_
          rw [← hcm, decide_eq_true_eq]
          unfold Span.mem
          exact ⟨fun h => ⟨h5, h⟩, fun h => h.2⟩
         ·rw [decide_eq_false h5, cond_false]
          refine p_8_j3 hd hne hsz hf ht' _ ?_
          rw [← hcm]
          unfold Span.mem
          exact ⟨fun h => (by cases h), fun h => absurd h.1 h5⟩
        ·rw [decide_eq_false hc, cond_false]
         simp only [show decide ((5 : Int) = 0) = false from rfl, decide_true, Bool.not_true, Bool.not_false, cond_true]
         unfold s_8_j2
         simp only [cond_false, show decide ((5 : Int) = 0) = false from rfl]
         refine p_8_j3 hd hne hsz hf ht' _ ?_
         rw [← hcm]
         exact ⟨fun h => (by cases h), fun h => absurd (mem_ne h) hc⟩
end
end Go.Proofs.YtohmhlkdgfcaeaaGreatDoor
namespace Go.Proofs.YtohmhlkdgfcaeaaGreatDoor
open Go Go.RowKit Go.ChangeShapes Go.WideShapes
set_option maxRecDepth 100000
theorem drumEmptied_lifted (os : Os) (started : os.Started) (H : Type) (enc : TypeId × Value → H) :
  ReturnsInHanded {} Tryz.checked os 8 .any (fun w args => (Rows.drumEmptiedSpec.pre enc Tryz.prog Tryz.f8 [] false w args ∧ laidMetH Tryz.prog Rows.drumEmptiedRow.laid w) ∧ sizedMet enc Tryz.prog Tryz.f8 (OpenSpec.ofChange Rows.drumEmptiedSpec) false w args)
   (Rows.drumEmptiedSpec.post enc Tryz.prog Tryz.f8 false true false false) :=
 law_row (s := Rows.drumEmptiedSpec) (enc := enc) started #[.agg #[.slice none 0 0, .int .i64 0, .int .i64 0, .slice none 0 0, .slice none 0 0, .slice none 0 0], .agg #[.int .i64 0, .slice none 0 0], .int .i64 0] (by kernel_rfl) Tryz.func8 (by kernel_rfl) (by kernel_rfl) (by kernel_rfl) rfl
   (by
    rw [Tryz.params8]
    have h : ∀ t ∈ ([27, 54, 3] : List Nat), t ∈ [3, 9, 23, 27, 54, 92] := by decide
    exact fun t ht => parT t (h t ht)) rfl
   (by
    rw [Tryz.params8]
    intro ds h
    match ds, h with
    | [d0, d1, d2], _ => rfl)
   (by
    rw [Tryz.params8]
    intro W base args ds p hval hA
    obtain ⟨args⟩ := args
    obtain ⟨v0, vs0, d0, ds0, p0, q0, e0, rfl, rfl, h0, r0⟩ := trodAll_cons hA
    have e0 : args = _ := e0; subst e0
    obtain ⟨v1, vs1, d1, ds1, p1, q1, e1, rfl, rfl, h1, r1⟩ := trodAll_cons r0
    subst e1
    obtain ⟨v2, vs2, d2, ds2, p2, q2, e2, rfl, rfl, h2, r2⟩ := trodAll_cons r1
    subst e2
    obtain ⟨rfl, rfl, rfl⟩ := trodAll_nil r2
    obtain ⟨x0, z0⟩ := rd_drum (hval 0 27 v0 rfl rfl) h0
    obtain ⟨x1, z1⟩ := rd_truth (hval 1 54 v1 rfl rfl) h1
    obtain ⟨x2, z2⟩ := rd_int (hval 2 3 v2 rfl rfl)
    refine ⟨rfl, [.agg (cDrum x0), .agg (cTruth x1), .i x2], ⟨rfl, ?_⟩, c_8 1000 x0 x1 x2 (law_8 x0 x1 x2)⟩
    intro j c u hc hu
    match j, hc, hu with
    | 0, hc, hu => cases hc; cases hu; exact z0
    | 1, hc, hu => cases hc; cases hu; exact z1
    | 2, hc, hu => cases hc; cases hu; exact z2)
theorem drumEmptied_facts : factsA Tryz.prog Tryz.f8 Rows.drumEmptiedSpec Rows.drumEmptiedRow = true := by kernel_rfl
theorem drumEmptied_road0 : (Rows.drumEmptiedRow.inPlace == Tryz.prog.inPlace 8) = true := by kernel_rfl
theorem drumEmptied_road1 : (Rows.drumEmptiedRow.unfollowed == Tryz.prog.unfollowed 8) = true := by kernel_rfl
theorem drumEmptied_road2 : (Rows.drumEmptiedRow.recurses == Tryz.prog.recurses 8) = true := by kernel_rfl
theorem drumEmptied_road3 : (Rows.drumEmptiedRow.named == Tryz.prog.varsNamed 8) = true := by kernel_rfl
theorem drumEmptied_row : Rows.DrumEmptiedSaid :=
 OpenClaim.holds_of_wide 8 Tryz.f8 rfl rfl rfl rfl rfl rfl rfl ⟨rfl, rfl, rfl, rfl, rfl⟩ rfl rfl rfl rfl rfl (by as_aux_lemma => kernel_rfl) Tryz.func8 (joined_of drumEmptied_facts drumEmptied_road0 drumEmptied_road1 drumEmptied_road2 drumEmptied_road3)
  (of_decide_eq_true (by as_aux_lemma => kernel_rfl)) (by unfold Func.isWrapper; rw [if_neg (of_decide_eq_false (by as_aux_lemma => kernel_rfl))]; exact ⟨rfl, rfl⟩)
  (fun os started H enc _ => drumEmptied_lifted os started H enc)
theorem drumEmptied_card : Rows.DrumEmptiedCardSaid :=
 Claim7.holds_tied_plain_at .later [] [.data, .data, .data, .data, .pinned] true (true, "263524fd91af563947b647e8709e73ef988cdef21cccd4074f632dc410392126") true drumEmptied_row (fun _ h => by cases h) (by as_aux_lemma => kernel_rfl) (fun _ h => by cases h) drumEmptied_row_tie rfl ⟨rfl, rfl⟩ mainK rfl
  (fun f fn hf hfn => by
   obtain rfl : f = 8 := Option.some.inj ((show Tryz.prog.funcNamed "nacre/nacrelaw03.DrumEmptied" = some 8 by as_aux_lemma => kernel_rfl).symm.trans hf) |>.symm
   obtain rfl : fn = Tryz.f8 := (Option.some.inj (Tryz.func8.symm.trans hfn)).symm
   exact ⟨looksK, fun j t ht => by
    rw [Tryz.params8] at ht
    have hm : t ∈ [27, 54, 3] := by simpa using Array.mem_of_getElem? ht
    have h : ∀ t ∈ ([27, 54, 3] : List Nat), t ∈ [3, 9, 23, 27, 54, 92] := by decide
    exact standK t (h t hm)⟩)
  (by as_aux_lemma => kernel_rfl)
#print axioms drumEmptied_card
end Go.Proofs.YtohmhlkdgfcaeaaGreatDoor
namespace Go.Proofs.YtohmhlkdgfcaeaaGreatDoor
open Go Go.RowKit
section
variable {α : Type} (lt : α → α → Bool)
def least : α → List α → α
 | x, [] => x
 | x, y :: r => least (bif lt y x then y else x) r
end
end Go.Proofs.YtohmhlkdgfcaeaaGreatDoor
namespace Go.Proofs.YtohmhlkdgfcaeaaGreatDoor
open Go Go.RowKit
def rn : Int → List Int → Int
 | c, [] => c
 | c, x :: r => rn (max c (x + 1)) r
def rgB : Int → List Int → Bool
 | _, [] => true
 | c, x :: r => decide (x ≤ c) && rgB (max c (x + 1)) r
theorem rgB_app : ∀ (l : List Int) (c x : Int), rgB c (l ++ [x]) = (rgB c l && decide (x ≤ rn c l)) := by
 intro l
 induction l with
 | nil =>
  intro c x
  show (decide (x ≤ c) && true) = (true && decide (x ≤ c))
  rw [Bool.and_true, Bool.true_and]
 | cons y r ih => intro c x; rw [List.cons_append, rgB, ih, rgB, rn, Bool.and_assoc]
end Go.Proofs.YtohmhlkdgfcaeaaGreatDoor
namespace Go.Proofs.YtohmhlkdgfcaeaaGreatDoor
open Go Go.RowKit
structure Way (l : List Int) : Prop where
 rg : rgB 0 l = true
 nn : ∀ x ∈ l, 0 ≤ x
theorem Way.nil : Way [] := ⟨rfl, by simp⟩
theorem Way.step {l : List Int} (h : Way l) {x : Nat} (hx : (x : Int) ≤ rn 0 l) : Way (l ++ [(x : Int)]) :=
 ⟨by rw [rgB_app, h.rg, decide_eq_true hx]; rfl, fun y hy => by
  rcases List.mem_append.1 hy with hy | hy
  ·exact h.nn y hy
  ·obtain rfl := List.mem_singleton.1 hy; omega⟩
end Go.Proofs.YtohmhlkdgfcaeaaGreatDoor
