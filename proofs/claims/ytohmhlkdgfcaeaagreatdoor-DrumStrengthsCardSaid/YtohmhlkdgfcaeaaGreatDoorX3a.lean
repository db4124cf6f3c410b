/- What law 3 asks besides, part 1. -/
import Derived.Test.YtohmhlkdgfcaeaaGreatDoorProg
import Derived.KernelRfl
import Derived.Test.YtohmhlkdgfcaeaaGreatDoorK8
set_option linter.unusedVariables false
set_option linter.unusedSimpArgs false
namespace Go.Proofs.YtohmhlkdgfcaeaaGreatDoor
open Go Go.RowKit
section
variable {X : Cx} {E : Env} {o : Oper} {S : Sl} {d : Nat} {x y : Operand}
theorem g_fldP {s f off k ko : Nat} (ho : o.op = .fieldAddr s x f) (hd : o.dst = some d) (hdn : Nat.ble (d + 1) X.nt = true) (hx : evT E x = some (.rptr k ko)) (hf : FldIs X.P s f off) : GS X o E ⟨opT x, [], []⟩ ⟨some d, .rptr k (ko + off), none, none⟩ :=
 g_pure hd hdn fun E1 g F a w hag hr => by
  obtain ⟨r, b, g0, g1, g2⟩ := evT_rel hr ((evT_agree hag (fun t h => h)).trans hx)
  have hadd : (⟨b, ko, none⟩ : Addr).add off = ⟨b, ko + off, none⟩ := by unfold Addr.add; split <;> simp_all
  exact ⟨_, by simp only [execOp, ho, g2, Sem.run_bind, run_field hf, Result.andThen_ok, hadd]; rfl, r, b, g0, g1, rfl⟩
end
end Go.Proofs.YtohmhlkdgfcaeaaGreatDoor
namespace Go.Proofs.YtohmhlkdgfcaeaaGreatDoor
open Go Go.RowKit
theorem ca_115 : Callable Tryz.prog 115 := by unfold Callable; kernel_rfl
theorem ca_138 : Callable Tryz.prog 138 := by unfold Callable; kernel_rfl
theorem ca_142 : Callable Tryz.prog 142 := by unfold Callable; kernel_rfl
theorem ca_23 : Callable Tryz.prog 23 := by unfold Callable; kernel_rfl
theorem ca_24 : Callable Tryz.prog 24 := by unfold Callable; kernel_rfl
theorem ca_27 : Callable Tryz.prog 27 := by unfold Callable; kernel_rfl
theorem ca_29 : Callable Tryz.prog 29 := by unfold Callable; kernel_rfl
theorem ca_30 : Callable Tryz.prog 30 := by unfold Callable; kernel_rfl
theorem ca_39 : Callable Tryz.prog 39 := by unfold Callable; kernel_rfl
theorem ca_72 : Callable Tryz.prog 72 := by unfold Callable; kernel_rfl
theorem ca_80 : Callable Tryz.prog 80 := by unfold Callable; kernel_rfl
theorem ca_89 : Callable Tryz.prog 89 := by unfold Callable; kernel_rfl
theorem ca_90 : Callable Tryz.prog 90 := by unfold Callable; kernel_rfl
end Go.Proofs.YtohmhlkdgfcaeaaGreatDoor
namespace Go.Proofs.YtohmhlkdgfcaeaaGreatDoor
open Go Go.RowKit
set_option maxRecDepth 4000
attribute [local irreducible] W Ops GS GSG
def s_115 (n : Nat) (v0 : Acid) (v1 : Int) (v2 : Span) : Option (Span) := some ((Span.mk (wr ((max 0 (wr (v2.low - v0.fall.high))) + v1)) (wr ((max 0 (wr (v2.high - v0.fall.low))) + v1))))
theorem c_115 (n : Nat) (v0 : Acid) (v1 : Int) (v2 : Span) {r : (Span)} (h : s_115 n v0 v1 v2 = some r) :
  Fun Tryz.prog 115 [.agg (cAcid v0), .val (.int .i64 v1), .agg (cSpan v2)] (.ret (.agg (cSpan r))) := by
 unfold s_115 at h
 refine enterW 26 Tryz.func115 q q q ?_
 intro w0 F0
 change W _ _ (Ev [(0, .pv (.agg (cAcid v0))), (1, .pv (.i v1)), (2, .pv (.agg (cSpan v2)))]) _
 refine W.seq<|W.region<|ob (g_box q q q q q) q q<|ob (g_box q q q q q) q q<|ob (g_alloc q q q zr_57) q q<|on0<|Sq.n<|W.seq<|W.region<|ov (g_fld q q q q fl_57_0) q<|ov (g_load1 q q q q q q ag_3) q<|ov (g_fld q q q q fl_137_1) q<|ov (g_fld q q q q fl_57_1) q<|ov (g_load1 q q q q q q ag_3) q<|ov (g_sub q q q q q) q<|ov (g_max q q q q q) q<|vm q q q q q<|ov (g_add q q q q q) q<|ov (g_fld q q q q fl_57_1) q<|ov (g_load1 q q q q q q ag_3) q<|ov (g_fld q q q q fl_137_1) q<|ov (g_fld q q q q fl_57_0) q<|ov (g_load1 q q q q q q ag_3) q<|ov (g_sub q q q q q) q<|ov (g_max q q q q q) q<|vm q q q q q<|ov (g_add q q q q q) q<|ov (g_build (cs := (cSpan (Span.mk (wr ((max 0 (wr (v2.low - v0.fall.high))) + v1)) (wr ((max 0 (wr (v2.high - v0.fall.low))) + v1))))) q q q zr_57 st_57 q q) q<|Ops.step q (s_storeB q q q q q q sz_57 q q)<|on0<|Sq.n<|W.ret ?_
 obtain rfl := Option.some.inj h
 exact Fin.r q (.cons (.agg _ _ _ _ (cSpan (Span.mk (wr ((max 0 (wr (v2.low - v0.fall.high))) + v1)) (wr ((max 0 (wr (v2.high - v0.fall.low))) + v1)))) q q ag_57 sz_57) .nil) q
def s_138 (n : Nat) (v0 : Span) (v1 : Span) : Option (Span) := some ((Span.mk (max v0.low v1.low) (min v0.high v1.high)))
theorem c_138 (n : Nat) (v0 : Span) (v1 : Span) {r : (Span)} (h : s_138 n v0 v1 = some r) :
  Fun Tryz.prog 138 [.agg (cSpan v0), .agg (cSpan v1)] (.ret (.agg (cSpan r))) := by
 unfold s_138 at h
 refine enterW 16 Tryz.func138 q q q ?_
 intro w0 F0
 change W _ _ (Ev [(0, .pv (.agg (cSpan v0))), (1, .pv (.agg (cSpan v1)))]) _
 refine W.seq<|W.region<|ob (g_box q q q q q) q q<|ob (g_box q q q q q) q q<|ob (g_alloc q q q zr_57) q q<|on0<|Sq.n<|W.seq<|W.region<|ov (g_fld q q q q fl_57_0) q<|ov (g_load1 q q q q q q ag_3) q<|ov (g_fld q q q q fl_57_0) q<|ov (g_load1 q q q q q q ag_3) q<|ov (g_max q q q q q) q<|ov (g_fld q q q q fl_57_1) q<|ov (g_load1 q q q q q q ag_3) q<|ov (g_fld q q q q fl_57_1) q<|ov (g_load1 q q q q q q ag_3) q<|ov (g_min q q q q q) q<|ov (g_build (cs := (cSpan (Span.mk (max v0.low v1.low) (min v0.high v1.high)))) q q q zr_57 st_57 q q) q<|Ops.step q (s_storeB q q q q q q sz_57 q q)<|on0<|Sq.n<|W.ret ?_
 obtain rfl := Option.some.inj h
 exact Fin.r q (.cons (.agg _ _ _ _ (cSpan (Span.mk (max v0.low v1.low) (min v0.high v1.high))) q q ag_57 sz_57) .nil) q
def s_142_j1 (v0 : Acid) (v1 : Int) (v2 : Span) (v101 : Int) : Option (Span) := some ((Span.mk v101 (wr ((wr (v2.high - v1)) + v0.fall.high))))
def s_142 (n : Nat) (v0 : Acid) (v1 : Int) (v2 : Span) : Option (Span) := bif (decide (v1 < v2.low)) then ( s_142_j1 v0 v1 v2 (wr ((wr (v2.low - v1)) + v0.fall.low)) ) else ( s_142_j1 v0 v1 v2 0 )
theorem c_142 (n : Nat) (v0 : Acid) (v1 : Int) (v2 : Span) {r : (Span)} (h : s_142 n v0 v1 v2 = some r) :
  Fun Tryz.prog 142 [.agg (cAcid v0), .val (.int .i64 v1), .agg (cSpan v2)] (.ret (.agg (cSpan r))) := by
 unfold s_142 at h
 refine enterW 30 Tryz.func142 q q q ?_
 intro w0 F0
 change W _ _ (Ev [(0, .pv (.agg (cAcid v0))), (1, .pv (.i v1)), (2, .pv (.agg (cSpan v2)))]) _
 refine W.seq<|W.region<|ob (g_box q q q q q) q q<|ob (g_box q q q q q) q q<|ob (g_alloc q q q zr_57) q q<|on0<|Sq.n<|W.seq<|W.region<|va q q q q q<|on0<|Sq.n<|W.seqJ (σ := Int) (fun s => (⟨[(1, .pv (.i v1)), (3, .box 3 0), (5, .box 5 0), (6, .box 6 0), (7, .pv (.i s))], [(3, 137, [.pv (.i v0.strength.low), .pv (.i v0.strength.high), .pv (.i v0.fall.low), .pv (.i v0.fall.high)]), (5, 57, [.pv (.i v2.low), .pv (.i v2.high)]), (6, 57, [.pv (.i 0), .pv (.i 0)])], []⟩ : Env)) (fun s => s_142_j1 v0 v1 v2 s = some r) ?_ ?_
 ·refine W.seq<|W.region<|ov (g_fld q q q q fl_57_0) q<|ov (g_load1 q q q q q q ag_3) q<|vm q q q q q<|ov (g_gtr q q q q q) q<|on0<|Sq.n<|W.cond (b := (decide (v1 < v2.low))) q (fun hc => ?_) (fun hc => ?_)
  ·have h := bif_t h hc
   refine W.region<|ov (g_fld q q q q fl_57_0) q<|ov (g_load1 q q q q q q ag_3) q<|vm q q q q q<|ov (g_sub q q q q q) q<|ov (g_fld q q q q fl_137_1) q<|ov (g_fld q q q q fl_57_0) q<|ov (g_load1 q q q q q q ag_3) q<|ov (g_add q q q q q) q<|va q q q q q<|on0<|Sq.n<|⟨wr ((wr (v2.low - v1)) + v0.fall.low), h, has_mk ⟨q, q, q, q, q, trivial⟩ ⟨q, q, q, trivial⟩ trivial q⟩
  ·have h := bif_f h hc
   refine W.skip<|Sq.n<|⟨0, h, has_mk ⟨q, q, q, q, q, trivial⟩ ⟨q, q, q, trivial⟩ trivial q⟩
 ·rintro v101 h
  change s_142_j1 v0 v1 v2 v101 = some r at h
  unfold s_142_j1 at h
  change W _ _ (⟨[(1, .pv (.i v1)), (3, .box 3 0), (5, .box 5 0), (6, .box 6 0), (7, .pv (.i v101))], [(3, 137, [.pv (.i v0.strength.low), .pv (.i v0.strength.high), .pv (.i v0.fall.low), .pv (.i v0.fall.high)]), (5, 57, [.pv (.i v2.low), .pv (.i v2.high)]), (6, 57, [.pv (.i 0), .pv (.i 0)])], []⟩ : Env) _
  refine W.seq<|W.region<|vm q q q q q<|ov (g_fld q q q q fl_57_1) q<|ov (g_load1 q q q q q q ag_3) q<|vm q q q q q<|ov (g_sub q q q q q) q<|ov (g_fld q q q q fl_137_1) q<|ov (g_fld q q q q fl_57_1) q<|ov (g_load1 q q q q q q ag_3) q<|ov (g_add q q q q q) q<|ov (g_build (cs := (cSpan (Span.mk v101 (wr ((wr (v2.high - v1)) + v0.fall.high))))) q q q zr_57 st_57 q q) q<|Ops.step q (s_storeB q q q q q q sz_57 q q)<|on0<|Sq.n<|W.ret ?_
  obtain rfl := Option.some.inj h
  exact Fin.r q (.cons (.agg _ _ _ _ (cSpan (Span.mk v101 (wr ((wr (v2.high - v1)) + v0.fall.high)))) q q ag_57 sz_57) .nil) q
end Go.Proofs.YtohmhlkdgfcaeaaGreatDoor
namespace Go.Proofs.YtohmhlkdgfcaeaaGreatDoor
open Go Go.RowKit
set_option maxRecDepth 4000
attribute [local irreducible] W Ops GS GSG
def s_72 (n : Nat) (v0 : Int) (v1 : Int) : Option (Bool) := (s_106 n v1).bind fun v101 => (quo .i64 v0 v101).bind fun v102 => (rem .i64 v102 2).bind fun v103 => some ((decide (v103 = 1)))
theorem c_72 (n : Nat) (v0 : Int) (v1 : Int) {r : (Bool)} (h : s_72 n v0 v1 = some r) :
  Fun Tryz.prog 72 [.val (.int .i64 v0), .val (.int .i64 v1)] (.ret (.b r)) := by
 unfold s_72 at h
 refine enterW 11 Tryz.func72 q q q ?_
 intro w0 F0
 change W _ _ (Ev [(0, .pv (.i v0)), (1, .pv (.i v1))]) _
 refine W.seq<|W.region<|va q q q q q<|on0<|Sq.n<|W.seq<|W.region<|vm q q q q q<|vm q q q q q ?_
 obtain ⟨v101, e101, h⟩ := bind_some h
 refine ov (g_call q q q ca_106 q (c_106 _ _ e101)) q ?_
 obtain ⟨v102, e102, h⟩ := bind_some h
 refine ov (g_quoI e102 q q q q q) q ?_
 obtain ⟨v103, e103, h⟩ := bind_some h
 refine ov (g_remI e103 q q q q q) q<|ov (g_eql q q q q q) q<|va q q q q q<|on0<|Sq.n<|W.ret ?_
 obtain rfl := Option.some.inj h
 exact Fin.r q (.cons (.tmp _ _ q) .nil) q
end Go.Proofs.YtohmhlkdgfcaeaaGreatDoor
namespace Go.Proofs.YtohmhlkdgfcaeaaGreatDoor
open Go Go.RowKit
set_option maxRecDepth 4000
attribute [local irreducible] W Ops GS GSG
def s_90_l9 (n : Nat) (K1 : Int → (List Span) → Option ((List Span) × Bool)) (v0 : Drum) (v135 : Int) (v136 : (List Span)) : Nat → Int → Span → Option ((List Span) × Bool)
| 0, _, _ => none
| k9 + 1, v160, v161 => bif (decide (v160 < (v0.strips.length : Int))) then ( (ix v0.strips v160).bind fun v164 => bif (decide (v164.hour = v135)) then ( (s_138 n v161 (Span.mk (wr (v164.seen - v164.off)) (wr (v164.seen + v164.off)))).bind fun v165 => (s_90_l9 n K1 v0 v135 v136 k9) (wr (v160 + 1)) v165 ) else ( (s_90_l9 n K1 v0 v135 v136 k9) (wr (v160 + 1)) v161 ) ) else (
 bif (decide (v161.high < v161.low)) then ( some (([], false)) ) else ( (app v136 ([v161])).bind fun v166 => K1 (wr (v135 + 1)) v166 ) )
def s_90_j8 (n : Nat) (K1 : Int → (List Span) → Option ((List Span) × Bool)) (v0 : Drum) (v135 : Int) (v136 : (List Span)) (v157 : Span) : Option ((List Span) × Bool) := s_90_l9 n K1 v0 v135 v136 n 0 v157
def s_90_l10 (n : Nat) (v0 : Drum) (v101 : Acid) : Nat → Int → (List Span) → Option ((List Span) × Bool)
| 0, _, _ => none
| k10 + 1, v173, v174 => bif (decide (0 ≤ v173)) then ( (ix v174 v173).bind fun v181 => (ix v0.adds (wr (v173 + 1))).bind fun v182 => (ix v174 (wr (v173 + 1))).bind fun v183 => (s_142 n v101 v182 v183).bind fun v184 => (s_138 n v181 v184).bind fun v185 => (ix v174 v173).bind fun v186 => (s_90_l10 n v0 v101 k10) (wr (v173 - 1)) (sts v174 v173 v185) ) else ( some ((v174, true)) )
def s_90_l1 (n : Nat) (v0 : Drum) (v101 : Acid) : Nat → Int → (List Span) → Option ((List Span) × Bool)
| 0, _, _ => none
| k1 + 1, v135, v136 => bif (decide (v135 < v0.hours)) then ( (ix v0.adds 0).bind fun v152 => (ix v0.adds 0).bind fun v153 => bif (decide (0 < v135)) then ( (ix v0.adds v135).bind fun v154 => (ix v136 (wr (v135 - 1))).bind fun v155 => (s_115 n v101 v154 v155).bind fun v156 => s_90_j8 n (s_90_l1 n v0 v101 k1) v0 v135 v136 v156 ) else (
 s_90_j8 n (s_90_l1 n v0 v101 k1) v0 v135 v136 (Span.mk (wr (v101.strength.low + v152)) (wr (v101.strength.high + v153))) ) ) else ( s_90_l10 n v0 v101 n (wr (v0.hours - 2)) v136 )
def s_90 (n : Nat) (v0 : Drum) (v1 : Int) : Option ((List Span) × Bool) := (ix v0.acids v1).bind fun v101 => (s_72 n v0.known v1).bind fun v102 => bif (!v102) then ( some (([], false)) ) else ( s_90_l1 n v0 v101 n 0 [] )
theorem c_90 (n : Nat) (v0 : Drum) (v1 : Int) {r : ((List Span) × Bool)} (h : s_90 n v0 v1 = some r) :
  Fun Tryz.prog 90 [.agg (cDrum v0), .val (.int .i64 v1)] (.ret (.tup [.sl (r.1.map cSpan), .b r.2])) := by
 unfold s_90 at h
 refine enterW 127 Tryz.func90 q q q ?_
 intro w0 F0
 change W _ _ (Ev [(0, .pv (.agg (cDrum v0))), (1, .pv (.i v1))]) _
 refine W.seq<|W.region<|ob (g_box q q q q q) q q<|va q q q q q<|va q q q q q<|on0<|Sq.n<|W.seq<|W.region<|ov (g_fld q q q q fl_27_0) q<|ov (g_load1 q q q q q q ag_22) q<|vm q q q q q ?_
 obtain ⟨v101, e101, h⟩ := bind_some h
 refine ov (g_idxI (l := v0.acids) (enc := cAcid) e101 q q q q q el_22 q) q<|ov (g_loadRA q q q q ag_137 sz_137 q q) q<|ob (g_alloc q q q zr_137) q q<|Ops.step q (s_storeB q q q q q q sz_137 q q)<|on0<|Sq.n<|W.seq<|W.seq<|W.region<|ov (g_fld q q q q fl_27_1) q<|ov (g_load1 q q q q q q ag_3) q<|vm q q q q q ?_
 obtain ⟨v102, e102, h⟩ := bind_some h
 refine ov (g_call q q q ca_72 q (c_72 _ _ _ e102)) q<|ov (g_not q q q q) q<|on0<|Sq.n<|W.cond (b := (!v102)) q (fun hc => ?_) (fun hc => ?_)
 ·have h := bif_t h hc
  refine W.seq<|W.region<|va q q q q q<|va q q q q q<|on0<|Sq.n<|W.conv (Conv.nilsl 4 q)<|W.ret<|Sq.r ?_
  obtain rfl := Option.some.inj h
  exact Fin.r q (.cons (.tmp _ _ q) (.cons (.tmp _ _ q) .nil)) q
 ·have h := bif_f h hc
  refine W.skip<|Sq.n<|W.seq<|W.region<|va q q q q q<|on0<|Sq.n<|W.seq<|W.seq<|W.region<|va q q q q q<|on0<|Sq.n<|W.block<|W.conv (Conv.nilrow 7 97 57 2 q q)<|W.loop (σ := Nat × Int × (List Span)) (fun s => (⟨[(2, .box 2 0), (6, .box 6 0), (7, .row 97), (8, .pv (.i s.2.1))], [(2, 27, [.pv (.sl (List.map cAcid v0.acids)), .pv (.i v0.known), .pv (.i v0.hours), .pv (.sl (List.map eI v0.adds)), .pv (.sl (List.map cStrip v0.strips)), .pv (.sl (List.map cBatch v0.batches))]), (6, 137, [.pv (.i v101.strength.low), .pv (.i v101.strength.high), .pv (.i v101.fall.low), .pv (.i v101.fall.high)])], [(97, ⟨57, 2, List.map cSpan s.2.2⟩)]⟩ : Env)) (fun s => s_90_l1 n v0 v101 s.1 s.2.1 s.2.2 = some r) (fun s => s.1) (n, 0, []) h (has_mk ⟨q, q, q, q, trivial⟩ ⟨q, q, trivial⟩ ⟨q, trivial⟩ q) ?_
  rintro ⟨k1, v135, v136⟩ h
  change s_90_l1 n v0 v101 k1 v135 v136 = some r at h
  rcases k1 with _ | k1
  ·rw [s_90_l1] at h
   cases h
  ·rw [s_90_l1] at h
   change W _ _ (⟨[(2, .box 2 0), (6, .box 6 0), (7, .row 97), (8, .pv (.i v135))], [(2, 27, [.pv (.sl (List.map cAcid v0.acids)), .pv (.i v0.known), .pv (.i v0.hours), .pv (.sl (List.map eI v0.adds)), .pv (.sl (List.map cStrip v0.strips)), .pv (.sl (List.map cBatch v0.batches))]), (6, 137, [.pv (.i v101.strength.low), .pv (.i v101.strength.high), .pv (.i v101.fall.low), .pv (.i v101.fall.high)])], [(97, ⟨57, 2, List.map cSpan v136⟩)]⟩ : Env) _
   refine W.seq<|W.seq<|W.region<|vm q q q q q<|ov (g_fld q q q q fl_27_2) q<|ov (g_load1 q q q q q q ag_3) q<|ov (g_lss q q q q q) q<|on0<|Sq.n<|W.cond (b := (decide (v135 < v0.hours))) q (fun hc => ?_) (fun hc => ?_)
   ·have h := bif_t h hc
    refine W.skip<|Sq.n<|W.seq<|W.block<|W.seq ?_
    obtain ⟨v152, e152, h⟩ := bind_some h
    obtain ⟨v153, e153, h⟩ := bind_some h
    refine W.draw (m := 18) Checked.mixed (Pre.v (GSG.of q (g_fld q q q q fl_137_0)) ((Pre.v (GSG.of q (g_fld q q q q fl_57_0)) ((Pre.v (GSG.of q (g_load1 q q q q q q ag_3)) ((Pre.v (GSG.of q (g_fld q q q q fl_27_3)) ((Pre.v (GSG.of q (g_load1 q q q q q q ag_23)) ((Pre.v (GSG.of q (g_idxI (l := v0.adds) (enc := eI) e152 q q q q q el_23 q)) ((Pre.v (GSG.of q (g_loadR1 q q q q q ag_3)) ((Pre.v (GSG.of q (g_add q q q q q)) ((Pre.v (GSG.of q (g_fld q q q q fl_137_0)) ((Pre.v (GSG.of q (g_fld q q q q fl_57_1)) ((Pre.v (GSG.of q (g_load1 q q q q q q ag_3)) ((Pre.v (GSG.of q (g_fld q q q q fl_27_3)) ((Pre.v (GSG.of q (g_load1 q q q q q q ag_23)) ((Pre.v (GSG.of q (g_idxI (l := v0.adds) (enc := eI) e153 q q q q q el_23 q)) ((Pre.v (GSG.of q (g_loadR1 q q q q q ag_3)) ((Pre.v (GSG.of q (g_add q q q q q)) ((Pre.v (GSG.of q (g_build (cs := (cSpan (Span.mk (wr (v101.strength.low + v152)) (wr (v101.strength.high + v153))))) q q q zr_57 st_57 q q)) ((Pre.b (GSG.of q (g_alloc q q q zr_57)) q (Pre.nil _)))))))))))))))))))))))))))))))))))) (by kernel_rfl)<|Ops.step q (s_storeB q q q q q q sz_57 q q)<|on0<|Sq.n<|W.seqJ (σ := Span) (fun s => (⟨[(2, .box 2 0), (6, .box 6 0), (7, .row 97), (8, .pv (.i v135)), (9, .box 9 0)], [(2, 27, [.pv (.sl (List.map cAcid v0.acids)), .pv (.i v0.known), .pv (.i v0.hours), .pv (.sl (List.map eI v0.adds)), .pv (.sl (List.map cStrip v0.strips)), .pv (.sl (List.map cBatch v0.batches))]), (6, 137, [.pv (.i v101.strength.low), .pv (.i v101.strength.high), .pv (.i v101.fall.low), .pv (.i v101.fall.high)]), (9, 57, [.pv (.i s.low), .pv (.i s.high)])], [(97, ⟨57, 2, List.map cSpan v136⟩)]⟩ : Env)) (fun s => s_90_j8 n (s_90_l1 n v0 v101 k1) v0 v135 v136 s = some r) ?_ ?_
    ·refine W.seq<|W.region<|vm q q q q q<|ov (g_gtr q q q q q) q<|on0<|Sq.n<|W.cond (b := (decide (0 < v135))) q (fun hc => ?_) (fun hc => ?_)
     ·have h := bif_t h hc
      obtain ⟨v154, e154, h⟩ := bind_some h
      obtain ⟨v155, e155, h⟩ := bind_some h
      refine W.draw (m := 11) Checked.mixed (Pre.v (GSG.of q (g_loadA q q q q q ag_137 sz_137 q q)) ((Pre.v (GSG.of q (g_fld q q q q fl_27_3)) ((Pre.v (GSG.of q (g_load1 q q q q q q ag_23)) ((Pre.v (GSG.of q (g_move q q q q)) ((Pre.v (GSG.of q (g_idxI (l := v0.adds) (enc := eI) e154 q q q q q el_23 q)) ((Pre.v (GSG.of q (g_loadR1 q q q q q ag_3)) ((Pre.v (GSG.of q (g_move q q q q)) ((Pre.v (GSG.of q (g_move q q q q)) ((Pre.v (GSG.of q (g_sub q q q q q)) ((Pre.v (GSG.of q (g_idxPI (l := v136) (enc := cSpan) e155 q q q q q q el_30)) ((Pre.v (GSG.of q (g_loadPAI (sz := 2) (l := v136) (enc := cSpan) e155 q q q q q ag_57 sz_57)) (Pre.nil _)))))))))))))))))))))) (by kernel_rfl) ?_
      obtain ⟨v156, e156, h⟩ := bind_some h
      refine ov (g_call q q q ca_115 q (c_115 _ _ _ _ e156)) q<|Ops.step q (s_storeB q q q q q q sz_57 q q)<|on0<|Sq.n<|⟨v156, h, has_mk ⟨q, q, q, q, q, trivial⟩ ⟨q, q, q, trivial⟩ ⟨q, trivial⟩ q⟩
     ·have h := bif_f h hc
      refine W.skip<|Sq.n<|⟨(Span.mk (wr (v101.strength.low + v152)) (wr (v101.strength.high + v153))), h, has_mk ⟨q, q, q, q, q, trivial⟩ ⟨q, q, q, trivial⟩ ⟨q, trivial⟩ q⟩
    ·rintro v157 h
     change s_90_j8 n (s_90_l1 n v0 v101 k1) v0 v135 v136 v157 = some r at h
     unfold s_90_j8 at h
     change W _ _ (⟨[(2, .box 2 0), (6, .box 6 0), (7, .row 97), (8, .pv (.i v135)), (9, .box 9 0)], [(2, 27, [.pv (.sl (List.map cAcid v0.acids)), .pv (.i v0.known), .pv (.i v0.hours), .pv (.sl (List.map eI v0.adds)), .pv (.sl (List.map cStrip v0.strips)), .pv (.sl (List.map cBatch v0.batches))]), (6, 137, [.pv (.i v101.strength.low), .pv (.i v101.strength.high), .pv (.i v101.fall.low), .pv (.i v101.fall.high)]), (9, 57, [.pv (.i v157.low), .pv (.i v157.high)])], [(97, ⟨57, 2, List.map cSpan v136⟩)]⟩ : Env) _
     refine W.seq<|W.seq<|W.region<|va q q q q q<|on0<|Sq.n<|W.block<|W.loop (σ := Nat × Int × Span) (fun s => (⟨[(2, .box 2 0), (6, .box 6 0), (7, .row 97), (8, .pv (.i v135)), (9, .box 9 0), (10, .pv (.i s.2.1))], [(2, 27, [.pv (.sl (List.map cAcid v0.acids)), .pv (.i v0.known), .pv (.i v0.hours), .pv (.sl (List.map eI v0.adds)), .pv (.sl (List.map cStrip v0.strips)), .pv (.sl (List.map cBatch v0.batches))]), (6, 137, [.pv (.i v101.strength.low), .pv (.i v101.strength.high), .pv (.i v101.fall.low), .pv (.i v101.fall.high)]), (9, 57, [.pv (.i s.2.2.low), .pv (.i s.2.2.high)])], [(97, ⟨57, 2, List.map cSpan v136⟩)]⟩ : Env)) (fun s => s_90_l9 n (s_90_l1 n v0 v101 k1) v0 v135 v136 s.1 s.2.1 s.2.2 = some r) (fun s => s.1) (n, 0, v157) h (has_mk ⟨q, q, q, q, q, q, trivial⟩ ⟨q, q, q, trivial⟩ ⟨q, trivial⟩ q) ?_
     rintro ⟨k9, v160, v161⟩ h
     change s_90_l9 n (s_90_l1 n v0 v101 k1) v0 v135 v136 k9 v160 v161 = some r at h
     rcases k9 with _ | k9
     ·rw [s_90_l9] at h
      cases h
     ·rw [s_90_l9] at h
      change W _ _ (⟨[(2, .box 2 0), (6, .box 6 0), (7, .row 97), (8, .pv (.i v135)), (9, .box 9 0), (10, .pv (.i v160))], [(2, 27, [.pv (.sl (List.map cAcid v0.acids)), .pv (.i v0.known), .pv (.i v0.hours), .pv (.sl (List.map eI v0.adds)), .pv (.sl (List.map cStrip v0.strips)), .pv (.sl (List.map cBatch v0.batches))]), (6, 137, [.pv (.i v101.strength.low), .pv (.i v101.strength.high), .pv (.i v101.fall.low), .pv (.i v101.fall.high)]), (9, 57, [.pv (.i v161.low), .pv (.i v161.high)])], [(97, ⟨57, 2, List.map cSpan v136⟩)]⟩ : Env) _
      refine W.seq<|W.seq<|W.region<|vm q q q q q<|ov (g_fld q q q q fl_27_4) q<|ov (g_load1 q q q q q q ag_24) q<|ov (g_lenM (l := v0.strips) (enc := cStrip) q ul_24 q q q) q<|ov (g_lss q q q q q) q<|on0<|Sq.n<|W.cond (b := (decide (v160 < (v0.strips.length : Int)))) q (fun hc => ?_) (fun hc => ?_)
      ·have h := bif_t h hc
       refine W.skip<|Sq.n<|W.seq<|W.block<|W.seq<|W.region<|ov (g_fld q q q q fl_27_4) q<|ov (g_load1 q q q q q q ag_24) q<|vm q q q q q ?_
       obtain ⟨v164, e164, h⟩ := bind_some h
       refine ov (g_idxI (l := v0.strips) (enc := cStrip) e164 q q q q q el_24 q) q<|ov (g_loadRA q q q q ag_92 sz_92 q q) q<|ob (g_alloc q q q zr_92) q q<|Ops.step q (s_storeB q q q q q q sz_92 q q)<|on0<|Sq.n<|W.seq<|W.region<|ov (g_fld q q q q fl_92_0) q<|ov (g_load1 q q q q q q ag_3) q<|vm q q q q q<|ov (g_eql q q q q q) q<|on0<|Sq.n<|W.cond (b := (decide (v164.hour = v135))) q (fun hc => ?_) (fun hc => ?_)
       ·have h := bif_t h hc
        refine W.region<|ov (g_loadA q q q q q ag_57 sz_57 q q) q<|ov (g_fld q q q q fl_92_1) q<|ov (g_load1 q q q q q q ag_3) q<|ov (g_fld q q q q fl_92_2) q<|ov (g_load1 q q q q q q ag_3) q<|ov (g_sub q q q q q) q<|ov (g_fld q q q q fl_92_1) q<|ov (g_load1 q q q q q q ag_3) q<|ov (g_fld q q q q fl_92_2) q<|ov (g_load1 q q q q q q ag_3) q<|ov (g_add q q q q q) q<|ov (g_build (cs := (cSpan (Span.mk (wr (v164.seen - v164.off)) (wr (v164.seen + v164.off))))) q q q zr_57 st_57 q q) q ?_
        obtain ⟨v165, e165, h⟩ := bind_some h
        exact ov (g_call q q q ca_138 q (c_138 _ _ _ e165)) q<|Ops.step q (s_storeB q q q q q q sz_57 q q)<|on0<|Bl.n<|Sq.n<|W.region<|vm q q q q q<|ov (g_add q q q q q) q<|va q q q q q<|on0<|Sq.n<|⟨(k9, wr (v160 + 1), v165), h, Nat.lt_succ_self _, has_mk ⟨q, q, q, q, q, q, trivial⟩ ⟨q, q, q, trivial⟩ ⟨q, trivial⟩ q⟩
       ·have h := bif_f h hc
        exact W.skip<|Bl.n<|Sq.n<|W.region<|vm q q q q q<|ov (g_add q q q q q) q<|va q q q q q<|on0<|Sq.n<|⟨(k9, wr (v160 + 1), v161), h, Nat.lt_succ_self _, has_mk ⟨q, q, q, q, q, q, trivial⟩ ⟨q, q, q, trivial⟩ ⟨q, trivial⟩ q⟩
      ·have h := bif_f h hc
       refine W.exit<|Sq.e<|Sq.e<|Bl.e<|Sq.n<|W.seq<|W.seq<|W.region<|ov (g_fld q q q q fl_57_0) q<|ov (g_load1 q q q q q q ag_3) q<|ov (g_fld q q q q fl_57_1) q<|ov (g_load1 q q q q q q ag_3) q<|ov (g_gtr q q q q q) q<|on0<|Sq.n<|W.cond (b := (decide (v161.high < v161.low))) q (fun hc => ?_) (fun hc => ?_)
       ·have h := bif_t h hc
        refine W.seq<|W.region<|va q q q q q<|va q q q q q<|on0<|Sq.n<|W.conv (Conv.nilsl 4 q)<|W.ret<|Sq.r<|Bl.r<|Sq.r<|Sq.r<|Bl.r<|Sq.r ?_
        obtain rfl := Option.some.inj h
        exact Fin.r q (.cons (.tmp _ _ q) (.cons (.tmp _ _ q) .nil)) q
       ·have h := bif_f h hc
        refine W.skip<|Sq.n<|W.region<|vm q q q q q<|ov (g_loadA q q q q q ag_57 sz_57 q q) q<|Ops.r (g_buildSlice (cs := [.val (.int .i64 v161.low), .val (.int .i64 v161.high)]) (es := List.map cSpan [v161]) q q q el_30 ⟨_, zr_57⟩ q q q q q q) q q ?_
        obtain ⟨v166, e166, h⟩ := bind_some h
        exact Ops.step q (s_appendR (enc := cSpan) e166 q q q q q q q q ex_30 (fun _ => q))<|va q q q q q<|on0<|Bl.n<|Sq.n<|W.region<|vm q q q q q<|ov (g_add q q q q q) q<|va q q q q q<|on0<|Sq.n<|⟨(k1, wr (v135 + 1), v166), h, Nat.lt_succ_self _, has_mk ⟨q, q, q, q, trivial⟩ ⟨q, q, trivial⟩ ⟨q, trivial⟩ q⟩
   ·have h := bif_f h hc
    refine W.exit<|Sq.e<|Sq.e<|Bl.e<|Sq.n<|W.seq<|W.seq<|W.region<|ov (g_fld q q q q fl_27_2) q<|ov (g_load1 q q q q q q ag_3) q<|ov (g_sub q q q q q) q<|va q q q q q<|on0<|Sq.n<|W.block<|W.loop (σ := Nat × Int × (List Span)) (fun s => (⟨[(2, .box 2 0), (6, .box 6 0), (7, .row 97), (12, .pv (.i s.2.1))], [(2, 27, [.pv (.sl (List.map cAcid v0.acids)), .pv (.i v0.known), .pv (.i v0.hours), .pv (.sl (List.map eI v0.adds)), .pv (.sl (List.map cStrip v0.strips)), .pv (.sl (List.map cBatch v0.batches))]), (6, 137, [.pv (.i v101.strength.low), .pv (.i v101.strength.high), .pv (.i v101.fall.low), .pv (.i v101.fall.high)])], [(97, ⟨57, 2, List.map cSpan s.2.2⟩)]⟩ : Env)) (fun s => s_90_l10 n v0 v101 s.1 s.2.1 s.2.2 = some r) (fun s => s.1) (n, wr (v0.hours - 2), v136) h (has_mk ⟨q, q, q, q, trivial⟩ ⟨q, q, trivial⟩ ⟨q, trivial⟩ q) ?_
    rintro ⟨k10, v173, v174⟩ h
    change s_90_l10 n v0 v101 k10 v173 v174 = some r at h
    rcases k10 with _ | k10
    ·rw [s_90_l10] at h
     cases h
    ·rw [s_90_l10] at h
     change W _ _ (⟨[(2, .box 2 0), (6, .box 6 0), (7, .row 97), (12, .pv (.i v173))], [(2, 27, [.pv (.sl (List.map cAcid v0.acids)), .pv (.i v0.known), .pv (.i v0.hours), .pv (.sl (List.map eI v0.adds)), .pv (.sl (List.map cStrip v0.strips)), .pv (.sl (List.map cBatch v0.batches))]), (6, 137, [.pv (.i v101.strength.low), .pv (.i v101.strength.high), .pv (.i v101.fall.low), .pv (.i v101.fall.high)])], [(97, ⟨57, 2, List.map cSpan v174⟩)]⟩ : Env) _
     refine W.seq<|W.seq<|W.region<|vm q q q q q<|ov (g_geq q q q q q) q<|on0<|Sq.n<|W.cond (b := (decide (0 ≤ v173))) q (fun hc => ?_) (fun hc => ?_)
     ·have h := bif_t h hc
      refine W.skip<|Sq.n<|W.seq<|W.block ?_
      obtain ⟨v181, e181, h⟩ := bind_some h
      obtain ⟨v182, e182, h⟩ := bind_some h
      obtain ⟨v183, e183, h⟩ := bind_some h
      obtain ⟨v184, e184, h⟩ := bind_some h
      obtain ⟨v185, e185, h⟩ := bind_some h
      refine W.draw (m := 20) Checked.mixed (Pre.v (GSG.of q (g_move q q q q)) ((Pre.v (GSG.of q (g_move q q q q)) ((Pre.v (GSG.of q (g_move q q q q)) ((Pre.v (GSG.of q (g_move q q q q)) ((Pre.v (GSG.of q (g_idxPI (l := v174) (enc := cSpan) e181 q q q q q q el_30)) ((Pre.v (GSG.of q (g_loadPAI (sz := 2) (l := v174) (enc := cSpan) e181 q q q q q ag_57 sz_57)) ((Pre.v (GSG.of q (g_loadA q q q q q ag_137 sz_137 q q)) ((Pre.v (GSG.of q (g_fld q q q q fl_27_3)) ((Pre.v (GSG.of q (g_load1 q q q q q q ag_23)) ((Pre.v (GSG.of q (g_move q q q q)) ((Pre.v (GSG.of q (g_add q q q q q)) ((Pre.v (GSG.of q (g_idxI (l := v0.adds) (enc := eI) e182 q q q q q el_23 q)) ((Pre.v (GSG.of q (g_loadR1 q q q q q ag_3)) ((Pre.v (GSG.of q (g_move q q q q)) ((Pre.v (GSG.of q (g_move q q q q)) ((Pre.v (GSG.of q (g_add q q q q q)) ((Pre.v (GSG.of q (g_idxPI (l := v174) (enc := cSpan) e183 q q q q q q el_30)) ((Pre.v (GSG.of q (g_loadPAI (sz := 2) (l := v174) (enc := cSpan) e183 q q q q q ag_57 sz_57)) ((Pre.v (GSG.of q (g_call q q q ca_142 q (c_142 _ _ _ _ e184))) ((Pre.v (GSG.of q (g_call q q q ca_138 q (c_138 _ _ _ e185))) (Pre.nil _)))))))))))))))))))))))))))))))))))))))) (by kernel_rfl) ?_
      obtain ⟨v186, e186, h⟩ := bind_some h
      exact ov (g_idxPI (l := v174) (enc := cSpan) e186 q q q q q q el_30) q<|Ops.step q (s_storePI (sz := 2) (l := v174) (enc := cSpan) v185 e186 q q q q q q q sz_57 q q)<|on0<|Bl.n<|Sq.n<|W.region<|vm q q q q q<|ov (g_sub q q q q q) q<|va q q q q q<|on0<|Sq.n<|⟨(k10, wr (v173 - 1), sts v174 v173 v185), h, Nat.lt_succ_self _, has_mk ⟨q, q, q, q, trivial⟩ ⟨q, q, trivial⟩ ⟨q, trivial⟩ q⟩
     ·have h := bif_f h hc
      refine W.exit<|Sq.e<|Sq.e<|Bl.e<|Sq.n<|W.seq<|W.region<|vm q q q q q<|va q q q q q<|va q q q q q<|on0<|Sq.n<|W.share (k := 97) q<|W.ret ?_
      obtain rfl := Option.some.inj h
      exact Fin.r q (.cons (.tmp _ _ q) (.cons (.tmp _ _ q) .nil)) q
end Go.Proofs.YtohmhlkdgfcaeaaGreatDoor
namespace Go.Proofs.YtohmhlkdgfcaeaaGreatDoor
open Go Go.RowKit
set_option maxRecDepth 4000
attribute [local irreducible] W Ops GS GSG
def s_80_l1 (n : Nat) (v0 : Drum) : Nat → Int → (List Int) → Option ((List Int))
| 0, _, _ => none
| k1 + 1, v107, v108 => bif (decide (v107 < (v0.acids.length : Int))) then ( (s_90 n v0 v107).bind fun v111 => bif v111.2 then ( (app v108 ([v107])).bind fun v112 => (s_80_l1 n v0 k1) (wr (v107 + 1)) v112 ) else ( (s_80_l1 n v0 k1) (wr (v107 + 1)) v108 ) ) else ( some (v108) )
def s_80 (n : Nat) (v0 : Drum) : Option ((List Int)) := s_80_l1 n v0 n 0 []
theorem c_80 (n : Nat) (v0 : Drum) {r : ((List Int))} (h : s_80 n v0 = some r) :
  Fun Tryz.prog 80 [.agg (cDrum v0)] (.ret (.sl (r.map eI))) := by
 unfold s_80 at h
 refine enterW 26 Tryz.func80 q q q ?_
 intro w0 F0
 change W _ _ (Ev [(0, .pv (.agg (cDrum v0)))]) _
 refine W.seq<|W.region<|ob (g_box q q q q q) q q<|va q q q q q<|on0<|Sq.n<|W.seq<|W.region<|va q q q q q<|on0<|Sq.n<|W.seq<|W.seq<|W.region<|va q q q q q<|on0<|Sq.n<|W.block<|W.conv (Conv.nilrow 3 24 3 1 q q)<|W.loop (σ := Nat × Int × (List Int)) (fun s => (⟨[(1, .box 1 0), (3, .row 24), (4, .pv (.i s.2.1))], [(1, 27, [.pv (.sl (List.map cAcid v0.acids)), .pv (.i v0.known), .pv (.i v0.hours), .pv (.sl (List.map eI v0.adds)), .pv (.sl (List.map cStrip v0.strips)), .pv (.sl (List.map cBatch v0.batches))])], [(24, ⟨3, 1, List.map eI s.2.2⟩)]⟩ : Env)) (fun s => s_80_l1 n v0 s.1 s.2.1 s.2.2 = some r) (fun s => s.1) (n, 0, []) h (has_mk ⟨q, q, q, trivial⟩ ⟨q, trivial⟩ ⟨q, trivial⟩ q) ?_
 rintro ⟨k1, v107, v108⟩ h
 change s_80_l1 n v0 k1 v107 v108 = some r at h
 rcases k1 with _ | k1
 ·rw [s_80_l1] at h
  cases h
 ·rw [s_80_l1] at h
  change W _ _ (⟨[(1, .box 1 0), (3, .row 24), (4, .pv (.i v107))], [(1, 27, [.pv (.sl (List.map cAcid v0.acids)), .pv (.i v0.known), .pv (.i v0.hours), .pv (.sl (List.map eI v0.adds)), .pv (.sl (List.map cStrip v0.strips)), .pv (.sl (List.map cBatch v0.batches))])], [(24, ⟨3, 1, List.map eI v108⟩)]⟩ : Env) _
  refine W.seq<|W.seq<|W.region<|vm q q q q q<|ov (g_fld q q q q fl_27_0) q<|ov (g_load1 q q q q q q ag_22) q<|ov (g_lenM (l := v0.acids) (enc := cAcid) q ul_22 q q q) q<|ov (g_lss q q q q q) q<|on0<|Sq.n<|W.cond (b := (decide (v107 < (v0.acids.length : Int)))) q (fun hc => ?_) (fun hc => ?_)
  ·have h := bif_t h hc
   refine W.skip<|Sq.n<|W.seq<|W.block<|W.seq<|W.region<|ov (g_loadA q q q q q ag_27 sz_27 q q) q<|vm q q q q q ?_
   obtain ⟨v111, e111, h⟩ := bind_some h
   refine ov (g_call q q q ca_90 q (c_90 _ _ _ e111)) q<|vm q q q q q<|ov (g_extract q q q q q) q<|ov (g_extract q q q q q) q<|va q q q q q<|va q q q q q<|on0<|Sq.n<|W.seq<|W.region<|vm q q q q q<|on0<|Sq.n<|W.cond (b := v111.2) q (fun hc => ?_) (fun hc => ?_)
   ·have h := bif_t h hc
    refine W.region<|vm q q q q q<|vm q q q q q<|Ops.r (g_buildSlice (cs := [.val (.int .i64 v107)]) (es := List.map eI [v107]) q q q el_23 ⟨_, zr_3⟩ q q q q q q) q q ?_
    obtain ⟨v112, e112, h⟩ := bind_some h
    exact Ops.step q (s_appendR (enc := eI) e112 q q q q q q q q ex_23 (fun _ => q))<|va q q q q q<|on0<|Bl.n<|Sq.n<|W.region<|vm q q q q q<|ov (g_add q q q q q) q<|va q q q q q<|on0<|Sq.n<|⟨(k1, wr (v107 + 1), v112), h, Nat.lt_succ_self _, has_mk ⟨q, q, q, trivial⟩ ⟨q, trivial⟩ ⟨q, trivial⟩ q⟩
   ·have h := bif_f h hc
    exact W.skip<|Bl.n<|Sq.n<|W.region<|vm q q q q q<|ov (g_add q q q q q) q<|va q q q q q<|on0<|Sq.n<|⟨(k1, wr (v107 + 1), v108), h, Nat.lt_succ_self _, has_mk ⟨q, q, q, trivial⟩ ⟨q, trivial⟩ ⟨q, trivial⟩ q⟩
  ·have h := bif_f h hc
   refine W.exit<|Sq.e<|Sq.e<|Bl.e<|Sq.n<|W.seq<|W.region<|vm q q q q q<|va q q q q q<|on0<|Sq.n<|W.share (k := 24) q<|W.ret ?_
   obtain rfl := Option.some.inj h
   exact Fin.r q (.cons (.tmp _ _ q) .nil) q
end Go.Proofs.YtohmhlkdgfcaeaaGreatDoor
namespace Go.Proofs.YtohmhlkdgfcaeaaGreatDoor
open Go Go.RowKit
set_option maxRecDepth 4000
attribute [local irreducible] W Ops GS GSG
def s_89 (n : Nat) (v0 : Drum) : Option (Bool) := (s_80 n v0).bind fun v101 => some ((decide (0 < (v101.length : Int))))
theorem c_89 (n : Nat) (v0 : Drum) {r : (Bool)} (h : s_89 n v0 = some r) :
  Fun Tryz.prog 89 [.agg (cDrum v0)] (.ret (.b r)) := by
 unfold s_89 at h
 refine enterW 7 Tryz.func89 q q q ?_
 intro w0 F0
 change W _ _ (Ev [(0, .pv (.agg (cDrum v0)))]) _
 refine W.seq<|W.region<|ob (g_box q q q q q) q q<|va q q q q q<|on0<|Sq.n<|W.seq<|W.region<|ov (g_loadA q q q q q ag_27 sz_27 q q) q ?_
 obtain ⟨v101, e101, h⟩ := bind_some h
 refine ov (g_call q q q ca_80 q (c_80 _ _ e101)) q<|ov (g_lenM (l := v101) (enc := eI) q ul_23 q q q) q<|ov (g_gtr q q q q q) q<|va q q q q q<|on0<|Sq.n<|W.ret ?_
 obtain rfl := Option.some.inj h
 exact Fin.r q (.cons (.tmp _ _ q) .nil) q
def s_29_j18 (K15 : Int → (List Span) → Option ((List Span))) (v201 : ((List Span) × Bool)) (v210 : Int) (v222 : (List Span)) : Option ((List Span)) := (ix v222 v210).bind fun v223 => (ix v201.1 v210).bind fun v224 => (ix v222 v210).bind fun v225 => (ix v201.1 v210).bind fun v226 => (ix v222 v210).bind fun v227 =>
 K15 (wr (v210 + 1)) (sts v222 v210 (Span.mk (min v223.low v224.low) (max v225.high v226.high)))
def s_29_l15 (K1 : Int → (List Span) → Option ((List Span))) (v0 : Drum) (v170 : Int) (v201 : ((List Span) × Bool)) : Nat → Int → (List Span) → Option ((List Span))
| 0, _, _ => none
| k15 + 1, v210, v211 => bif (decide (v210 < v0.hours)) then ( bif (decide (v170 = 0)) then ( (ix v201.1 v210).bind fun v220 => (app v211 ([v220])).bind fun v221 => s_29_j18 (s_29_l15 K1 v0 v170 v201 k15) v201 v210 v221 ) else ( s_29_j18 (s_29_l15 K1 v0 v170 v201 k15) v201 v210 v211 ) ) else ( K1 (wr (v170 + 1)) v211 )
def s_29_l1 (n : Nat) (v0 : Drum) (v101 : (List Int)) : Nat → Int → (List Span) → Option ((List Span))
| 0, _, _ => none
| k1 + 1, v170, v171 => bif (decide (v170 < (v101.length : Int))) then ( (ix v101 v170).bind fun v200 => (s_90 n v0 v200).bind fun v201 => s_29_l15 (s_29_l1 n v0 v101 k1) v0 v170 v201 n 0 v171 ) else ( some (v171) )
def s_29 (n : Nat) (v0 : Drum) : Option ((List Span)) := (s_80 n v0).bind fun v101 => s_29_l1 n v0 v101 n 0 []
theorem c_29 (n : Nat) (v0 : Drum) {r : ((List Span))} (h : s_29 n v0 = some r) :
  Fun Tryz.prog 29 [.agg (cDrum v0)] (.ret (.sl (r.map cSpan))) := by
 unfold s_29 at h
 refine enterW 68 Tryz.func29 q q q ?_
 intro w0 F0
 change W _ _ (Ev [(0, .pv (.agg (cDrum v0)))]) _
 refine W.seq<|W.region<|ob (g_box q q q q q) q q<|va q q q q q<|on0<|Sq.n<|W.seq<|W.region<|ov (g_loadA q q q q q ag_27 sz_27 q q) q ?_
 obtain ⟨v101, e101, h⟩ := bind_some h
 refine ov (g_call q q q ca_80 q (c_80 _ _ e101)) q<|va q q q q q<|on0<|Sq.n<|W.seq<|W.region<|va q q q q q<|on0<|Sq.n<|W.seq<|W.seq<|W.region<|va q q q q q<|on0<|Sq.n<|W.block<|W.conv (Conv.nilrow 4 40 57 2 q q)<|W.loop (σ := Nat × Int × (List Span)) (fun s => (⟨[(1, .box 1 0), (3, .pv (.sl (List.map eI v101))), (4, .row 40), (5, .pv (.i s.2.1))], [(1, 27, [.pv (.sl (List.map cAcid v0.acids)), .pv (.i v0.known), .pv (.i v0.hours), .pv (.sl (List.map eI v0.adds)), .pv (.sl (List.map cStrip v0.strips)), .pv (.sl (List.map cBatch v0.batches))])], [(40, ⟨57, 2, List.map cSpan s.2.2⟩)]⟩ : Env)) (fun s => s_29_l1 n v0 v101 s.1 s.2.1 s.2.2 = some r) (fun s => s.1) (n, 0, []) h (has_mk ⟨q, q, q, q, trivial⟩ ⟨q, trivial⟩ ⟨q, trivial⟩ q) ?_
 rintro ⟨k1, v170, v171⟩ h
 change s_29_l1 n v0 v101 k1 v170 v171 = some r at h
 rcases k1 with _ | k1
 ·rw [s_29_l1] at h
  cases h
 ·rw [s_29_l1] at h
  change W _ _ (⟨[(1, .box 1 0), (3, .pv (.sl (List.map eI v101))), (4, .row 40), (5, .pv (.i v170))], [(1, 27, [.pv (.sl (List.map cAcid v0.acids)), .pv (.i v0.known), .pv (.i v0.hours), .pv (.sl (List.map eI v0.adds)), .pv (.sl (List.map cStrip v0.strips)), .pv (.sl (List.map cBatch v0.batches))])], [(40, ⟨57, 2, List.map cSpan v171⟩)]⟩ : Env) _
  refine W.seq<|W.seq<|W.region<|vm q q q q q<|vm q q q q q<|ov (g_lenM (l := v101) (enc := eI) q ul_23 q q q) q<|ov (g_lss q q q q q) q<|on0<|Sq.n<|W.cond (b := (decide (v170 < (v101.length : Int)))) q (fun hc => ?_) (fun hc => ?_)
  ·have h := bif_t h hc
   refine W.skip<|Sq.n<|W.seq<|W.block<|W.seq ?_
   obtain ⟨v200, e200, h⟩ := bind_some h
   obtain ⟨v201, e201, h⟩ := bind_some h
   refine W.draw (m := 10) Checked.mixed (Pre.v (GSG.of q (g_loadA q q q q q ag_27 sz_27 q q)) ((Pre.v (GSG.of q (g_move q q q q)) ((Pre.v (GSG.of q (g_move q q q q)) ((Pre.v (GSG.of q (g_idxI (l := v101) (enc := eI) e200 q q q q q el_23 q)) ((Pre.v (GSG.of q (g_loadR1 q q q q q ag_3)) ((Pre.v (GSG.of q (g_call q q q ca_90 q (c_90 _ _ _ e201))) ((Pre.v (GSG.of q (g_move q q q q)) ((Pre.v (GSG.of q (g_extract q q q q q)) ((Pre.v (GSG.of q (g_extract q q q q q)) ((Pre.v (GSG.of q (g_assign q q q q)) (Pre.nil _)))))))))))))))))))) (by kernel_rfl)<|va q q q q q<|on0<|Sq.n<|W.seq<|W.region<|va q q q q q<|on0<|Sq.n<|W.block<|W.loop (σ := Nat × Int × (List Span)) (fun s => (⟨[(1, .box 1 0), (3, .pv (.sl (List.map eI v101))), (4, .row 40), (5, .pv (.i v170)), (6, .pv (.sl (List.map cSpan v201.1))), (8, .pv (.i s.2.1))], [(1, 27, [.pv (.sl (List.map cAcid v0.acids)), .pv (.i v0.known), .pv (.i v0.hours), .pv (.sl (List.map eI v0.adds)), .pv (.sl (List.map cStrip v0.strips)), .pv (.sl (List.map cBatch v0.batches))])], [(40, ⟨57, 2, List.map cSpan s.2.2⟩)]⟩ : Env)) (fun s => s_29_l15 (s_29_l1 n v0 v101 k1) v0 v170 v201 s.1 s.2.1 s.2.2 = some r) (fun s => s.1) (n, 0, v171) h (has_mk ⟨q, q, q, q, q, q, trivial⟩ ⟨q, trivial⟩ ⟨q, trivial⟩ q) ?_
   rintro ⟨k15, v210, v211⟩ h
   change s_29_l15 (s_29_l1 n v0 v101 k1) v0 v170 v201 k15 v210 v211 = some r at h
   rcases k15 with _ | k15
   ·rw [s_29_l15] at h
    cases h
   ·rw [s_29_l15] at h
    change W _ _ (⟨[(1, .box 1 0), (3, .pv (.sl (List.map eI v101))), (4, .row 40), (5, .pv (.i v170)), (6, .pv (.sl (List.map cSpan v201.1))), (8, .pv (.i v210))], [(1, 27, [.pv (.sl (List.map cAcid v0.acids)), .pv (.i v0.known), .pv (.i v0.hours), .pv (.sl (List.map eI v0.adds)), .pv (.sl (List.map cStrip v0.strips)), .pv (.sl (List.map cBatch v0.batches))])], [(40, ⟨57, 2, List.map cSpan v211⟩)]⟩ : Env) _
    refine W.seq<|W.seq<|W.region<|vm q q q q q<|ov (g_fld q q q q fl_27_2) q<|ov (g_load1 q q q q q q ag_3) q<|ov (g_lss q q q q q) q<|on0<|Sq.n<|W.cond (b := (decide (v210 < v0.hours))) q (fun hc => ?_) (fun hc => ?_)
    ·have h := bif_t h hc
     refine W.skip<|Sq.n<|W.seq<|W.block<|W.seqJ (σ := (List Span)) (fun s => (⟨[(1, .box 1 0), (3, .pv (.sl (List.map eI v101))), (4, .row 40), (5, .pv (.i v170)), (6, .pv (.sl (List.map cSpan v201.1))), (8, .pv (.i v210))], [(1, 27, [.pv (.sl (List.map cAcid v0.acids)), .pv (.i v0.known), .pv (.i v0.hours), .pv (.sl (List.map eI v0.adds)), .pv (.sl (List.map cStrip v0.strips)), .pv (.sl (List.map cBatch v0.batches))])], [(40, ⟨57, 2, List.map cSpan s⟩)]⟩ : Env)) (fun s => s_29_j18 (s_29_l15 (s_29_l1 n v0 v101 k1) v0 v170 v201 k15) v201 v210 s = some r) ?_ ?_
     ·refine W.seq<|W.region<|vm q q q q q<|ov (g_eql q q q q q) q<|on0<|Sq.n<|W.cond (b := (decide (v170 = 0))) q (fun hc => ?_) (fun hc => ?_)
      ·have h := bif_t h hc
       refine W.region<|vm q q q q q<|vm q q q q q<|vm q q q q q ?_
       obtain ⟨v220, e220, h⟩ := bind_some h
       refine ov (g_idxI (l := v201.1) (enc := cSpan) e220 q q q q q el_30 q) q<|ov (g_loadRA q q q q ag_57 sz_57 q q) q<|Ops.r (g_buildSlice (cs := [.val (.int .i64 v220.low), .val (.int .i64 v220.high)]) (es := List.map cSpan [v220]) q q q el_30 ⟨_, zr_57⟩ q q q q q q) q q ?_
       obtain ⟨v221, e221, h⟩ := bind_some h
       refine Ops.step q (s_appendR (enc := cSpan) e221 q q q q q q q q ex_30 (fun _ => q))<|va q q q q q<|on0<|Sq.n<|⟨v221, h, has_mk ⟨q, q, q, q, q, q, trivial⟩ ⟨q, trivial⟩ ⟨q, trivial⟩ q⟩
      ·have h := bif_f h hc
       refine W.skip<|Sq.n<|⟨v211, h, has_mk ⟨q, q, q, q, q, q, trivial⟩ ⟨q, trivial⟩ ⟨q, trivial⟩ q⟩
     ·rintro v222 h
      change s_29_j18 (s_29_l15 (s_29_l1 n v0 v101 k1) v0 v170 v201 k15) v201 v210 v222 = some r at h
      unfold s_29_j18 at h
      change W _ _ (⟨[(1, .box 1 0), (3, .pv (.sl (List.map eI v101))), (4, .row 40), (5, .pv (.i v170)), (6, .pv (.sl (List.map cSpan v201.1))), (8, .pv (.i v210))], [(1, 27, [.pv (.sl (List.map cAcid v0.acids)), .pv (.i v0.known), .pv (.i v0.hours), .pv (.sl (List.map eI v0.adds)), .pv (.sl (List.map cStrip v0.strips)), .pv (.sl (List.map cBatch v0.batches))])], [(40, ⟨57, 2, List.map cSpan v222⟩)]⟩ : Env) _
      obtain ⟨v223, e223, h⟩ := bind_some h
      obtain ⟨v224, e224, h⟩ := bind_some h
      obtain ⟨v225, e225, h⟩ := bind_some h
      obtain ⟨v226, e226, h⟩ := bind_some h
      refine W.draw (m := 25) Checked.mixed (Pre.v (GSG.of q (g_move q q q q)) ((Pre.v (GSG.of q (g_move q q q q)) ((Pre.v (GSG.of q (g_move q q q q)) ((Pre.v (GSG.of q (g_move q q q q)) ((Pre.v (GSG.of q (g_idxPI (l := v222) (enc := cSpan) e223 q q q q q q el_30)) ((Pre.v (GSG.of q (g_fldP q q q q fl_57_0)) ((Pre.v (GSG.of q (g_loadP1I (sz := 2) (l := v222) (enc := cSpan) 0 e223 q q q q q q ag_3)) ((Pre.v (GSG.of q (g_move q q q q)) ((Pre.v (GSG.of q (g_move q q q q)) ((Pre.v (GSG.of q (g_idxI (l := v201.1) (enc := cSpan) e224 q q q q q el_30 q)) ((Pre.v (GSG.of q (g_fldR q q q q fl_57_0 q)) ((Pre.v (GSG.of q (g_loadR1 q q q q q ag_3)) ((Pre.v (GSG.of q (g_min q q q q q)) ((Pre.v (GSG.of q (g_move q q q q)) ((Pre.v (GSG.of q (g_move q q q q)) ((Pre.v (GSG.of q (g_idxPI (l := v222) (enc := cSpan) e225 q q q q q q el_30)) ((Pre.v (GSG.of q (g_fldP q q q q fl_57_1)) ((Pre.v (GSG.of q (g_loadP1I (sz := 2) (l := v222) (enc := cSpan) 1 e225 q q q q q q ag_3)) ((Pre.v (GSG.of q (g_move q q q q)) ((Pre.v (GSG.of q (g_move q q q q)) ((Pre.v (GSG.of q (g_idxI (l := v201.1) (enc := cSpan) e226 q q q q q el_30 q)) ((Pre.v (GSG.of q (g_fldR q q q q fl_57_1 q)) ((Pre.v (GSG.of q (g_loadR1 q q q q q ag_3)) ((Pre.v (GSG.of q (g_max q q q q q)) ((Pre.v (GSG.of q (g_build (cs := (cSpan (Span.mk (min v223.low v224.low) (max v225.high v226.high)))) q q q zr_57 st_57 q q)) (Pre.nil _)))))))))))))))))))))))))))))))))))))))))))))))))) (by kernel_rfl) ?_
      obtain ⟨v227, e227, h⟩ := bind_some h
      exact ov (g_idxPI (l := v222) (enc := cSpan) e227 q q q q q q el_30) q<|Ops.step q (s_storePI (sz := 2) (l := v222) (enc := cSpan) (Span.mk (min v223.low v224.low) (max v225.high v226.high)) e227 q q q q q q q sz_57 q q)<|on0<|Bl.n<|Sq.n<|W.region<|vm q q q q q<|ov (g_add q q q q q) q<|va q q q q q<|on0<|Sq.n<|⟨(k15, wr (v210 + 1), sts v222 v210 (Span.mk (min v223.low v224.low) (max v225.high v226.high))), h, Nat.lt_succ_self _, has_mk ⟨q, q, q, q, q, q, trivial⟩ ⟨q, trivial⟩ ⟨q, trivial⟩ q⟩
    ·have h := bif_f h hc
     exact W.exit<|Sq.e<|Sq.e<|Bl.e<|Bl.n<|Sq.n<|W.region<|vm q q q q q<|ov (g_add q q q q q) q<|va q q q q q<|on0<|Sq.n<|⟨(k1, wr (v170 + 1), v211), h, Nat.lt_succ_self _, has_mk ⟨q, q, q, q, trivial⟩ ⟨q, trivial⟩ ⟨q, trivial⟩ q⟩
  ·have h := bif_f h hc
   refine W.exit<|Sq.e<|Sq.e<|Bl.e<|Sq.n<|W.seq<|W.region<|vm q q q q q<|va q q q q q<|on0<|Sq.n<|W.share (k := 40) q<|W.ret ?_
   obtain rfl := Option.some.inj h
   exact Fin.r q (.cons (.tmp _ _ q) .nil) q
def s_30_l61 (n : Nat) (K46 : Bool → Int → Option (Int)) (v0 : Drum) (v1 : Int) (v101 : (List Int)) (v183 : Int) (v293 : Int) : Nat → Bool → Int → Option (Int)
| 0, _, _ => none
| k61 + 1, v328, v329 => bif (decide (v329 < v293)) then ( (ix v101 v293).bind fun v338 => (s_90 n v0 v338).bind fun v339 => (ix v101 v329).bind fun v340 => (s_90 n v0 v340).bind fun v341 => bif v328 then ( (ix v339.1 v183).bind fun v342 => (ix v341.1 v183).bind fun v343 => bif (decide ((wr (2 * v1)) < (wr (v342.low - v343.high)))) then (
 (s_30_l61 n K46 v0 v1 v101 v183 v293 k61) true (wr (v329 + 1)) ) else ( (ix v341.1 v183).bind fun v344 => (ix v339.1 v183).bind fun v345 => (s_30_l61 n K46 v0 v1 v101 v183 v293 k61) (decide ((wr (2 * v1)) < (wr (v344.low - v345.high)))) (wr (v329 + 1)) ) ) else ( (s_30_l61 n K46 v0 v1 v101 v183 v293 k61) false (wr (v329 + 1)) ) ) else ( K46 v328 (wr (v293 + 1)) )
def s_30_l46 (n : Nat) (K1 : Int → Option (Int)) (v0 : Drum) (v1 : Int) (v101 : (List Int)) (v183 : Int) : Nat → Bool → Int → Option (Int)
| 0, _, _ => none
| k46 + 1, v292, v293 => bif (decide (v293 < (v101.length : Int))) then ( s_30_l61 n (s_30_l46 n K1 v0 v1 v101 v183 k46) v0 v1 v101 v183 v293 n v292 0 ) else ( bif v292 then ( some (v183) ) else ( K1 (wr (v183 + 1)) ) )
def s_30_l1 (n : Nat) (v0 : Drum) (v1 : Int) (v101 : (List Int)) : Nat → Int → Option (Int)
| 0, _ => none
| k1 + 1, v183 => bif (decide (v183 < v0.hours)) then ( s_30_l46 n (s_30_l1 n v0 v1 v101 k1) v0 v1 v101 v183 n true 0 ) else ( some ((-1)) )
def s_30 (n : Nat) (v0 : Drum) (v1 : Int) : Option (Int) := (s_80 n v0).bind fun v101 => s_30_l1 n v0 v1 v101 n 0
theorem c_30 (n : Nat) (v0 : Drum) (v1 : Int) {r : (Int)} (h : s_30 n v0 v1 = some r) :
  Fun Tryz.prog 30 [.agg (cDrum v0), .val (.int .i64 v1)] (.ret (.val (.int .i64 r))) := by
 unfold s_30 at h
 refine enterW 86 Tryz.func30 q q q ?_
 intro w0 F0
 change W _ _ (Ev [(0, .pv (.agg (cDrum v0))), (1, .pv (.i v1))]) _
 refine W.seq<|W.region<|ob (g_box q q q q q) q q<|va q q q q q<|on0<|Sq.n<|W.seq<|W.region<|ov (g_loadA q q q q q ag_27 sz_27 q q) q ?_
 obtain ⟨v101, e101, h⟩ := bind_some h
 refine ov (g_call q q q ca_80 q (c_80 _ _ e101)) q<|va q q q q q<|on0<|Sq.n<|W.seq<|W.seq<|W.region<|va q q q q q<|on0<|Sq.n<|W.block<|W.loop (σ := Nat × Int) (fun s => (⟨[(1, .pv (.i v1)), (2, .box 2 0), (5, .pv (.sl (List.map eI v101))), (6, .pv (.i s.2))], [(2, 27, [.pv (.sl (List.map cAcid v0.acids)), .pv (.i v0.known), .pv (.i v0.hours), .pv (.sl (List.map eI v0.adds)), .pv (.sl (List.map cStrip v0.strips)), .pv (.sl (List.map cBatch v0.batches))])], []⟩ : Env)) (fun s => s_30_l1 n v0 v1 v101 s.1 s.2 = some r) (fun s => s.1) (n, 0) h (has_mk ⟨q, q, q, q, trivial⟩ ⟨q, trivial⟩ trivial q) ?_
 rintro ⟨k1, v183⟩ h
 change s_30_l1 n v0 v1 v101 k1 v183 = some r at h
 rcases k1 with _ | k1
 ·rw [s_30_l1] at h
  cases h
 ·rw [s_30_l1] at h
  change W _ _ (⟨[(1, .pv (.i v1)), (2, .box 2 0), (5, .pv (.sl (List.map eI v101))), (6, .pv (.i v183))], [(2, 27, [.pv (.sl (List.map cAcid v0.acids)), .pv (.i v0.known), .pv (.i v0.hours), .pv (.sl (List.map eI v0.adds)), .pv (.sl (List.map cStrip v0.strips)), .pv (.sl (List.map cBatch v0.batches))])], []⟩ : Env) _
  refine W.seq<|W.seq<|W.region<|vm q q q q q<|ov (g_fld q q q q fl_27_2) q<|ov (g_load1 q q q q q q ag_3) q<|ov (g_lss q q q q q) q<|on0<|Sq.n<|W.cond (b := (decide (v183 < v0.hours))) q (fun hc => ?_) (fun hc => ?_)
  ·have h := bif_t h hc
   refine W.skip<|Sq.n<|W.seq<|W.block<|W.seq<|W.region<|va q q q q q<|on0<|Sq.n<|W.seq<|W.seq<|W.region<|va q q q q q<|on0<|Sq.n<|W.block<|W.loop (σ := Nat × Bool × Int) (fun s => (⟨[(1, .pv (.i v1)), (2, .box 2 0), (5, .pv (.sl (List.map eI v101))), (6, .pv (.i v183)), (7, .pv (.b s.2.1)), (8, .pv (.i s.2.2))], [(2, 27, [.pv (.sl (List.map cAcid v0.acids)), .pv (.i v0.known), .pv (.i v0.hours), .pv (.sl (List.map eI v0.adds)), .pv (.sl (List.map cStrip v0.strips)), .pv (.sl (List.map cBatch v0.batches))])], []⟩ : Env)) (fun s => s_30_l46 n (s_30_l1 n v0 v1 v101 k1) v0 v1 v101 v183 s.1 s.2.1 s.2.2 = some r) (fun s => s.1) (n, true, 0) h (has_mk ⟨q, q, q, q, q, q, trivial⟩ ⟨q, trivial⟩ trivial q) ?_
   rintro ⟨k46, v292, v293⟩ h
   change s_30_l46 n (s_30_l1 n v0 v1 v101 k1) v0 v1 v101 v183 k46 v292 v293 = some r at h
   rcases k46 with _ | k46
   ·rw [s_30_l46] at h
    cases h
   ·rw [s_30_l46] at h
    change W _ _ (⟨[(1, .pv (.i v1)), (2, .box 2 0), (5, .pv (.sl (List.map eI v101))), (6, .pv (.i v183)), (7, .pv (.b v292)), (8, .pv (.i v293))], [(2, 27, [.pv (.sl (List.map cAcid v0.acids)), .pv (.i v0.known), .pv (.i v0.hours), .pv (.sl (List.map eI v0.adds)), .pv (.sl (List.map cStrip v0.strips)), .pv (.sl (List.map cBatch v0.batches))])], []⟩ : Env) _
    refine W.seq<|W.seq<|W.region<|vm q q q q q<|vm q q q q q<|ov (g_lenM (l := v101) (enc := eI) q ul_23 q q q) q<|ov (g_lss q q q q q) q<|on0<|Sq.n<|W.cond (b := (decide (v293 < (v101.length : Int)))) q (fun hc => ?_) (fun hc => ?_)
    ·have h := bif_t h hc
     refine W.skip<|Sq.n<|W.seq<|W.block<|W.seq<|W.region<|va q q q q q<|on0<|Sq.n<|W.block<|W.loop (σ := Nat × Bool × Int) (fun s => (⟨[(1, .pv (.i v1)), (2, .box 2 0), (5, .pv (.sl (List.map eI v101))), (6, .pv (.i v183)), (7, .pv (.b s.2.1)), (8, .pv (.i v293)), (9, .pv (.i s.2.2))], [(2, 27, [.pv (.sl (List.map cAcid v0.acids)), .pv (.i v0.known), .pv (.i v0.hours), .pv (.sl (List.map eI v0.adds)), .pv (.sl (List.map cStrip v0.strips)), .pv (.sl (List.map cBatch v0.batches))])], []⟩ : Env)) (fun s => s_30_l61 n (s_30_l46 n (s_30_l1 n v0 v1 v101 k1) v0 v1 v101 v183 k46) v0 v1 v101 v183 v293 s.1 s.2.1 s.2.2 = some r) (fun s => s.1) (n, v292, 0) h (has_mk ⟨q, q, q, q, q, q, q, trivial⟩ ⟨q, trivial⟩ trivial q) ?_
     rintro ⟨k61, v328, v329⟩ h
     change s_30_l61 n (s_30_l46 n (s_30_l1 n v0 v1 v101 k1) v0 v1 v101 v183 k46) v0 v1 v101 v183 v293 k61 v328 v329 = some r at h
     rcases k61 with _ | k61
     ·rw [s_30_l61] at h
      cases h
     ·rw [s_30_l61] at h
      change W _ _ (⟨[(1, .pv (.i v1)), (2, .box 2 0), (5, .pv (.sl (List.map eI v101))), (6, .pv (.i v183)), (7, .pv (.b v328)), (8, .pv (.i v293)), (9, .pv (.i v329))], [(2, 27, [.pv (.sl (List.map cAcid v0.acids)), .pv (.i v0.known), .pv (.i v0.hours), .pv (.sl (List.map eI v0.adds)), .pv (.sl (List.map cStrip v0.strips)), .pv (.sl (List.map cBatch v0.batches))])], []⟩ : Env) _
      refine W.seq<|W.seq<|W.region<|vm q q q q q<|vm q q q q q<|ov (g_lss q q q q q) q<|on0<|Sq.n<|W.cond (b := (decide (v329 < v293))) q (fun hc => ?_) (fun hc => ?_)
      ·have h := bif_t h hc
       refine W.skip<|Sq.n<|W.seq<|W.block<|W.seq ?_
       obtain ⟨v338, e338, h⟩ := bind_some h
       obtain ⟨v339, e339, h⟩ := bind_some h
       refine W.draw (m := 10) Checked.mixed (Pre.v (GSG.of q (g_loadA q q q q q ag_27 sz_27 q q)) ((Pre.v (GSG.of q (g_move q q q q)) ((Pre.v (GSG.of q (g_move q q q q)) ((Pre.v (GSG.of q (g_idxI (l := v101) (enc := eI) e338 q q q q q el_23 q)) ((Pre.v (GSG.of q (g_loadR1 q q q q q ag_3)) ((Pre.v (GSG.of q (g_call q q q ca_90 q (c_90 _ _ _ e339))) ((Pre.v (GSG.of q (g_move q q q q)) ((Pre.v (GSG.of q (g_extract q q q q q)) ((Pre.v (GSG.of q (g_extract q q q q q)) ((Pre.v (GSG.of q (g_assign q q q q)) (Pre.nil _)))))))))))))))))))) (by kernel_rfl)<|va q q q q q<|on0<|Sq.n<|W.seq ?_
       obtain ⟨v340, e340, h⟩ := bind_some h
       obtain ⟨v341, e341, h⟩ := bind_some h
       refine W.draw (m := 10) Checked.mixed (Pre.v (GSG.of q (g_loadA q q q q q ag_27 sz_27 q q)) ((Pre.v (GSG.of q (g_move q q q q)) ((Pre.v (GSG.of q (g_move q q q q)) ((Pre.v (GSG.of q (g_idxI (l := v101) (enc := eI) e340 q q q q q el_23 q)) ((Pre.v (GSG.of q (g_loadR1 q q q q q ag_3)) ((Pre.v (GSG.of q (g_call q q q ca_90 q (c_90 _ _ _ e341))) ((Pre.v (GSG.of q (g_move q q q q)) ((Pre.v (GSG.of q (g_extract q q q q q)) ((Pre.v (GSG.of q (g_extract q q q q q)) ((Pre.v (GSG.of q (g_assign q q q q)) (Pre.nil _)))))))))))))))))))) (by kernel_rfl)<|va q q q q q<|on0<|Sq.n ?_
       rcases Bool.eq_false_or_eq_true (v328) with hb66 | hb66
       ·have h := bif_t h hb66
        obtain ⟨v342, e342, h⟩ := bind_some h
        obtain ⟨v343, e343, h⟩ := bind_some h
        rcases Bool.eq_false_or_eq_true ((decide ((wr (2 * v1)) < (wr (v342.low - v343.high))))) with hb67 | hb67
        ·have h := bif_t h hb67
         exact W.draw (m := 30) Checked.mixed (Pre.v (GSG.of q (g_move q q q q)) ((Pre.v (GSG.as (GSG.of q (g_move q q q q)) (congrArg (fun b => TV.pv (PV.b b)) hb66)) ((Pre.v (GSG.on q q q (g_move q q q q)) ((Pre.v (GSG.on q q q (g_move q q q q)) ((Pre.v (GSG.on q q q (g_idxI (l := v339.1) (enc := cSpan) e342 q q q q q el_30 q)) ((Pre.v (GSG.on q q q (g_fldR q q q q fl_57_0 q)) ((Pre.v (GSG.on q q q (g_loadR1 q q q q q ag_3)) ((Pre.v (GSG.on q q q (g_move q q q q)) ((Pre.v (GSG.on q q q (g_move q q q q)) ((Pre.v (GSG.on q q q (g_idxI (l := v341.1) (enc := cSpan) e343 q q q q q el_30 q)) ((Pre.v (GSG.on q q q (g_fldR q q q q fl_57_1 q)) ((Pre.v (GSG.on q q q (g_loadR1 q q q q q ag_3)) ((Pre.v (GSG.on q q q (g_sub q q q q q)) ((Pre.v (GSG.on q q q (g_move q q q q)) ((Pre.v (GSG.on q q q (g_mul q q q q q)) ((Pre.v (GSG.on q q q (g_gtr q q q q q)) ((Pre.v (GSG.as (GSG.on q q q (g_move q q q q)) (congrArg (fun b => TV.pv (PV.b b)) hb67)) ((Pre.v (GSG.off2 q q q q q q) ((Pre.v (GSG.off2 q q q q q q) ((Pre.v (GSG.off2 q q q q q q) ((Pre.v (GSG.off2 q q q q q q) ((Pre.v (GSG.off2 q q q q q q) ((Pre.v (GSG.off2 q q q q q q) ((Pre.v (GSG.off2 q q q q q q) ((Pre.v (GSG.off2 q q q q q q) ((Pre.v (GSG.off2 q q q q q q) ((Pre.v (GSG.off2 q q q q q q) ((Pre.v (GSG.off2 q q q q q q) ((Pre.v (GSG.off2 q q q q q q) ((Pre.v (GSG.off2 q q q q q q) (Pre.nil _)))))))))))))))))))))))))))))))))))))))))))))))))))))))))))) (by kernel_rfl)<|o2 q q q q q q<|on q q q<|vt q q q q q q<|vt q q q q q q<|va q q q q q<|on0<|Bl.n<|Sq.n<|W.region<|vm q q q q q<|ov (g_add q q q q q) q<|va q q q q q<|on0<|Sq.n<|⟨(k61, true, wr (v329 + 1)), h, Nat.lt_succ_self _, has_mk ⟨q, q, q, q, q, q, q, trivial⟩ ⟨q, trivial⟩ trivial q⟩
        ·have h := bif_f h hb67
         obtain ⟨v344, e344, h⟩ := bind_some h
         obtain ⟨v345, e345, h⟩ := bind_some h
         exact W.draw (m := 30) Checked.mixed (Pre.v (GSG.of q (g_move q q q q)) ((Pre.v (GSG.as (GSG.of q (g_move q q q q)) (congrArg (fun b => TV.pv (PV.b b)) hb66)) ((Pre.v (GSG.on q q q (g_move q q q q)) ((Pre.v (GSG.on q q q (g_move q q q q)) ((Pre.v (GSG.on q q q (g_idxI (l := v339.1) (enc := cSpan) e342 q q q q q el_30 q)) ((Pre.v (GSG.on q q q (g_fldR q q q q fl_57_0 q)) ((Pre.v (GSG.on q q q (g_loadR1 q q q q q ag_3)) ((Pre.v (GSG.on q q q (g_move q q q q)) ((Pre.v (GSG.on q q q (g_move q q q q)) ((Pre.v (GSG.on q q q (g_idxI (l := v341.1) (enc := cSpan) e343 q q q q q el_30 q)) ((Pre.v (GSG.on q q q (g_fldR q q q q fl_57_1 q)) ((Pre.v (GSG.on q q q (g_loadR1 q q q q q ag_3)) ((Pre.v (GSG.on q q q (g_sub q q q q q)) ((Pre.v (GSG.on q q q (g_move q q q q)) ((Pre.v (GSG.on q q q (g_mul q q q q q)) ((Pre.v (GSG.on q q q (g_gtr q q q q q)) ((Pre.v (GSG.as (GSG.on q q q (g_move q q q q)) (congrArg (fun b => TV.pv (PV.b b)) hb67)) ((Pre.v (GSG.on q q q (g_move q q q q)) ((Pre.v (GSG.on q q q (g_move q q q q)) ((Pre.v (GSG.on q q q (g_idxI (l := v341.1) (enc := cSpan) e344 q q q q q el_30 q)) ((Pre.v (GSG.on q q q (g_fldR q q q q fl_57_0 q)) ((Pre.v (GSG.on q q q (g_loadR1 q q q q q ag_3)) ((Pre.v (GSG.on q q q (g_move q q q q)) ((Pre.v (GSG.on q q q (g_move q q q q)) ((Pre.v (GSG.on q q q (g_idxI (l := v339.1) (enc := cSpan) e345 q q q q q el_30 q)) ((Pre.v (GSG.on q q q (g_fldR q q q q fl_57_1 q)) ((Pre.v (GSG.on q q q (g_loadR1 q q q q q ag_3)) ((Pre.v (GSG.on q q q (g_sub q q q q q)) ((Pre.v (GSG.on q q q (g_move q q q q)) ((Pre.v (GSG.on q q q (g_mul q q q q q)) (Pre.nil _)))))))))))))))))))))))))))))))))))))))))))))))))))))))))))) (by kernel_rfl)<|on q q q<|ov (g_gtr q q q q q) q<|on q q q<|vf q q q q q q<|vt q q q q q q<|va q q q q q<|on0<|Bl.n<|Sq.n<|W.region<|vm q q q q q<|ov (g_add q q q q q) q<|va q q q q q<|on0<|Sq.n<|⟨(k61, (decide ((wr (2 * v1)) < (wr (v344.low - v345.high)))), wr (v329 + 1)), h, Nat.lt_succ_self _, has_mk ⟨q, q, q, q, q, q, q, trivial⟩ ⟨q, trivial⟩ trivial q⟩
       ·have h := bif_f h hb66
        exact W.draw (m := 30) Checked.mixed (Pre.v (GSG.of q (g_move q q q q)) ((Pre.v (GSG.as (GSG.of q (g_move q q q q)) (congrArg (fun b => TV.pv (PV.b b)) hb66)) ((Pre.v (GSG.off2 q q q q q q) ((Pre.v (GSG.off2 q q q q q q) ((Pre.v (GSG.off2 q q q q q q) ((Pre.v (GSG.off2 q q q q q q) ((Pre.v (GSG.off2 q q q q q q) ((Pre.v (GSG.off2 q q q q q q) ((Pre.v (GSG.off2 q q q q q q) ((Pre.v (GSG.off2 q q q q q q) ((Pre.v (GSG.off2 q q q q q q) ((Pre.v (GSG.off2 q q q q q q) ((Pre.v (GSG.off2 q q q q q q) ((Pre.v (GSG.off2 q q q q q q) ((Pre.v (GSG.off2 q q q q q q) ((Pre.v (GSG.off2 q q q q q q) ((Pre.v (GSG.off2 q q q q q q) ((Pre.v (GSG.off2 q q q q q q) ((Pre.v (GSG.off2 q q q q q q) ((Pre.v (GSG.off2 q q q q q q) ((Pre.v (GSG.off2 q q q q q q) ((Pre.v (GSG.off2 q q q q q q) ((Pre.v (GSG.off2 q q q q q q) ((Pre.v (GSG.off2 q q q q q q) ((Pre.v (GSG.off2 q q q q q q) ((Pre.v (GSG.off2 q q q q q q) ((Pre.v (GSG.off2 q q q q q q) ((Pre.v (GSG.off2 q q q q q q) ((Pre.v (GSG.off2 q q q q q q) ((Pre.v (GSG.off2 q q q q q q) (Pre.nil _)))))))))))))))))))))))))))))))))))))))))))))))))))))))))))) (by kernel_rfl)<|o2 q q q q q q<|o2 q q q q q q<|vf q q q q q q<|va q q q q q<|on0<|Bl.n<|Sq.n<|W.region<|vm q q q q q<|ov (g_add q q q q q) q<|va q q q q q<|on0<|Sq.n<|⟨(k61, false, wr (v329 + 1)), h, Nat.lt_succ_self _, has_mk ⟨q, q, q, q, q, q, q, trivial⟩ ⟨q, trivial⟩ trivial q⟩
      ·have h := bif_f h hc
       exact W.exit<|Sq.e<|Sq.e<|Bl.e<|Bl.n<|Sq.n<|W.region<|vm q q q q q<|ov (g_add q q q q q) q<|va q q q q q<|on0<|Sq.n<|⟨(k46, v328, wr (v293 + 1)), h, Nat.lt_succ_self _, has_mk ⟨q, q, q, q, q, q, trivial⟩ ⟨q, trivial⟩ trivial q⟩
    ·have h := bif_f h hc
     refine W.exit<|Sq.e<|Sq.e<|Bl.e<|Sq.n<|W.seq<|W.region<|vm q q q q q<|on0<|Sq.n<|W.cond (b := v292) q (fun hc => ?_) (fun hc => ?_)
     ·have h := bif_t h hc
      refine W.seq<|W.region<|vm q q q q q<|va q q q q q<|on0<|Sq.n<|W.ret<|Bl.r<|Sq.r<|Sq.r<|Bl.r<|Sq.r ?_
      obtain rfl := Option.some.inj h
      exact Fin.r q (.cons (.tmp _ _ q) .nil) q
     ·have h := bif_f h hc
      exact W.skip<|Bl.n<|Sq.n<|W.region<|vm q q q q q<|ov (g_add q q q q q) q<|va q q q q q<|on0<|Sq.n<|⟨(k1, wr (v183 + 1)), h, Nat.lt_succ_self _, has_mk ⟨q, q, q, q, trivial⟩ ⟨q, trivial⟩ trivial q⟩
  ·have h := bif_f h hc
   refine W.exit<|Sq.e<|Sq.e<|Bl.e<|Sq.n<|W.seq<|W.region<|va q q q q q<|on0<|Sq.n<|W.ret ?_
   obtain rfl := Option.some.inj h
   exact Fin.r q (.cons (.tmp _ _ q) .nil) q
end Go.Proofs.YtohmhlkdgfcaeaaGreatDoor
namespace Go.Proofs.YtohmhlkdgfcaeaaGreatDoor
open Go Go.RowKit
set_option maxRecDepth 4000
attribute [local irreducible] W Ops GS GSG
def s_27_j1 (n : Nat) (v0 : Drum) (v102 : Bool) : Option (Int) := bif v102 then ( some (2) ) else ( (s_89 n v0).bind fun v103 => bif (!v103) then ( some (7) ) else ( some (0) ) )
def s_27 (n : Nat) (v0 : Drum) (v1 : Bool) : Option (Int) := (s_39 n v0).bind fun v101 => bif (!v101) then ( s_27_j1 n v0 true ) else ( s_27_j1 n v0 (!v1) )
theorem c_27 (n : Nat) (v0 : Drum) (v1 : Bool) {r : (Int)} (h : s_27 n v0 v1 = some r) :
  Fun Tryz.prog 27 [.agg (cDrum v0), .b v1] (.ret (.val (.int .i64 r))) := by
 unfold s_27 at h
 refine enterW 15 Tryz.func27 q q q ?_
 intro w0 F0
 change W _ _ (Ev [(0, .pv (.agg (cDrum v0))), (1, .pv (.b v1))]) _
 refine W.seq<|W.region<|ob (g_box q q q q q) q q<|va q q q q q<|on0<|Sq.n<|W.seq<|W.seqJ (σ := Bool) (fun s => (⟨[(2, .box 2 0), (11, .pv (.b s))], [(2, 27, [.pv (.sl (List.map cAcid v0.acids)), .pv (.i v0.known), .pv (.i v0.hours), .pv (.sl (List.map eI v0.adds)), .pv (.sl (List.map cStrip v0.strips)), .pv (.sl (List.map cBatch v0.batches))])], []⟩ : Env)) (fun s => s_27_j1 n v0 s = some r) ?_ ?_
 ·refine W.region<|ov (g_loadA q q q q q ag_27 sz_27 q q) q ?_
  obtain ⟨v101, e101, h⟩ := bind_some h
  refine ov (g_call q q q ca_39 q (c_39 _ _ e101)) q<|ov (g_not q q q q) q<|vm q q q q q<|Ops.split 8 q (fun hb => ?_) (fun hb => ?_)
  ·have h := bif_t h hb
   refine o2 q q q q q q<|o2 q q q q q q<|vt q q q q q q<|on0<|Sq.n<|⟨true, h, has_mk ⟨q, q, trivial⟩ ⟨q, trivial⟩ trivial q⟩
  ·have h := bif_f h hb
   refine on q q q<|vm q q q q q<|on q q q<|ov (g_not q q q q) q<|vf q q q q q q<|on0<|Sq.n<|⟨(!v1), h, has_mk ⟨q, q, trivial⟩ ⟨q, trivial⟩ trivial q⟩
 ·rintro v102 h
  change s_27_j1 n v0 v102 = some r at h
  unfold s_27_j1 at h
  change W _ _ (⟨[(2, .box 2 0), (11, .pv (.b v102))], [(2, 27, [.pv (.sl (List.map cAcid v0.acids)), .pv (.i v0.known), .pv (.i v0.hours), .pv (.sl (List.map eI v0.adds)), .pv (.sl (List.map cStrip v0.strips)), .pv (.sl (List.map cBatch v0.batches))])], []⟩ : Env) _
  refine W.cond (b := v102) q (fun hc => ?_) (fun hc => ?_)
  ·have h := bif_t h hc
   refine W.seq<|W.region<|va q q q q q<|on0<|Sq.n<|W.ret<|Sq.r ?_
   obtain rfl := Option.some.inj h
   exact Fin.r q (.cons (.tmp _ _ q) .nil) q
  ·have h := bif_f h hc
   refine W.skip<|Sq.n<|W.seq<|W.seq<|W.region<|ov (g_loadA q q q q q ag_27 sz_27 q q) q ?_
   obtain ⟨v103, e103, h⟩ := bind_some h
   refine ov (g_call q q q ca_89 q (c_89 _ _ e103)) q<|ov (g_not q q q q) q<|on0<|Sq.n<|W.cond (b := (!v103)) q (fun hc => ?_) (fun hc => ?_)
   ·have h := bif_t h hc
    refine W.seq<|W.region<|va q q q q q<|on0<|Sq.n<|W.ret<|Sq.r ?_
    obtain rfl := Option.some.inj h
    exact Fin.r q (.cons (.tmp _ _ q) .nil) q
   ·have h := bif_f h hc
    refine W.skip<|Sq.n<|W.seq<|W.region<|va q q q q q<|on0<|Sq.n<|W.ret ?_
    obtain rfl := Option.some.inj h
    exact Fin.r q (.cons (.tmp _ _ q) .nil) q
end Go.Proofs.YtohmhlkdgfcaeaaGreatDoor
namespace Go.Proofs.YtohmhlkdgfcaeaaGreatDoor
open Go Go.RowKit Go.ChangeShapes Go.WideShapes Go.Deep
set_option maxRecDepth 100000
theorem parT : ∀ t ∈ [3, 9, 23, 27, 54, 92], ParT t := by
 have h : ([3, 9, 23, 27, 54, 92].all fun t => Tryz.prog.readableRec t && decide (t < Tryz.prog.types.size)) = true := by kernel_rfl
 intro t ht
 have := List.all_eq_true.1 h t ht
 rw [Bool.and_eq_true, decide_eq_true_eq] at this
 exact this
end Go.Proofs.YtohmhlkdgfcaeaaGreatDoor
namespace Go.Proofs.YtohmhlkdgfcaeaaGreatDoor
open Go Go.RowKit
set_option maxRecDepth 4000
attribute [local irreducible] W Ops GS GSG
def s_3_j5 (n : Nat) (v104 : (Int × Int)) (v114 : Int) (v115 : Int) : Option (Bool) := bif (!decide (v114 = 0)) then ( bif (decide (v104.2 = v114)) then ( bif (decide (v104.1 = 0)) then ( (s_24 n ).bind fun v116 => some (v116) ) else ( some (false) ) ) else ( some (false) ) ) else ( bif (decide (v104.2 = 0)) then ( bif (decide (v104.1 = v115)) then ( (s_24 n ).bind fun v117 => some (v117) ) else (
 some (false) ) ) else ( some (false) ) )
def s_3_j4 (n : Nat) (v0 : Drum) (v1 : Int) (v104 : (Int × Int)) (v112 : Int) : Option (Bool) := bif (decide (v112 = 0)) then ( (s_30 n v0 v1).bind fun v113 => bif (decide (v113 < 0)) then ( s_3_j5 n v104 5 v113 ) else ( s_3_j5 n v104 v112 v113 ) ) else ( s_3_j5 n v104 v112 0 )
def s_3_j3 (n : Nat) (v0 : Drum) (v1 : Int) (v104 : (Int × Int)) : Option (Bool) := bif (decide (0 ≤ v1)) then ( (s_27 n v0 (decide (v1 ≤ 50))).bind fun v110 => s_3_j4 n v0 v1 v104 v110 ) else ( (s_27 n v0 false).bind fun v111 => s_3_j4 n v0 v1 v104 v111 )
def s_3_j1 (n : Nat) (v0 : Drum) (v1 : Int) (v104 : (Int × Int)) (v106 : Bool) : Option (Bool) := bif v106 then ( some (false) ) else ( s_3_j3 n v0 v1 v104 )
def s_3_j2 (n : Nat) (v0 : Drum) (v1 : Int) (v104 : (Int × Int)) (v109 : Bool) : Option (Bool) := bif v109 then ( some (false) ) else ( s_3_j3 n v0 v1 v104 )
def s_3 (n : Nat) (v0 : Drum) (v1 : Int) : Option (Bool) := (s_23 n v0).bind fun v101 => bif (!v101) then ( (s_24 n ).bind fun v102 => some (v102) ) else ( (s_25 n v0).bind fun v103 => (s_26 n v0 v1).bind fun v104 => (s_27 n v0 true).bind fun v105 => bif (!decide (v105 = 0)) then ( bif (!decide (v103.2 = v105)) then ( s_3_j1 n v0 v1 v104 true ) else (
 s_3_j1 n v0 v1 v104 (!decide ((v103.1.length : Int) = 0)) ) ) else ( bif (!decide (v103.2 = 0)) then ( s_3_j2 n v0 v1 v104 true ) else ( (s_29 n v0).bind fun v107 => (s_28 n v103.1 v107).bind fun v108 => s_3_j2 n v0 v1 v104 (!v108) ) ) )
theorem c_3 (n : Nat) (v0 : Drum) (v1 : Int) {r : (Bool)} (h : s_3 n v0 v1 = some r) :
  Fun Tryz.prog 3 [.agg (cDrum v0), .val (.int .i64 v1)] (.ret (.b r)) := by
 unfold s_3 at h
 refine enterW 84 Tryz.func3 q q q ?_
 intro w0 F0
 change W _ _ (Ev [(0, .pv (.agg (cDrum v0))), (1, .pv (.i v1))]) _
 refine W.seq<|W.region<|ob (g_box q q q q q) q q<|va q q q q q<|on0<|Sq.n<|W.seq<|W.seq<|W.region<|ov (g_loadA q q q q q ag_27 sz_27 q q) q ?_
 obtain ⟨v101, e101, h⟩ := bind_some h
 refine ov (g_call q q q ca_23 q (c_23 _ _ e101)) q<|ov (g_not q q q q) q<|on0<|Sq.n<|W.cond (b := (!v101)) q (fun hc => ?_) (fun hc => ?_)
 ·have h := bif_t h hc
  refine W.seq<|W.region ?_
  obtain ⟨v102, e102, h⟩ := bind_some h
  refine ov (g_call q q q ca_24 q (c_24 _  e102)) q<|va q q q q q<|on0<|Sq.n<|W.ret<|Sq.r ?_
  obtain rfl := Option.some.inj h
  exact Fin.r q (.cons (.tmp _ _ q) .nil) q
 ·have h := bif_f h hc
  refine W.skip<|Sq.n<|W.seq<|W.region<|ov (g_loadA q q q q q ag_27 sz_27 q q) q ?_
  obtain ⟨v103, e103, h⟩ := bind_some h
  refine ov (g_call q q q ca_25 q (c_25 _ _ e103)) q<|vm q q q q q<|ov (g_extract q q q q q) q<|ov (g_extract q q q q q) q<|va q q q q q<|va q q q q q<|on0<|Sq.n<|W.seq<|W.region<|ov (g_loadA q q q q q ag_27 sz_27 q q) q<|vm q q q q q ?_
  obtain ⟨v104, e104, h⟩ := bind_some h
  refine ov (g_call q q q ca_26 q (c_26 _ _ _ e104)) q<|vm q q q q q<|ov (g_extract q q q q q) q<|ov (g_extract q q q q q) q<|va q q q q q<|va q q q q q<|on0<|Sq.n<|W.seq<|W.region<|ov (g_loadA q q q q q ag_27 sz_27 q q) q ?_
  obtain ⟨v105, e105, h⟩ := bind_some h
  refine ov (g_call q q q ca_27 q (c_27 _ _ _ e105)) q<|va q q q q q<|on0<|Sq.n<|W.seqJ (σ := Unit) (fun s => (⟨[(1, .pv (.i v1)), (2, .box 2 0), (7, .pv (.i v104.1)), (8, .pv (.i v104.2))], [(2, 27, [.pv (.sl (List.map cAcid v0.acids)), .pv (.i v0.known), .pv (.i v0.hours), .pv (.sl (List.map eI v0.adds)), .pv (.sl (List.map cStrip v0.strips)), .pv (.sl (List.map cBatch v0.batches))])], []⟩ : Env)) (fun s => s_3_j3 n v0 v1 v104  = some r) ?_ ?_
  ·refine W.seq<|W.region<|vm q q q q q<|ov (g_neq q q q q q) q<|on0<|Sq.n<|W.cond (b := (!decide (v105 = 0))) q (fun hc => ?_) (fun hc => ?_)
   ·have h := bif_t h hc
    refine W.seqJ (σ := Bool) (fun s => (⟨[(1, .pv (.i v1)), (2, .box 2 0), (7, .pv (.i v104.1)), (8, .pv (.i v104.2)), (37, .pv (.b s))], [(2, 27, [.pv (.sl (List.map cAcid v0.acids)), .pv (.i v0.known), .pv (.i v0.hours), .pv (.sl (List.map eI v0.adds)), .pv (.sl (List.map cStrip v0.strips)), .pv (.sl (List.map cBatch v0.batches))])], []⟩ : Env)) (fun s => s_3_j1 n v0 v1 v104 s = some r) ?_ ?_
    ·refine W.region<|vm q q q q q<|vm q q q q q<|ov (g_neq q q q q q) q<|vm q q q q q<|Ops.split 33 q (fun hb => ?_) (fun hb => ?_)
     ·have h := bif_t h hb
      refine o2 q q q q q q<|o2 q q q q q q<|o2 q q q q q q<|vt q q q q q q<|on0<|Sq.n<|⟨true, h, has_mk ⟨q, q, q, q, q, trivial⟩ ⟨q, trivial⟩ trivial q⟩
     ·have h := bif_f h hb
      refine on q q q<|vm q q q q q<|on q q q<|ov (g_lenM (l := v103.1) (enc := cSpan) q ul_30 q q q) q<|on q q q<|ov (g_neq q q q q q) q<|vf q q q q q q<|on0<|Sq.n<|⟨(!decide ((v103.1.length : Int) = 0)), h, has_mk ⟨q, q, q, q, q, trivial⟩ ⟨q, trivial⟩ trivial q⟩
    ·rintro v106 h
     change s_3_j1 n v0 v1 v104 v106 = some r at h
     unfold s_3_j1 at h
     change W _ _ (⟨[(1, .pv (.i v1)), (2, .box 2 0), (7, .pv (.i v104.1)), (8, .pv (.i v104.2)), (37, .pv (.b v106))], [(2, 27, [.pv (.sl (List.map cAcid v0.acids)), .pv (.i v0.known), .pv (.i v0.hours), .pv (.sl (List.map eI v0.adds)), .pv (.sl (List.map cStrip v0.strips)), .pv (.sl (List.map cBatch v0.batches))])], []⟩ : Env) _
     refine W.cond (b := v106) q (fun hc => ?_) (fun hc => ?_)
     ·have h := bif_t h hc
      refine W.seq<|W.region<|va q q q q q<|on0<|Sq.n<|W.ret<|Sq.r ?_
      obtain rfl := Option.some.inj h
      exact Fin.r q (.cons (.tmp _ _ q) .nil) q
     ·have h := bif_f h hc
      refine W.skip<|Sq.n<|⟨(), h, has_mk ⟨q, q, q, q, trivial⟩ ⟨q, trivial⟩ trivial q⟩
   ·have h := bif_f h hc
    refine W.seqJ (σ := Bool) (fun s => (⟨[(1, .pv (.i v1)), (2, .box 2 0), (7, .pv (.i v104.1)), (8, .pv (.i v104.2)), (46, .pv (.b s))], [(2, 27, [.pv (.sl (List.map cAcid v0.acids)), .pv (.i v0.known), .pv (.i v0.hours), .pv (.sl (List.map eI v0.adds)), .pv (.sl (List.map cStrip v0.strips)), .pv (.sl (List.map cBatch v0.batches))])], []⟩ : Env)) (fun s => s_3_j2 n v0 v1 v104 s = some r) ?_ ?_
    ·refine W.region<|vm q q q q q<|ov (g_neq q q q q q) q<|vm q q q q q<|Ops.split 40 q (fun hb => ?_) (fun hb => ?_)
     ·have h := bif_t h hb
      refine o2 q q q q q q<|o2 q q q q q q<|o2 q q q q q q<|o2 q q q q q q<|o2 q q q q q q<|vt q q q q q q<|on0<|Sq.n<|⟨true, h, has_mk ⟨q, q, q, q, q, trivial⟩ ⟨q, trivial⟩ trivial q⟩
     ·have h := bif_f h hb
      refine on q q q<|vm q q q q q<|on q q q<|ov (g_loadA q q q q q ag_27 sz_27 q q) q<|on q q q ?_
      obtain ⟨v107, e107, h⟩ := bind_some h
      refine ov (g_call q q q ca_29 q (c_29 _ _ e107)) q<|on q q q ?_
      obtain ⟨v108, e108, h⟩ := bind_some h
      refine ov (g_call q q q ca_28 q (c_28 _ _ _ e108)) q<|on q q q<|ov (g_not q q q q) q<|vf q q q q q q<|on0<|Sq.n<|⟨(!v108), h, has_mk ⟨q, q, q, q, q, trivial⟩ ⟨q, trivial⟩ trivial q⟩
    ·rintro v109 h
     change s_3_j2 n v0 v1 v104 v109 = some r at h
     unfold s_3_j2 at h
     change W _ _ (⟨[(1, .pv (.i v1)), (2, .box 2 0), (7, .pv (.i v104.1)), (8, .pv (.i v104.2)), (46, .pv (.b v109))], [(2, 27, [.pv (.sl (List.map cAcid v0.acids)), .pv (.i v0.known), .pv (.i v0.hours), .pv (.sl (List.map eI v0.adds)), .pv (.sl (List.map cStrip v0.strips)), .pv (.sl (List.map cBatch v0.batches))])], []⟩ : Env) _
     refine W.cond (b := v109) q (fun hc => ?_) (fun hc => ?_)
     ·have h := bif_t h hc
      refine W.seq<|W.region<|va q q q q q<|on0<|Sq.n<|W.ret<|Sq.r ?_
      obtain rfl := Option.some.inj h
      exact Fin.r q (.cons (.tmp _ _ q) .nil) q
     ·have h := bif_f h hc
      refine W.skip<|Sq.n<|⟨(), h, has_mk ⟨q, q, q, q, trivial⟩ ⟨q, trivial⟩ trivial q⟩
  ·rintro ⟨⟩ h
   change s_3_j3 n v0 v1 v104  = some r at h
   unfold s_3_j3 at h
   change W _ _ (⟨[(1, .pv (.i v1)), (2, .box 2 0), (7, .pv (.i v104.1)), (8, .pv (.i v104.2))], [(2, 27, [.pv (.sl (List.map cAcid v0.acids)), .pv (.i v0.known), .pv (.i v0.hours), .pv (.sl (List.map eI v0.adds)), .pv (.sl (List.map cStrip v0.strips)), .pv (.sl (List.map cBatch v0.batches))])], []⟩ : Env) _
   refine W.seqJ (σ := Int) (fun s => (⟨[(1, .pv (.i v1)), (2, .box 2 0), (7, .pv (.i v104.1)), (8, .pv (.i v104.2)), (9, .pv (.i s))], [(2, 27, [.pv (.sl (List.map cAcid v0.acids)), .pv (.i v0.known), .pv (.i v0.hours), .pv (.sl (List.map eI v0.adds)), .pv (.sl (List.map cStrip v0.strips)), .pv (.sl (List.map cBatch v0.batches))])], []⟩ : Env)) (fun s => s_3_j4 n v0 v1 v104 s = some r) ?_ ?_
   ·refine W.region<|ov (g_loadA q q q q q ag_27 sz_27 q q) q<|vm q q q q q<|ov (g_geq q q q q q) q<|vm q q q q q<|Ops.split 50 q (fun hb => ?_) (fun hb => ?_)
    ·have h := bif_t h hb
     refine on q q q<|vm q q q q q<|on q q q<|ov (g_leq q q q q q) q<|vt q q q q q q ?_
     obtain ⟨v110, e110, h⟩ := bind_some h
     refine ov (g_call q q q ca_27 q (c_27 _ _ _ e110)) q<|va q q q q q<|on0<|Sq.n<|⟨v110, h, has_mk ⟨q, q, q, q, q, trivial⟩ ⟨q, trivial⟩ trivial q⟩
    ·have h := bif_f h hb
     refine o2 q q q q q q<|o2 q q q q q q<|vf q q q q q q ?_
     obtain ⟨v111, e111, h⟩ := bind_some h
     refine ov (g_call q q q ca_27 q (c_27 _ _ _ e111)) q<|va q q q q q<|on0<|Sq.n<|⟨v111, h, has_mk ⟨q, q, q, q, q, trivial⟩ ⟨q, trivial⟩ trivial q⟩
   ·rintro v112 h
    change s_3_j4 n v0 v1 v104 v112 = some r at h
    unfold s_3_j4 at h
    change W _ _ (⟨[(1, .pv (.i v1)), (2, .box 2 0), (7, .pv (.i v104.1)), (8, .pv (.i v104.2)), (9, .pv (.i v112))], [(2, 27, [.pv (.sl (List.map cAcid v0.acids)), .pv (.i v0.known), .pv (.i v0.hours), .pv (.sl (List.map eI v0.adds)), .pv (.sl (List.map cStrip v0.strips)), .pv (.sl (List.map cBatch v0.batches))])], []⟩ : Env) _
    refine W.seq<|W.region<|va q q q q q<|on0<|Sq.n<|W.seqJ (σ := Int × Int) (fun s => (Ev [(7, .pv (.i v104.1)), (8, .pv (.i v104.2)), (9, .pv (.i s.1)), (10, .pv (.i s.2))])) (fun s => s_3_j5 n v104 s.1 s.2 = some r) ?_ ?_
    ·refine W.seq<|W.region<|vm q q q q q<|ov (g_eql q q q q q) q<|on0<|Sq.n<|W.cond (b := (decide (v112 = 0))) q (fun hc => ?_) (fun hc => ?_)
     ·have h := bif_t h hc
      refine W.seq<|W.region<|ov (g_loadA q q q q q ag_27 sz_27 q q) q<|vm q q q q q ?_
      obtain ⟨v113, e113, h⟩ := bind_some h
      refine ov (g_call q q q ca_30 q (c_30 _ _ _ e113)) q<|va q q q q q<|on0<|Sq.n<|W.seq<|W.region<|vm q q q q q<|ov (g_lss q q q q q) q<|on0<|Sq.n<|W.cond (b := (decide (v113 < 0))) q (fun hc => ?_) (fun hc => ?_)
      ·have h := bif_t h hc
       refine W.region<|va q q q q q<|on0<|Sq.n<|⟨(5, v113), h, has_mk ⟨q, q, q, q, trivial⟩ trivial trivial q⟩
      ·have h := bif_f h hc
       refine W.skip<|Sq.n<|⟨(v112, v113), h, has_mk ⟨q, q, q, q, trivial⟩ trivial trivial q⟩
     ·have h := bif_f h hc
      refine W.skip<|Sq.n<|⟨(v112, 0), h, has_mk ⟨q, q, q, q, trivial⟩ trivial trivial q⟩
    ·rintro ⟨v114, v115⟩ h
     change s_3_j5 n v104 v114 v115 = some r at h
     unfold s_3_j5 at h
     change W _ _ (Ev [(7, .pv (.i v104.1)), (8, .pv (.i v104.2)), (9, .pv (.i v114)), (10, .pv (.i v115))]) _
     refine W.seq<|W.seq<|W.region<|vm q q q q q<|ov (g_neq q q q q q) q<|on0<|Sq.n<|W.cond (b := (!decide (v114 = 0))) q (fun hc => ?_) (fun hc => ?_)
     ·have h := bif_t h hc
      refine W.seq<|W.region<|vm q q q q q<|vm q q q q q<|ov (g_eql q q q q q) q<|vm q q q q q<|Ops.split 67 q (fun hb => ?_) (fun hb => ?_)
      ·have h := bif_t h hb
       refine on q q q<|vm q q q q q<|on q q q<|ov (g_eql q q q q q) q<|vt q q q q q q<|vm q q q q q<|Ops.split 71 q (fun hb => ?_) (fun hb => ?_)
       ·have h := bif_t h hb
        refine on q q q ?_
        obtain ⟨v116, e116, h⟩ := bind_some h
        refine ov (g_call q q q ca_24 q (c_24 _  e116)) q<|vt q q q q q q<|va q q q q q<|on0<|Sq.n<|W.ret<|Sq.r ?_
        obtain rfl := Option.some.inj h
        exact Fin.r q (.cons (.tmp _ _ q) .nil) q
       ·have h := bif_f h hb
        refine o2 q q q q q q<|vf q q q q q q<|va q q q q q<|on0<|Sq.n<|W.ret<|Sq.r ?_
        obtain rfl := Option.some.inj h
        exact Fin.r q (.cons (.tmp _ _ q) .nil) q
      ·have h := bif_f h hb
       refine o2 q q q q q q<|o2 q q q q q q<|vf q q q q q q<|vm q q q q q<|o2 q q q q q q<|vf q q q q q q<|va q q q q q<|on0<|Sq.n<|W.ret<|Sq.r ?_
       obtain rfl := Option.some.inj h
       exact Fin.r q (.cons (.tmp _ _ q) .nil) q
     ·have h := bif_f h hc
      refine W.skip<|Sq.n<|W.seq<|W.region<|vm q q q q q<|ov (g_eql q q q q q) q<|vm q q q q q<|Ops.split 76 q (fun hb => ?_) (fun hb => ?_)
      ·have h := bif_t h hb
       refine on q q q<|vm q q q q q<|on q q q<|vm q q q q q<|on q q q<|ov (g_eql q q q q q) q<|vt q q q q q q<|vm q q q q q<|Ops.split 81 q (fun hb => ?_) (fun hb => ?_)
       ·have h := bif_t h hb
        refine on q q q ?_
        obtain ⟨v117, e117, h⟩ := bind_some h
        refine ov (g_call q q q ca_24 q (c_24 _  e117)) q<|vt q q q q q q<|va q q q q q<|on0<|Sq.n<|W.ret ?_
        obtain rfl := Option.some.inj h
        exact Fin.r q (.cons (.tmp _ _ q) .nil) q
       ·have h := bif_f h hb
        refine o2 q q q q q q<|vf q q q q q q<|va q q q q q<|on0<|Sq.n<|W.ret ?_
        obtain rfl := Option.some.inj h
        exact Fin.r q (.cons (.tmp _ _ q) .nil) q
      ·have h := bif_f h hb
       refine o2 q q q q q q<|o2 q q q q q q<|o2 q q q q q q<|vf q q q q q q<|vm q q q q q<|o2 q q q q q q<|vf q q q q q q<|va q q q q q<|on0<|Sq.n<|W.ret ?_
       obtain rfl := Option.some.inj h
       exact Fin.r q (.cons (.tmp _ _ q) .nil) q
end Go.Proofs.YtohmhlkdgfcaeaaGreatDoor
namespace Go.Proofs.YtohmhlkdgfcaeaaGreatDoor
def Span.ok (s : Span) (most : Int) : Prop := 0 ≤ s.low ∧ s.low ≤ s.high ∧ s.high ≤ most
def Span.mem (s : Span) (x : Int) : Prop := s.low ≤ x ∧ x ≤ s.high
def Span.ne (s : Span) : Prop := s.low ≤ s.high
instance (s : Span) (m : Int) : Decidable (s.ok m) := by unfold Span.ok; infer_instance
instance (s : Span) (x : Int) : Decidable (s.mem x) := by unfold Span.mem; infer_instance
instance (s : Span) : Decidable s.ne := by unfold Span.ne; infer_instance
def Batch.ok (b : Batch) : Prop := (0 ≤ b.rough ∧ b.rough ≤ 1000) ∧ (0 ≤ b.goal ∧ b.goal ≤ 1000) ∧ (0 ≤ b.thick ∧ b.thick ≤ 1000) ∧ (0 ≤ b.least ∧ b.least ≤ 1000) ∧ (0 ≤ b.polish ∧ b.polish ≤ 100) ∧ (0 ≤ b.eat ∧ b.eat ≤ 100)
def Strip.ok (s : Strip) (hours : Int) : Prop := (0 ≤ s.hour ∧ s.hour ≤ hours - 1) ∧ (0 ≤ s.seen ∧ s.seen ≤ 2000) ∧ (0 ≤ s.off ∧ s.off ≤ 50)
def Acid.ok (a : Acid) : Prop := a.strength.ok 100 ∧ a.fall.ok 20
instance (b : Batch) : Decidable b.ok := by unfold Batch.ok; infer_instance
instance (s : Strip) (h : Int) : Decidable (s.ok h) := by unfold Strip.ok; infer_instance
instance (a : Acid) : Decidable a.ok := by unfold Acid.ok; infer_instance
structure Drum.ok (d : Drum) : Prop where
 acl : 1 ≤ d.acids.length ∧ d.acids.length ≤ 4
 kn : 1 ≤ d.known ∧ d.known ≤ 2 ^ d.acids.length - 1
 hr : 1 ≤ d.hours ∧ d.hours ≤ 12
 adl : (d.adds.length : Int) = d.hours
 stl : d.strips.length ≤ 6
 btl : 1 ≤ d.batches.length ∧ d.batches.length ≤ 5
 ac : ∀ a ∈ d.acids, a.ok
 ad : ∀ x ∈ d.adds, 0 ≤ x ∧ x ≤ 100
 st : ∀ s ∈ d.strips, s.ok d.hours
 bt : ∀ b ∈ d.batches, b.ok
def cap (a b : Span) : Span := ⟨max a.low b.low, min a.high b.high⟩
def capL (s : Span) (l : List Span) : Span := l.foldl cap s
def Strip.span (s : Strip) : Span := ⟨s.seen - s.off, s.seen + s.off⟩
def stripsAt (l : List Strip) (h : Nat) : List Span := (l.filter fun s => s.hour == (h : Int)).map Strip.span
def addAt (l : List Int) (h : Nat) : Int := l.getD h 0
def aft (a : Acid) (add : Int) (s : Span) : Span := ⟨max 0 (s.low - a.fall.high) + add, max 0 (s.high - a.fall.low) + add⟩
def bef (a : Acid) (add : Int) (s : Span) : Span := ⟨if add < s.low then s.low - add + a.fall.low else 0, s.high - add + a.fall.high⟩
def start (a : Acid) (add : Int) : Span := ⟨a.strength.low + add, a.strength.high + add⟩
def fw (ad : List Int) (st : List Strip) (a : Acid) : Nat → Span
 | 0 => capL (start a (addAt ad 0)) (stripsAt st 0)
 | h + 1 => capL (aft a (addAt ad (h + 1)) (fw ad st a h)) (stripsAt st (h + 1))
def bk (ad : List Int) (st : List Strip) (a : Acid) (H : Nat) : Nat → Span
 | 0 => fw ad st a (H - 1)
 | k + 1 => cap (fw ad st a (H - 1 - (k + 1))) (bef a (addAt ad (H - 1 - k)) (bk ad st a H k))
def Poss (ad : List Int) (st : List Strip) (a : Acid) (H : Nat) : Prop := ∀ h, h < H → (fw ad st a h).ne
theorem mem_cap {a b : Span} {x : Int} : (cap a b).mem x ↔ a.mem x ∧ b.mem x := by simp only [cap, Span.mem]; omega
theorem mem_capL {l : List Span} : ∀ {s : Span} {x : Int}, (capL s l).mem x ↔ s.mem x ∧ ∀ t ∈ l, t.mem x := by
 induction l with
 | nil => intro s x; simp [capL]
 | cons t l ih =>
  intro s x
  have := @ih (cap s t) x
  simp only [capL, List.foldl_cons, List.mem_cons, forall_eq_or_imp] at this ⊢
  rw [this, mem_cap]
  constructor
  ·rintro ⟨⟨h1, h2⟩, h3⟩; exact ⟨h1, h2, h3⟩
  ·rintro ⟨h1, h2, h3⟩; exact ⟨⟨h1, h2⟩, h3⟩
theorem capL_low {l : List Span} : ∀ {s : Span}, s.low ≤ (capL s l).low ∧ (capL s l).high ≤ s.high := by
 induction l with
 | nil => intro s; simp [capL]
 | cons t l ih =>
  intro s
  have := @ih (cap s t)
  simp only [capL, List.foldl_cons] at this ⊢
  simp only [cap] at this ⊢
  omega
theorem ne_mem {s : Span} (h : s.ne) : s.mem s.low ∧ s.mem s.high := by simp only [Span.ne, Span.mem] at *; omega
section
variable {ad : List Int} {st : List Strip} {a : Acid} {H : Nat}
theorem addAt_le (had : ∀ x ∈ ad, 0 ≤ x ∧ x ≤ 100) (h : Nat) : 0 ≤ addAt ad h ∧ addAt ad h ≤ 100 := by
 unfold addAt
 rw [List.getD_eq_getElem?_getD]
 cases hh : ad[h]? with
 | none => simp
 | some x => simpa using had x (List.mem_of_getElem? hh)
theorem fw_low (ha : a.ok) (had : ∀ x ∈ ad, 0 ≤ x ∧ x ≤ 100) : ∀ h, 0 ≤ (fw ad st a h).low ∧ (fw ad st a h).high ≤ 100 + 100 * (h + 1) := by
 intro h
 obtain ⟨h1, h2⟩ := ha
 simp only [Span.ok] at h1 h2
 induction h with
 | zero =>
  have := addAt_le had 0
  have := @capL_low (stripsAt st 0) (start a (addAt ad 0))
  simp only [fw]
  simp only [start] at this ⊢
  omega
 | succ h ih =>
  have := addAt_le had (h + 1)
  have := @capL_low (stripsAt st (h + 1)) (aft a (addAt ad (h + 1)) (fw ad st a h))
  simp only [fw]
  simp only [aft] at this ⊢
  push_cast
  omega
theorem bk_ok (ha : a.ok) (had : ∀ x ∈ ad, 0 ≤ x ∧ x ≤ 100) (hp : Poss ad st a H) : ∀ k, k < H → (bk ad st a H k).ne ∧ (fw ad st a (H - 1 - k)).low ≤ (bk ad st a H k).low ∧ (bk ad st a H k).high ≤ (fw ad st a (H - 1 - k)).high := by
 intro k
 induction k with
 | zero => intro hk; exact ⟨hp _ (by omega), by simp [bk]⟩
 | succ k ih =>
  intro hk
  obtain ⟨i1, i2, i3⟩ := ih (by omega)
  have hn := hp (H - 1 - (k + 1)) (by omega)
  have e : H - 1 - k = H - 1 - (k + 1) + 1 := by omega
  have hl := fw_low (st := st) ha had (H - 1 - (k + 1))
  have hadd := addAt_le had (H - 1 - k)
  have hc := @capL_low (stripsAt st (H - 1 - k)) (aft a (addAt ad (H - 1 - k)) (fw ad st a (H - 1 - (k + 1))))
  have he : fw ad st a (H - 1 - k) = capL (aft a (addAt ad (H - 1 - k)) (fw ad st a (H - 1 - (k + 1)))) (stripsAt st (H - 1 - k)) := by
   rw [e]; rfl
  rw [← he] at hc
  obtain ⟨h1, h2⟩ := ha
  simp only [Span.ok] at h1 h2
  simp only [bk, cap, bef, aft, Span.ne] at *
  split <;> omega
def bd (ad : List Int) (st : List Strip) (a : Acid) (H h : Nat) : Span := bk ad st a H (H - 1 - h)
theorem bd_last (_hH : 0 < H) : bd ad st a H (H - 1) = fw ad st a (H - 1) := by simp [bd, bk]
theorem bd_step {h : Nat} (hh : h + 1 < H) : bd ad st a H h = cap (fw ad st a h) (bef a (addAt ad (h + 1)) (bd ad st a H (h + 1))) := by
 unfold bd
 obtain ⟨k, hk⟩ : ∃ k, H - 1 - h = k + 1 := ⟨H - 1 - h - 1, by omega⟩
 have e1 : H - 1 - (h + 1) = k := by omega
 rw [hk, e1, bk]
 have e2 : H - 1 - (k + 1) = h := by omega
 have e3 : H - 1 - k = h + 1 := by omega
 rw [e2, e3]
theorem bd_ok (ha : a.ok) (had : ∀ x ∈ ad, 0 ≤ x ∧ x ≤ 100) (hp : Poss ad st a H) {h : Nat} (hh : h < H) : (bd ad st a H h).ne ∧ (fw ad st a h).low ≤ (bd ad st a H h).low ∧ (bd ad st a H h).high ≤ (fw ad st a h).high := by
 have := bk_ok ha had hp (H - 1 - h) (by omega)
 have e : H - 1 - (H - 1 - h) = h := by omega
 rw [e] at this
 exact this
end
end Go.Proofs.YtohmhlkdgfcaeaaGreatDoor
namespace Go.Proofs.YtohmhlkdgfcaeaaGreatDoor
open Go Go.RowKit
theorem wr_of {x : Int} (h : -9223372036854775808 ≤ x ∧ x ≤ 9223372036854775807) : wr x = x := by
 show IntKind.i64.wrap x = x
 rw [IntKind.wrap_i64]; omega
theorem ix_at {α : Type} {l : List α} {i : Nat} {x : α} (h : l[i]? = some x) : ix l (i : Int) = some x := by
 simp [ix, h]
def fc {α σ β : Type} (body : Nat → α → σ → (σ → Option β) → Option β) (fin : σ → Option β) : Nat → List α → σ → Option β
 | _, [], s => fin s
 | i, x :: r, s => body i x s (fc body fin (i + 1) r)
theorem loop_list {α σ β : Type} (l : List α) (L : Nat → Int → σ → Option β) (body : Nat → α → σ → (σ → Option β) → Option β) (fin : σ → Option β)
  (h : ∀ (k i : Nat) (s : σ), L (k + 1) (i : Int) s = bif decide ((i : Int) < ((l.length : Nat) : Int)) then (ix l (i : Int)).bind (fun x => body i x s (fun s' => L k (wr ((i : Int) + 1)) s')) else fin s)
  (hl : l.length ≤ 1000000) : ∀ (k i : Nat) (s : σ), l.length < k + i → i ≤ l.length → L k (i : Int) s = fc body fin i (l.drop i) s := by
 intro k
 induction k with
 | zero => intro i s h1 h2; omega
 | succ k ih =>
  intro i s h1 h2
  rw [h]
  by_cases hi : i < l.length
  ·have e1 : decide ((i : Int) < ((l.length : Nat) : Int)) = true := decide_eq_true (by omega)
   rw [e1, cond_true, ix_at (List.getElem?_eq_getElem hi), List.drop_eq_getElem_cons hi]
   simp only [Option.bind_some, fc]
   congr 1
   funext s'
   rw [wr_of (by omega)]
   exact_mod_cast ih (i + 1) s' (by omega) (by omega)
  ·have e1 : decide ((i : Int) < ((l.length : Nat) : Int)) = false := decide_eq_false (by omega)
   rw [e1, cond_false, List.drop_eq_nil_of_le (by omega)]
   rfl
def fn {σ β : Type} (m : Int) (body : Int → σ → (σ → Option β) → Option β) (fin : σ → Option β) : Nat → Int → σ → Option β
 | 0, _, s => fin s
 | r + 1, i, s => body i s (fn m body fin r (i + 1))
theorem loop_nat {σ β : Type} (m : Int) (L : Nat → Int → σ → Option β) (body : Int → σ → (σ → Option β) → Option β) (fin : σ → Option β)
  (h : ∀ (k : Nat) (i : Int) (s : σ), L (k + 1) i s = bif decide (i < m) then body i s (fun s' => L k (wr (i + 1)) s') else fin s)
  (hm : m ≤ 1000000) : ∀ (r k : Nat) (i : Int) (s : σ), 0 ≤ i → i + r = m → r < k → L k i s = fn m body fin r i s := by
 intro r
 induction r with
 | zero =>
  intro k i s h0 h1 h2
  obtain ⟨k, rfl⟩ : ∃ k', k = k' + 1 := ⟨k - 1, by omega⟩
  have e1 : decide (i < m) = false := decide_eq_false (by omega)
  rw [h, e1, cond_false]; rfl
 | succ r ih =>
  intro k i s h0 h1 h2
  obtain ⟨k, rfl⟩ : ∃ k', k = k' + 1 := ⟨k - 1, by omega⟩
  have e1 : decide (i < m) = true := decide_eq_true (by omega)
  rw [h, e1, cond_true]
  simp only [fn]
  congr 1
  funext s'
  rw [wr_of (by omega)]
  exact ih k (i + 1) s' (by omega) (by omega) (by omega)
theorem fc_all {α : Type} (p : α → Bool) (fin : Option Bool) : ∀ (l : List α) (i : Nat), fc (σ := Unit) (fun _ x s K => bif p x then K s else some false) (fun _ => fin) i l () = bif l.all p then fin else some false := by
 intro l
 induction l with
 | nil => intro i; rfl
 | cons x r ih =>
  intro i
  simp only [fc, List.all_cons]
  cases p x
  ·rfl
  ·rw [cond_true, ih]; rfl
theorem loop_all {α : Type} (l : List α) (L : Nat → Int → Option Bool) (p : α → Bool) (fin : Option Bool)
  (h : ∀ (k i : Nat), L (k + 1) (i : Int) = bif decide ((i : Int) < ((l.length : Nat) : Int)) then (ix l (i : Int)).bind (fun x => bif p x then L k (wr ((i : Int) + 1)) else some false) else fin)
  (hl : l.length ≤ 1000000) {k : Nat} (hk : l.length < k) : L k 0 = bif l.all p then fin else some false := by
 have := loop_list l (fun k i (_ : Unit) => L k i) (fun _ x s K => bif p x then K s else some false) (fun _ => fin) (fun k i _ => h k i) hl k 0 () (by omega) (by omega)
 rw [fc_all] at this
 exact this
def firstI {α : Type} (p : α → Bool) : Nat → List α → Int
 | _, [] => -1
 | i, x :: r => bif p x then (i : Int) else firstI p (i + 1) r
theorem firstI_any {α : Type} (p : α → Bool) : ∀ (l : List α) (i : Nat), decide (0 ≤ firstI p i l) = l.any p := by
 intro l
 induction l with
 | nil => intro i; rfl
 | cons x r ih =>
  intro i
  rw [firstI, List.any_cons]
  rcases Bool.eq_false_or_eq_true (p x) with h | h
  ·rw [h, cond_true]; exact decide_eq_true (by omega)
  ·rw [h, cond_false, ih]; rfl
theorem loop_first {α : Type} (l : List α) (f : α → Option Bool) (p : α → Bool) (hf : ∀ x ∈ l, f x = some (p x)) (L : Nat → Int → Option Int)
  (h : ∀ (k i : Nat), L (k + 1) (i : Int) = bif decide ((i : Int) < ((l.length : Nat) : Int)) then (ix l (i : Int)).bind (fun x => (f x).bind fun b => bif b then some (i : Int) else L k (wr ((i : Int) + 1))) else some (-1))
  (hl : l.length ≤ 1000000) {k : Nat} (hk : l.length < k) : L k 0 = some (firstI p 0 l) := by
 have h1 := loop_list l (fun k i (_ : Unit) => L k i) (fun i x s K => (f x).bind fun b => bif b then some (i : Int) else K s) (fun _ => some (-1)) (fun k i _ => h k i) hl k 0 () (by omega) (by omega)
 rw [List.drop_zero] at h1
 have key : ∀ (l' : List α) (i : Nat), (∀ x ∈ l', f x = some (p x)) → fc (σ := Unit) (fun i x s K => (f x).bind fun b => bif b then some (i : Int) else K s) (fun _ => some (-1)) i l' () = some (firstI p i l') := by
  intro l'
  induction l' with
  | nil => intro i _; rfl
  | cons x r ih =>
   intro i hx
   simp only [fc, firstI, hx x List.mem_cons_self, Option.bind_some]
   cases p x
   ·rw [cond_false, cond_false]; exact ih (i + 1) (fun y hy => hx y (List.mem_cons_of_mem _ hy))
   ·rfl
 exact h1.trans (key l 0 hf)
def inb (v a b : Int) : Bool := decide (a ≤ v) && decide (v ≤ b)
theorem p_87 (n : Nat) (v a b : Int) : s_87 n v a b = some (inb v a b) := by unfold s_87 inb; cases decide (a ≤ v) <;> rfl
theorem p_103 (n : Nat) (v a b : Int) : s_103 n v a b = some (inb v a b) := by unfold s_103 inb; cases decide (a ≤ v) <;> rfl
def spb (s : Span) (m : Int) : Bool := decide (0 ≤ s.low) && (decide (s.low ≤ s.high) && decide (s.high ≤ m))
theorem p_107 (n : Nat) (s : Span) (m : Int) : s_107 n s m = some (spb s m) := by unfold s_107 spb; cases decide (0 ≤ s.low) <;> cases decide (s.low ≤ s.high) <;> rfl
theorem p_148 (n : Nat) (s : Span) (m : Int) : s_148 n s m = some (spb s m) := by unfold s_148 spb; cases decide (0 ≤ s.low) <;> cases decide (s.low ≤ s.high) <;> rfl
def okA (a : Acid) : Bool := spb a.strength 100 && spb a.fall 20
def okS (h : Int) (s : Strip) : Bool := inb s.hour 0 (wr (h - 1)) && (inb s.seen 0 2000 && inb s.off 0 50)
def okBt (b : Batch) : Bool := inb b.rough 0 1000 && (inb b.goal 0 1000 && (inb b.thick 0 1000 && (inb b.least 0 1000 && (inb b.polish 0 100 && inb b.eat 0 100))))
def okL (d : Drum) : Bool := d.acids.all okA && (d.adds.all (fun x => inb x 0 100) && (d.strips.all (okS d.hours) && d.batches.all okBt))
def okN (d : Drum) : Bool := inb d.acids.length 1 4 && (inb d.known 1 (2 ^ d.acids.length - 1) && (inb d.hours 1 12 && (decide ((d.adds.length : Int) = d.hours) && (decide ((d.strips.length : Int) ≤ 6) && inb d.batches.length 1 5))))
def okD (d : Drum) : Bool := okN d && okL d
theorem inb_iff {v a b : Int} : inb v a b = true ↔ a ≤ v ∧ v ≤ b := by simp [inb]
theorem spb_iff {s : Span} {m : Int} : spb s m = true ↔ s.ok m := by simp [spb, Span.ok]
theorem okA_iff {a : Acid} : okA a = true ↔ a.ok := by simp [okA, Acid.ok, spb_iff]
theorem okS_iff {h : Int} {s : Strip} (hh : 1 ≤ h ∧ h ≤ 12) : okS h s = true ↔ s.ok h := by
 unfold okS
 rw [wr_of (by omega)]
 simp [Strip.ok, inb_iff]
theorem okBt_iff {b : Batch} : okBt b = true ↔ b.ok := by simp [okBt, Batch.ok, inb_iff]
theorem okD_iff {d : Drum} : okD d = true ↔ d.ok := by
 constructor
 ·intro h
  simp only [okD, okN, okL, Bool.and_eq_true, inb_iff, decide_eq_true_eq, List.all_eq_true] at h
  obtain ⟨⟨h1, h2, h3, h4, h5, h6⟩, h7, h8, h9, h10⟩ := h
  exact ⟨by omega, h2, h3, h4, by omega, by omega, fun a ha => okA_iff.1 (h7 a ha), h8, fun s hs => (okS_iff h3).1 (h9 s hs), fun b hb => okBt_iff.1 (h10 b hb)⟩
 ·intro h
  simp only [okD, okN, okL, Bool.and_eq_true, inb_iff, decide_eq_true_eq, List.all_eq_true]
  have h1 := h.acl
  have h5 := h.stl
  have h6 := h.btl
  exact ⟨⟨by omega, h.kn, h.hr, h.adl, by omega, by omega⟩, fun a ha => okA_iff.2 (h.ac a ha), h.ad, fun s hs => (okS_iff h.hr).2 (h.st s hs), fun b hb => okBt_iff.2 (h.bt b hb)⟩
structure Short (d : Drum) : Prop where
 a : d.acids.length ≤ 6
 b : d.adds.length ≤ 15
 c : d.strips.length ≤ 9
 e : d.batches.length ≤ 7
def shortB (d : Drum) : Bool := decide (((d.acids.length : Nat) : Int) ≤ 6) && (decide (((d.adds.length : Nat) : Int) ≤ 15) && (decide (((d.strips.length : Nat) : Int) ≤ 9) && decide (((d.batches.length : Nat) : Int) ≤ 7)))
theorem shortB_iff {d : Drum} : shortB d = true ↔ Short d := by
 simp only [shortB, Bool.and_eq_true, decide_eq_true_eq]
 exact ⟨fun h => ⟨by omega, by omega, by omega, by omega⟩, fun h => ⟨by have := h.a; omega, by have := h.b; omega, by have := h.c; omega, by have := h.e; omega⟩⟩
theorem p_23 (n : Nat) (d : Drum) : s_23 n d = some (shortB d) := by
 unfold s_23 shortB
 cases decide (((d.acids.length : Nat) : Int) ≤ 6) <;> cases decide (((d.adds.length : Nat) : Int) ≤ 15) <;> cases decide (((d.strips.length : Nat) : Int) ≤ 9) <;> rfl
section
variable {n : Nat} {d : Drum}
theorem p_39_l14 (hn : 100 ≤ n) (hs : Short d) : s_39_l14 n d n 0 = some (d.batches.all okBt) := by
 have := hs.e
 rw [loop_all d.batches (s_39_l14 n d) okBt (some true) (fun k i => ?_) (by omega) (by omega)]
 ·cases d.batches.all okBt <;> rfl
 ·rw [s_39_l14]
  congr 1
  congr 1
  funext x
  simp only [p_103, Option.bind_some, okBt, s_39_j17]
  cases inb x.rough 0 1000 <;> cases inb x.goal 0 1000 <;> cases inb x.thick 0 1000 <;> cases inb x.least 0 1000 <;> cases inb x.polish 0 100 <;> cases inb x.eat 0 100 <;> rfl
theorem p_39_l10 (hn : 100 ≤ n) (hs : Short d) : s_39_l10 n d n 0 = some (d.strips.all (okS d.hours) && d.batches.all okBt) := by
 have := hs.c
 rw [loop_all d.strips (s_39_l10 n d) (okS d.hours) (some (d.batches.all okBt)) (fun k i => ?_) (by omega) (by omega)]
 ·cases d.strips.all (okS d.hours) <;> rfl
 ·rw [s_39_l10, p_39_l14 hn hs]
  congr 1
  congr 1
  funext x
  simp only [p_103, Option.bind_some, okS, s_39_j13]
  cases inb x.hour 0 (wr (d.hours - 1)) <;> cases inb x.seen 0 2000 <;> cases inb x.off 0 50 <;> rfl
theorem p_39_l9 (hn : 100 ≤ n) (hs : Short d) : s_39_l9 n d n 0 = some (d.adds.all (fun x => inb x 0 100) && (d.strips.all (okS d.hours) && d.batches.all okBt)) := by
 have := hs.b
 rw [loop_all d.adds (s_39_l9 n d) (fun x => inb x 0 100) (some (d.strips.all (okS d.hours) && d.batches.all okBt)) (fun k i => ?_) (by omega) (by omega)]
 ·cases d.adds.all (fun x => inb x 0 100) <;> rfl
 ·rw [s_39_l9, p_39_l10 hn hs]
  congr 1
  congr 1
  funext x
  simp only [p_103, Option.bind_some]
  cases inb x 0 100 <;> rfl
theorem p_39_l5 (hn : 100 ≤ n) (hs : Short d) : s_39_l5 n d n 0 = some (okL d) := by
 have := hs.a
 rw [loop_all d.acids (s_39_l5 n d) okA (some (d.adds.all (fun x => inb x 0 100) && (d.strips.all (okS d.hours) && d.batches.all okBt))) (fun k i => ?_) (by omega) (by omega)]
 ·unfold okL; cases d.acids.all okA <;> rfl
 ·rw [s_39_l5, p_39_l9 hn hs]
  by_cases hi : i < d.acids.length
  ·have e := ix_at (List.getElem?_eq_getElem hi)
   simp only [e, Option.bind_some, p_107, okA, s_39_j8]
   cases spb d.acids[i].strength 100 <;> cases spb d.acids[i].fall 20 <;> rfl
  ·have e1 : decide ((i : Int) < ((d.acids.length : Nat) : Int)) = false := decide_eq_false (by omega)
   rw [e1, cond_false, cond_false]
theorem p_106 (hn : 100 ≤ n) {m : Nat} (hm : m ≤ 40) : s_106 n (m : Int) = some (2 ^ m) := by
 have h1 : ∀ (r k : Nat) (i : Nat), i + r = m → r < k → s_106_l1 (m : Int) k (2 ^ i) (i : Int) = some (2 ^ m) := by
  intro r
  induction r with
  | zero =>
   intro k i hi hk
   obtain ⟨k, rfl⟩ : ∃ k', k = k' + 1 := ⟨k - 1, by omega⟩
   have e1 : decide ((i : Int) < (m : Int)) = false := decide_eq_false (by omega)
   have : i = m := by omega
   subst this
   rw [s_106_l1, e1, cond_false]
  | succ r ih =>
   intro k i hi hk
   obtain ⟨k, rfl⟩ : ∃ k', k = k' + 1 := ⟨k - 1, by omega⟩
   have e1 : decide ((i : Int) < (m : Int)) = true := decide_eq_true (by omega)
   have h6 : -9223372036854775808 ≤ (2 : Int) * 2 ^ i ∧ (2 : Int) * 2 ^ i ≤ 9223372036854775807 := by
    obtain ⟨p, hp, hp2⟩ : ∃ p : Nat, (2 : Int) ^ i = (p : Int) ∧ p ≤ 2 ^ 40 := ⟨2 ^ i, by push_cast; rfl, Nat.pow_le_pow_right (by omega) (by omega)⟩
    rw [hp]
    omega
   rw [s_106_l1, e1, cond_true, wr_of (x := 2 * 2 ^ i) h6, wr_of (x := (i : Int) + 1) (by omega)]
   have := ih k (i + 1) (by omega) (by omega)
   rw [show (2 : Int) * 2 ^ i = 2 ^ (i + 1) by rw [Int.pow_succ]; omega]
   exact_mod_cast this
 have := h1 m n 0 (by omega) (by omega)
 simpa [s_106] using this
theorem p_39 (hn : 100 ≤ n) (hs : Short d) : s_39 n d = some (okD d) := by
 have h1 := hs.a
 unfold s_39
 rw [p_106 hn (by omega)]
 simp only [p_103, Option.bind_some, s_39_j4, p_39_l5 hn hs]
 have h3 : (2 : Int) ^ d.acids.length ≤ 64 := by
  have : (2 : Nat) ^ d.acids.length ≤ 2 ^ 6 := Nat.pow_le_pow_right (by omega) h1
  exact_mod_cast this
 have h4 : (0 : Int) < 2 ^ d.acids.length := by
  have : (0 : Nat) < 2 ^ d.acids.length := Nat.pow_pos (by omega)
  exact_mod_cast this
 rw [wr_of (by omega)]
 have h5 : decide (6 < ((d.strips.length : Nat) : Int)) = !decide (((d.strips.length : Nat) : Int) ≤ 6) := by
  by_cases h : ((d.strips.length : Nat) : Int) ≤ 6
  ·simp [h]
  ·simp [h]; omega
 rw [h5]
 unfold okD okN
 cases inb d.acids.length 1 4 <;> cases inb d.known 1 (2 ^ d.acids.length - 1) <;> cases inb d.hours 1 12 <;> cases decide (((d.adds.length : Nat) : Int) = d.hours) <;> cases decide (((d.strips.length : Nat) : Int) ≤ 6) <;> cases inb d.batches.length 1 5 <;> rfl
end
end Go.Proofs.YtohmhlkdgfcaeaaGreatDoor
namespace Go.Proofs.YtohmhlkdgfcaeaaGreatDoor
open Go Go.RowKit
section
variable {n : Nat} {d : Drum}
theorem p_121 (hn : 100 ≤ n) (l : List Int) (hl : l.length ≤ 50) (f : Int → Option Bool) (p : Int → Bool) (hf : ∀ x ∈ l, f x = some (p x)) : s_121 n l f = some (l.any p) := by
 unfold s_121 s_167
 rw [loop_first l f p hf (s_167_l1 f l) (fun k i => by rw [s_167_l1]) (by omega) (by omega), Option.bind_some, firstI_any]
theorem p_146 (hn : 100 ≤ n) (l : List Acid) (hl : l.length ≤ 50) (f : Acid → Option Bool) (p : Acid → Bool) (hf : ∀ x ∈ l, f x = some (p x)) : s_146 n l f = some (l.any p) := by
 unfold s_146 s_174
 rw [loop_first l f p hf (s_174_l1 f l) (fun k i => by rw [s_174_l1]) (by omega) (by omega), Option.bind_some, firstI_any]
theorem p_95 (hn : 100 ≤ n) (l : List Strip) (hl : l.length ≤ 50) (f : Strip → Option Bool) (p : Strip → Bool) (hf : ∀ x ∈ l, f x = some (p x)) : s_95 n l f = some (l.any p) := by
 unfold s_95 s_143
 rw [loop_first l f p hf (s_143_l1 f l) (fun k i => by rw [s_143_l1]) (by omega) (by omega), Option.bind_some, firstI_any]
theorem p_151 (hn : 100 ≤ n) (l : List Batch) (hl : l.length ≤ 50) (f : Batch → Option Bool) (p : Batch → Bool) (hf : ∀ x ∈ l, f x = some (p x)) : s_151 n l f = some (l.any p) := by
 unfold s_151 s_175
 rw [loop_first l f p hf (s_175_l1 f l) (fun k i => by rw [s_175_l1]) (by omega) (by omega), Option.bind_some, firstI_any]
theorem any_not {α : Type} (l : List α) (p : α → Bool) : l.any (fun x => !p x) = !l.all p := by
 induction l with
 | nil => rfl
 | cons x r ih => simp only [List.any_cons, List.all_cons, ih, Bool.not_and]
theorem p_147 (a : Acid) : s_147 n a = some (!okA a) := by
 unfold s_147 okA
 simp only [p_148, Option.bind_some]
 cases spb a.strength 100 <;> cases spb a.fall 20 <;> rfl
theorem p_149 (x : Int) : s_149 n x = some (!inb x 0 100) := by
 unfold s_149
 simp only [p_87, Option.bind_some]
theorem p_150 (s : Strip) : s_150 n s d = some (!okS d.hours s) := by
 unfold s_150 okS
 simp only [p_87, Option.bind_some]
 cases inb s.hour 0 (wr (d.hours - 1)) <;> cases inb s.seen 0 2000 <;> cases inb s.off 0 50 <;> rfl
theorem p_152 (b : Batch) : s_152 n b = some (!okBt b) := by
 unfold s_152 s_153 okBt
 simp only [p_87, Option.bind_some]
 cases inb b.rough 0 1000 <;> cases inb b.goal 0 1000 <;> cases inb b.thick 0 1000 <;> cases inb b.least 0 1000 <;> cases inb b.polish 0 100 <;> cases inb b.eat 0 100 <;> rfl
theorem p_104 (hn : 100 ≤ n) (hs : Short d) : s_104 n d = some (okD d) := by
 have h1 := hs.a
 have h2 := hs.b
 have h7 := hs.c
 have h8 := hs.e
 have h3 : (2 : Int) ^ d.acids.length ≤ 64 := by
  have : (2 : Nat) ^ d.acids.length ≤ 2 ^ 6 := Nat.pow_le_pow_right (by omega) h1
  exact_mod_cast this
 have h4 : (0 : Int) < 2 ^ d.acids.length := by
  have : (0 : Nat) < 2 ^ d.acids.length := Nat.pow_pos (by omega)
  exact_mod_cast this
 have hsh : shl .i64 1 ((List.length d.acids : Nat) : Int) = some (2 ^ d.acids.length) := by
  unfold shl
  rw [show decide ((0 : Int) ≤ ((List.length d.acids : Nat) : Int)) = true from decide_eq_true (by omega), cond_true]
  have hm : min ((List.length d.acids : Nat) : Int).toNat IntKind.i64.bits = d.acids.length := by
   show min d.acids.length 64 = d.acids.length
   omega
  rw [hm, Int.one_mul]
  exact congrArg some (wr_of (by omega))
 unfold s_104
 rw [hsh]
 simp only [p_87, Option.bind_some, p_146 hn d.acids (by omega) _ _ (fun x _ => p_147 x), p_121 hn d.adds (by omega) _ _ (fun x _ => p_149 x), p_95 hn d.strips (by omega) _ _ (fun x _ => p_150 x), p_151 hn d.batches (by omega) _ _ (fun x _ => p_152 x), any_not]
 rw [wr_of (by omega)]
 unfold okD okN okL
 cases inb d.acids.length 1 4 <;> cases inb d.known 1 (2 ^ d.acids.length - 1) <;> cases inb d.hours 1 12 <;> cases decide (((d.adds.length : Nat) : Int) = d.hours) <;> cases decide (((d.strips.length : Nat) : Int) ≤ 6) <;> cases inb d.batches.length 1 5 <;>
  cases d.acids.all okA <;> cases d.adds.all (fun x => inb x 0 100) <;> cases d.strips.all (okS d.hours) <;> cases d.batches.all okBt <;> rfl
def hasB (set : Int) (i : Nat) : Bool := decide (set / 2 ^ i % 2 = 1)
theorem pow_bound {i : Nat} (h : i ≤ 6) : (1 : Int) ≤ 2 ^ i ∧ (2 : Int) ^ i ≤ 64 := by
 obtain ⟨p, hp, hp1, hp2⟩ : ∃ p : Nat, (2 : Int) ^ i = (p : Int) ∧ 1 ≤ p ∧ p ≤ 2 ^ 6 := ⟨2 ^ i, by push_cast; rfl, Nat.pow_pos (by omega), Nat.pow_le_pow_right (by omega) h⟩
 omega
theorem p_72 (hn : 100 ≤ n) {set : Int} {i : Nat} (hi : i ≤ 6) (h0 : 0 ≤ set) (h1 : set ≤ 1000) : s_72 n set i = some (hasB set i) := by
 unfold s_72
 have hp := pow_bound hi
 rw [p_106 hn (by omega), Option.bind_some]
 generalize hq : (2 : Int) ^ i = p at hp
 have e1 : quo .i64 set p = some (set / p) := by
  unfold quo
  rw [show decide (p = 0) = false from decide_eq_false (by omega), cond_false, Int.tdiv_eq_ediv_of_nonneg h0]
  have h3 : 0 ≤ set / p := Int.ediv_nonneg h0 (by omega)
  have h4 : set / p ≤ set := Int.ediv_le_self _ h0
  exact congrArg some (wr_of (by omega))
 have h3 : 0 ≤ set / p := Int.ediv_nonneg h0 (by omega)
 rw [e1, Option.bind_some]
 have e2 : rem .i64 (set / p) 2 = some (set / p % 2) := by
  unfold rem
  rw [show decide ((2 : Int) = 0) = false from rfl, cond_false, Int.tmod_eq_emod_of_nonneg h3]
 rw [e2, Option.bind_some, hasB, hq]
theorem and_one : ∀ x : Nat, x < 16 → bits .and .i64 (x : Int) 1 = (x : Int) % 2 := by decide
theorem p_145 {set : Int} {i : Nat} (hi : i ≤ 6) (h0 : 0 ≤ set) (h1 : set ≤ 15) : s_145 n set i = some (hasB set i) := by
 unfold s_145
 have hp := pow_bound hi
 have e1 : shr .i64 set (i : Int) = some (set / 2 ^ i) := by
  unfold shr
  rw [show decide ((0 : Int) ≤ (i : Int)) = true from decide_eq_true (by omega), cond_true]
  have hm : min ((i : Nat) : Int).toNat IntKind.i64.bits = i := by
   show min i 64 = i
   omega
  rw [hm, Int.fdiv_eq_ediv_of_nonneg _ (by omega)]
 rw [e1, Option.bind_some, hasB]
 have h3 : 0 ≤ set / 2 ^ i := Int.ediv_nonneg h0 (by omega)
 have h4 : set / 2 ^ i ≤ set := Int.ediv_le_self _ h0
 obtain ⟨x, hx⟩ := Int.eq_ofNat_of_zero_le h3
 rw [hx, and_one x (by omega)]
end
end Go.Proofs.YtohmhlkdgfcaeaaGreatDoor
namespace Go.Proofs.YtohmhlkdgfcaeaaGreatDoor
open Go Go.RowKit
instance (ad : List Int) (st : List Strip) (a : Acid) (H : Nat) : Decidable (Poss ad st a H) := by unfold Poss; infer_instance
def Span.small (s : Span) : Prop := (-5000 ≤ s.low ∧ s.low ≤ 5000) ∧ (-5000 ≤ s.high ∧ s.high ≤ 5000)
section
variable {n : Nat} {a : Acid} {add : Int} {s : Span}
theorem p_115 (ha : a.ok) (h : 0 ≤ add ∧ add ≤ 100) (hs : s.small) : s_115 n a add s = some (aft a add s) := by
 obtain ⟨h1, h2⟩ := ha
 simp only [Span.ok, Span.small] at h1 h2 hs
 unfold s_115 aft
 rw [wr_of (x := s.low - a.fall.high) (by omega), wr_of (x := s.high - a.fall.low) (by omega), wr_of (by omega), wr_of (by omega)]
theorem p_142 (ha : a.ok) (h : 0 ≤ add ∧ add ≤ 100) (hs : s.small) : s_142 n a add s = some (bef a add s) := by
 obtain ⟨h1, h2⟩ := ha
 simp only [Span.ok, Span.small] at h1 h2 hs
 unfold s_142 s_142_j1 bef
 rw [wr_of (x := s.low - add) (by omega), wr_of (x := s.high - add) (by omega), wr_of (by omega), wr_of (by omega)]
 by_cases hc : add < s.low
 ·rw [decide_eq_true hc, cond_true, if_pos hc]
 ·rw [decide_eq_false hc, cond_false, if_neg hc]
theorem p_138 (s t : Span) : s_138 n s t = some (cap s t) := rfl
end
section
variable {n : Nat} {d : Drum} {a : Acid}
theorem capL_small {l : List Span} {s : Span} (h : s.small) (hl : ∀ t ∈ l, t.small) : (capL s l).small := by
 induction l generalizing s with
 | nil => exact h
 | cons t l ih =>
  refine ih (s := cap s t) ?_ (fun u hu => hl u (List.mem_cons_of_mem _ hu))
  have := hl t List.mem_cons_self
  simp only [Span.small, cap] at *
  omega
theorem strip_small {s : Strip} {H : Int} (h : s.ok H) : s.span.small := by
 obtain ⟨h1, h2, h3⟩ := h
 simp only [Strip.span, Span.small]
 omega
theorem stripsAt_small (hd : d.ok) (h : Nat) : ∀ t ∈ stripsAt d.strips h, t.small := by
 intro t ht
 simp only [stripsAt, List.mem_map, List.mem_filter] at ht
 obtain ⟨s, ⟨hs, _⟩, rfl⟩ := ht
 exact strip_small (hd.st s hs)
theorem stripsAt_cons (x : Strip) (r : List Strip) (h : Nat) : stripsAt (x :: r) h = if x.hour = (h : Int) then x.span :: stripsAt r h else stripsAt r h := by
 unfold stripsAt
 rw [List.filter_cons]
 by_cases hx : x.hour = (h : Int)
 ·simp [hx]
 ·simp [hx]
theorem fw_small (hd : d.ok) (ha : a.ok) {h : Nat} (hh : h < 12) (hn : h = 0 ∨ (fw d.adds d.strips a (h - 1)).ne) : (fw d.adds d.strips a h).small := by
 have h1 := fw_low (st := d.strips) ha hd.ad
 have had := addAt_le hd.ad h
 cases h with
 | zero =>
  refine capL_small ?_ (stripsAt_small hd 0)
  obtain ⟨h1, h2⟩ := ha
  simp only [start, Span.small, Span.ok] at *
  omega
 | succ h =>
  refine capL_small ?_ (stripsAt_small hd (h + 1))
  have h2 := h1 h
  obtain ⟨h3, h4⟩ := ha
  simp only [aft, Span.small, Span.ok, Span.ne, Nat.add_sub_cancel] at *
  omega
def mix (d : Drum) (a : Acid) (H m : Nat) : List Span := (List.range H).map fun h => if h < m then fw d.adds d.strips a h else bd d.adds d.strips a H h
def bdL (d : Drum) (a : Acid) (H : Nat) : List Span := (List.range H).map (bd d.adds d.strips a H)
def fwL (d : Drum) (a : Acid) (m : Nat) : List Span := (List.range m).map (fw d.adds d.strips a)
theorem mix_get {H m h : Nat} (hh : h < H) : (mix d a H m)[h]? = some (if h < m then fw d.adds d.strips a h else bd d.adds d.strips a H h) := by
 unfold mix
 rw [List.getElem?_map, List.getElem?_range hh]; rfl
theorem mix_step {H m : Nat} (hm : m < H) : (mix d a H (m + 1)).set m (bd d.adds d.strips a H m) = mix d a H m := by
 apply List.ext_getElem?
 intro i
 rw [List.getElem?_set]
 by_cases hi : i < H
 ·rw [mix_get (m := m) hi, mix_get (m := m + 1) hi]
  by_cases hmi : m = i
  ·subst hmi
   rw [if_pos rfl, if_pos (by unfold mix; simpa using hm), if_neg (by omega)]
  ·rw [if_neg hmi]
   by_cases h1 : i < m
   ·rw [if_pos h1, if_pos (by omega)]
   ·rw [if_neg h1, if_neg (by omega)]
 ·have e : ∀ q, (mix d a H q)[i]? = none := fun q => by unfold mix; simp; omega
  rw [if_neg (by omega), e, e]
theorem mix_zero {H : Nat} : mix d a H 0 = bdL d a H := by
 unfold mix bdL
 apply List.map_congr_left
 intro h _
 rw [if_neg (by omega)]
theorem mix_last {H : Nat} (hH : 0 < H) : mix d a H (H - 1) = fwL d a H := by
 unfold mix fwL
 apply List.map_congr_left
 intro h hh
 rw [List.mem_range] at hh
 by_cases h1 : h < H - 1
 ·rw [if_pos h1]
 ·rw [if_neg h1]
  have : h = H - 1 := by omega
  subst this
  exact bd_last hH
theorem bd_small (hd : d.ok) (ha : a.ok) {H h : Nat} (hH : H ≤ 12) (hp : Poss d.adds d.strips a H) (hh : h < H) : (bd d.adds d.strips a H h).small := by
 have h1 := fw_low (st := d.strips) ha hd.ad h
 have h2 := bd_ok ha hd.ad hp hh
 simp only [Span.small, Span.ne] at *
 omega
theorem add_at (hd : d.ok) {h : Nat} (hh : (h : Int) < d.hours) : ix d.adds (h : Int) = some (addAt d.adds h) := by
 have := hd.adl
 have hl : h < d.adds.length := by omega
 rw [ix_at (List.getElem?_eq_getElem hl), addAt, List.getD_eq_getElem?_getD, List.getElem?_eq_getElem hl]
 rfl
theorem p_90_l10 (hd : d.ok) (ha : a.ok) {H : Nat} (hH : d.hours = (H : Int)) (hp : Poss d.adds d.strips a H) : ∀ (m k : Nat), m < k → m ≤ H - 1 → s_90_l10 n d a k ((m : Int) - 1) (mix d a H m) = some (bdL d a H, true) := by
 have hhr := hd.hr
 intro m
 induction m with
 | zero =>
  intro k hk hm
  obtain ⟨k, rfl⟩ : ∃ k', k = k' + 1 := ⟨k - 1, by omega⟩
  rw [s_90_l10, decide_eq_false (by omega), cond_false, mix_zero]
 | succ m ih =>
  intro k hk hm
  obtain ⟨k, rfl⟩ : ∃ k', k = k' + 1 := ⟨k - 1, by omega⟩
  have e0 : (((m + 1 : Nat) : Int) - 1) = (m : Int) := by omega
  have e1 : wr ((m : Int) + 1) = ((m + 1 : Nat) : Int) := by rw [wr_of (by omega)]; push_cast; rfl
  have g1 := ix_at (mix_get (d := d) (a := a) (H := H) (m := m + 1) (h := m) (by omega))
  have g2 := ix_at (mix_get (d := d) (a := a) (H := H) (m := m + 1) (h := m + 1) (by omega))
  rw [if_pos (by omega)] at g1
  rw [if_neg (by omega)] at g2
  rw [s_90_l10, e0, decide_eq_true (by omega), cond_true, e1, g1, add_at hd (h := m + 1) (by omega), g2]
  simp only [Option.bind_some, p_142 ha (addAt_le hd.ad (m + 1)) (bd_small hd ha (by omega) hp (show m + 1 < H by omega)), p_138]
  rw [← bd_step (ad := d.adds) (st := d.strips) (a := a) (show m + 1 < H by omega), wr_of (by omega)]
  have hset : sts (mix d a H (m + 1)) (m : Int) (bd d.adds d.strips a H m) = mix d a H m := mix_step (by omega)
  rw [hset]
  exact ih k (by omega) (by omega)
theorem p_90_l9 (hd : d.ok) (hn : 100 ≤ n) (K1 : Int → List Span → Option (List Span × Bool)) (h : Nat) (hh : (h : Int) < 1000) (acc : List Span) (hacc : acc.length ≤ 1000) (s : Span) :
  s_90_l9 n K1 d (h : Int) acc n 0 s = bif decide ((capL s (stripsAt d.strips h)).ne) then K1 ((h : Int) + 1) (acc ++ [capL s (stripsAt d.strips h)]) else some ([], false) := by
 have hst := hd.stl
 have h1 := loop_list d.strips (s_90_l9 n K1 d (h : Int) acc) (fun _ x s K => bif decide (x.hour = (h : Int)) then K (cap s x.span) else K s)
  (fun s => bif decide (s.high < s.low) then some ([], false) else (app acc [s]).bind fun v => K1 (wr ((h : Int) + 1)) v) (fun k i s => by
   rw [s_90_l9]
   by_cases hi : i < d.strips.length
   ·have hok := hd.st _ (List.getElem_mem hi)
    simp only [ix_at (List.getElem?_eq_getElem hi), Option.bind_some, p_138]
    obtain ⟨q1, q2, q3⟩ := hok
    rw [wr_of (x := d.strips[i].seen - d.strips[i].off) (by omega), wr_of (x := d.strips[i].seen + d.strips[i].off) (by omega)]
    rfl
   ·have e1 : decide ((i : Int) < ((d.strips.length : Nat) : Int)) = false := decide_eq_false (by omega)
    rw [e1, cond_false, cond_false]) (by omega) n 0 s (by omega) (by omega)
 rw [List.drop_zero] at h1
 have h2 : ∀ (fin : Span → Option (List Span × Bool)) (l : List Strip) (i : Nat) (s : Span), fc (fun _ x s K => bif decide (x.hour = (h : Int)) then K (cap s x.span) else K s) fin i l s = fin (capL s (stripsAt l h)) := by
  intro fin l
  induction l with
  | nil => intro i s; rfl
  | cons x r ih =>
   intro i s
   rw [stripsAt_cons, fc]
   by_cases hx : x.hour = (h : Int)
   ·rw [decide_eq_true hx, cond_true, if_pos hx, ih]; rfl
   ·rw [decide_eq_false hx, cond_false, if_neg hx, ih]
 rw [show ((0 : Nat) : Int) = 0 from rfl] at h1
 rw [h1, h2]
 generalize capL s (stripsAt d.strips h) = t
 by_cases ht : t.ne
 ·have e : decide (t.high < t.low) = false := decide_eq_false (by unfold Span.ne at ht; omega)
  have ea : app acc [t] = some (acc ++ [t]) := by
   unfold app
   rw [decide_eq_true (show acc.length + [t].length ≤ 1000000 by simp; omega)]
   rfl
  rw [e, cond_false, decide_eq_true ht, cond_true, ea, Option.bind_some, wr_of (by omega)]
 ·have e : decide (t.high < t.low) = true := decide_eq_true (by unfold Span.ne at ht; omega)
  rw [e, cond_true, decide_eq_false ht, cond_false]
theorem fwL_succ (m : Nat) : fwL d a (m + 1) = fwL d a m ++ [fw d.adds d.strips a m] := by
 unfold fwL
 rw [List.range_succ, List.map_append]
 rfl
theorem fwL_length (m : Nat) : (fwL d a m).length = m := by simp [fwL]
theorem p_90_l1 (hd : d.ok) (hn : 100 ≤ n) (ha : a.ok) {H : Nat} (hH : d.hours = (H : Int)) : ∀ (r m k : Nat), m + r = H → r < k → (∀ h, h < m → (fw d.adds d.strips a h).ne) →
  s_90_l1 n d a k (m : Int) (fwL d a m) = if Poss d.adds d.strips a H then some (bdL d a H, true) else some ([], false) := by
 have hhr := hd.hr
 have hadl := hd.adl
 intro r
 induction r with
 | zero =>
  intro m k hm hk hne
  obtain ⟨k, rfl⟩ : ∃ k', k = k' + 1 := ⟨k - 1, by omega⟩
  have hm' : m = H := by omega
  subst hm'
  rw [s_90_l1, decide_eq_false (by omega), cond_false, if_pos (show Poss d.adds d.strips a m from hne), hH, wr_of (by omega), ← mix_last (by omega)]
  have := p_90_l10 (n := n) hd ha hH hne (m - 1) n (by omega) (by omega)
  rw [show (((m - 1 : Nat) : Int) - 1) = (m : Int) - 2 by omega] at this
  exact this
 | succ r ih =>
  intro m k hm hk hne
  obtain ⟨k, rfl⟩ : ∃ k', k = k' + 1 := ⟨k - 1, by omega⟩
  have ea0 : ix d.adds 0 = some (addAt d.adds 0) := add_at hd (h := 0) (by omega)
  have key : ∀ s, capL s (stripsAt d.strips m) = fw d.adds d.strips a m → s_90_j8 n (s_90_l1 n d a k) d (m : Int) (fwL d a m) s = if Poss d.adds d.strips a H then some (bdL d a H, true) else some ([], false) := by
   intro s hs
   unfold s_90_j8
   rw [p_90_l9 hd hn _ m (by omega) _ (by rw [fwL_length]; omega), hs]
   by_cases hf : (fw d.adds d.strips a m).ne
   ·rw [decide_eq_true hf, cond_true, ← fwL_succ]
    have := ih (m + 1) k (by omega) (by omega) (fun h hh => by
     by_cases h1 : h < m
     ·exact hne h h1
     ·have : h = m := by omega
      subst this; exact hf)
    push_cast at this
    exact this
   ·rw [decide_eq_false hf, cond_false, if_neg (fun hp => hf (hp m (by omega)))]
  rw [s_90_l1, decide_eq_true (by omega), cond_true, ea0]
  simp only [Option.bind_some]
  have had := addAt_le hd.ad 0
  cases m with
  | zero =>
   rw [decide_eq_false (by omega), cond_false]
   obtain ⟨q1, q2⟩ := ha
   simp only [Span.ok] at q1 q2
   rw [wr_of (by omega), wr_of (by omega)]
   exact key _ rfl
  | succ m =>
   rw [decide_eq_true (by omega), cond_true, add_at hd (h := m + 1) (by omega)]
   have e1 : wr (((m + 1 : Nat) : Int) - 1) = (m : Int) := by rw [wr_of (by omega)]; omega
   have g1 : ix (fwL d a (m + 1)) (m : Int) = some (fw d.adds d.strips a m) := ix_at (by unfold fwL; rw [List.getElem?_map, List.getElem?_range (by omega)]; rfl)
   rw [e1, g1]
   simp only [Option.bind_some, p_115 ha (addAt_le hd.ad (m + 1)) (fw_small hd ha (show m < 12 by omega) (by
    rcases Nat.eq_zero_or_pos m with h | h
    ·exact .inl h
    ·exact .inr (hne (m - 1) (by omega))))]
   exact key _ rfl
theorem p_90 (hd : d.ok) (hn : 100 ≤ n) {i : Nat} (hi : d.acids[i]? = some a) : s_90 n d (i : Int) = if hasB d.known i = true ∧ Poss d.adds d.strips a d.hours.toNat then some (bdL d a d.hours.toNat, true) else some ([], false) := by
 have hhr := hd.hr
 have hacl := hd.acl
 have hkn := hd.kn
 have hil : i < d.acids.length := (List.getElem?_eq_some_iff.1 hi).1
 have hpw := (pow_bound (i := d.acids.length) (by omega)).2
 unfold s_90
 rw [ix_at hi, Option.bind_some, p_72 hn (by omega) (by omega) (by omega), Option.bind_some]
 cases hb : hasB d.known i with
 | false => simp
 | true =>
  have := p_90_l1 (n := n) hd hn (hd.ac a (List.mem_of_getElem? hi)) (H := d.hours.toNat) (by omega) d.hours.toNat 0 n (by omega) (by omega) (fun h hh => by omega)
  simp only [Bool.not_true, cond_false, true_and]
  exact this
end
end Go.Proofs.YtohmhlkdgfcaeaaGreatDoor
namespace Go.Proofs.YtohmhlkdgfcaeaaGreatDoor
def Meet (w : List Span) : Prop := ∃ x : Int, 0 ≤ x ∧ x ≤ 12 ∧ ∀ s ∈ w, s.mem x
def comm (w : List Span) : Span := capL ⟨0, 12⟩ w
theorem meet_iff {w : List Span} : Meet w ↔ (comm w).ne := by
 constructor
 ·rintro ⟨x, h1, h2, h3⟩
  have := (mem_capL (s := ⟨0, 12⟩) (l := w) (x := x)).2 ⟨⟨h1, h2⟩, h3⟩
  simp only [Span.mem, Span.ne, comm] at *
  omega
 ·intro h
  have h1 := (mem_capL (s := ⟨0, 12⟩) (l := w) (x := (comm w).low)).1 (ne_mem h).1
  exact ⟨_, h1.1.1, h1.1.2, h1.2⟩
instance (w : List Span) : Decidable (Meet w) := decidable_of_iff _ meet_iff.symm
theorem Meet.sub {w w' : List Span} (h : Meet w) (hs : ∀ s ∈ w', s ∈ w) : Meet w' := by
 obtain ⟨x, h1, h2, h3⟩ := h
 exact ⟨x, h1, h2, fun s hw => h3 s (hs s hw)⟩
theorem cap_comm (s a b : Span) : cap (cap s a) b = cap (cap s b) a := by
 simp only [cap, Span.mk.injEq]
 omega
end Go.Proofs.YtohmhlkdgfcaeaaGreatDoor
namespace Go.Proofs.YtohmhlkdgfcaeaaGreatDoor
open Go Go.RowKit
def Err {α : Type} (o : Option (Except Value α)) : Prop := ∃ v, isRule v = true ∧ o = some (.error v)
theorem p_188 (n : Nat) (h : Int) {x y : Span} (hc : (cap x y).ne) : s_188 n h x y = some (.ok (cap x y)) := by
 unfold s_188
 have e : decide ((min x.high y.high) < (max x.low y.low)) = false := decide_eq_false (by simp only [Span.ne, cap] at hc; omega)
 rw [e]; rfl
theorem p_188e (n : Nat) (h : Int) {x y : Span} (hc : ¬ (cap x y).ne) : s_188 n h x y = some (.error (.iface 175 (.agg #[.int .i64 h]))) := by
 unfold s_188
 have e : decide ((min x.high y.high) < (max x.low y.low)) = true := decide_eq_true (by simp only [Span.ne, cap] at hc; omega)
 rw [e]; rfl
theorem capL_cap (l : List Span) : ∀ (s t : Span), capL (cap s t) l = cap (capL s l) t := by
 induction l with
 | nil => intro s t; rfl
 | cons u r ih =>
  intro s t
  show capL (cap (cap s t) u) r = cap (capL (cap s u) r) t
  rw [cap_comm, ih]
def full : Span := ⟨0, 1300⟩
theorem cap_full {s : Span} (h : 0 ≤ s.low ∧ s.high ≤ 1300) : cap full s = s := by
 obtain ⟨h1, h2⟩ := h
 ext
 ·simp only [cap, full]; omega
 ·simp only [cap, full]; omega
theorem capL_full {l : List Span} {s : Span} (h : 0 ≤ s.low ∧ s.high ≤ 1300) : cap (capL full l) s = capL s l := by
 rw [← capL_cap, cap_full h]
theorem ne_left {x y : Span} (h : (cap x y).ne) : x.ne := by simp only [Span.ne, cap] at *; omega
theorem capL_ne {l : List Span} : ∀ {s : Span}, (capL s l).ne → s.ne := by
 induction l with
 | nil => intro s h; exact h
 | cons t r ih => intro s h; exact ne_left (ih (s := cap s t) h)
section
variable {n : Nat} {d : Drum} {a : Acid} {H : Nat}
def lst (H : Nat) (c : Nat → Span) : List Span := (List.range H).map c
theorem lst_get {c : Nat → Span} {h : Nat} (hh : h < H) : (lst H c)[h]? = some (c h) := by
 unfold lst; rw [List.getElem?_map, List.getElem?_range hh]; rfl
theorem lst_set {c : Nat → Span} {m : Nat} {s : Span} : (lst H c).set m s = lst H (fun h => if h = m then s else c h) := by
 apply List.ext_getElem?
 intro i
 rw [List.getElem?_set]
 by_cases hi : i < H
 ·rw [lst_get hi, lst_get hi]
  by_cases hm : m = i
  ·subst hm
   rw [if_pos rfl, if_pos (by unfold lst; simpa using hi), if_pos rfl]
  ·rw [if_neg hm, if_neg (fun e => hm e.symm)]
 ·have e : ∀ c : Nat → Span, (lst H c)[i]? = none := fun c => by unfold lst; simp; omega
  rw [e, e]
  split
  ·rw [if_neg (by unfold lst; simp; omega)]
  ·rfl
theorem lst_congr {c c' : Nat → Span} (h : ∀ i, i < H → c i = c' i) : lst H c = lst H c' := by
 unfold lst
 exact List.map_congr_left (fun i hi => h i (by simpa using hi))
theorem p_173_strips (hd : d.ok) (hn : 100 ≤ n) (hH : d.hours = (H : Int)) (i : Int) (fin : List Span → Option (Except Value Filled)) (hfin : ∀ s, (ix s 0).bind (fun v120 => (ix d.adds 0).bind fun v121 => (ix d.adds 0).bind fun v122 =>
   (s_188 n 0 v120 (Span.mk (wr (a.strength.low + v121)) (wr (a.strength.high + v122)))).bind fun v123 => Except.casesOn (motive := fun _ => Option (Except Value (Filled))) v123 (fun p => some (.error p)) (fun v124 => (ix s 0).bind fun v125 => s_173_l2 n d i a n 1 (sts s 0 v124))) = fin s) :
  ((∀ h, h < H → (capL full (stripsAt d.strips h)).ne) → s_173_l1 n d i a n 0 (lst H (fun _ => full)) = fin (lst H (fun h => capL full (stripsAt d.strips h)))) ∧
  (¬ (∀ h, h < H → (capL full (stripsAt d.strips h)).ne) → Err (s_173_l1 n d i a n 0 (lst H (fun _ => full)))) := by
 have hst := hd.stl
 have h1 := loop_list d.strips (s_173_l1 n d i a) (fun _ x s K => (ix s x.hour).bind fun v => (s_188 n x.hour v x.span).bind fun r => Except.casesOn (motive := fun _ => Option (Except Value (Filled))) r (fun p => some (.error p)) (fun v' => (ix s x.hour).bind fun _ => K (sts s x.hour v')))
  fin (fun k j s => by
   rw [s_173_l1, hfin]
   by_cases hj : j < d.strips.length
   ·have hok := hd.st _ (List.getElem_mem hj)
    simp only [ix_at (List.getElem?_eq_getElem hj), Option.bind_some]
    obtain ⟨q1, q2, q3⟩ := hok
    rw [wr_of (x := d.strips[j].seen - d.strips[j].off) (by omega), wr_of (x := d.strips[j].seen + d.strips[j].off) (by omega)]
    rfl
   ·have e1 : decide ((j : Int) < ((d.strips.length : Nat) : Int)) = false := decide_eq_false (by omega)
    rw [e1, cond_false, cond_false]) (by omega) n 0 (lst H (fun _ => full)) (by omega) (by omega)
 rw [List.drop_zero, show ((0 : Nat) : Int) = 0 from rfl] at h1
 rw [h1]
 clear h1
 have key : ∀ (l : List Strip) (j : Nat) (c : Nat → Span), (∀ s ∈ l, s.ok d.hours) → (∀ h, h < H → (c h).ne) →
   ((∀ h, h < H → (capL (c h) (stripsAt l h)).ne) → fc (fun _ x s K => (ix s x.hour).bind fun v => (s_188 n x.hour v x.span).bind fun r => Except.casesOn (motive := fun _ => Option (Except Value (Filled))) r (fun p => some (.error p)) (fun v' => (ix s x.hour).bind fun _ => K (sts s x.hour v'))) fin j l (lst H c) = fin (lst H (fun h => capL (c h) (stripsAt l h)))) ∧
   (¬ (∀ h, h < H → (capL (c h) (stripsAt l h)).ne) → Err (fc (fun _ x s K => (ix s x.hour).bind fun v => (s_188 n x.hour v x.span).bind fun r => Except.casesOn (motive := fun _ => Option (Except Value (Filled))) r (fun p => some (.error p)) (fun v' => (ix s x.hour).bind fun _ => K (sts s x.hour v'))) fin j l (lst H c))) := by
  intro l
  induction l with
  | nil =>
   intro j c _ hc
   exact ⟨fun _ => rfl, fun h => absurd hc h⟩
  | cons x r ih =>
   intro j c hok hc
   obtain ⟨⟨q1, q2⟩, _⟩ := hok x List.mem_cons_self
   obtain ⟨m, hm⟩ := Int.eq_ofNat_of_zero_le q1
   have hmH : m < H := by omega
   simp only [fc]
   rw [hm, ix_at (lst_get hmH)]
   simp only [Option.bind_some]
   have hcap : ∀ h, capL (c h) (stripsAt (x :: r) h) = capL (if h = m then cap (c m) x.span else c h) (stripsAt r h) := by
    intro h
    rw [stripsAt_cons, hm]
    by_cases hh : h = m
    ·subst hh
     rw [if_pos rfl, if_pos rfl]; rfl
    ·rw [if_neg (by omega), if_neg hh]
   by_cases hx : (cap (c m) x.span).ne
   ·rw [p_188 n m hx]
    simp only [Option.bind_some]
    have hset : sts (lst H c) (m : Int) (cap (c m) x.span) = lst H (fun h => if h = m then cap (c m) x.span else c h) := lst_set
    rw [hset]
    have := ih (j + 1) (fun h => if h = m then cap (c m) x.span else c h) (fun s hs => hok s (List.mem_cons_of_mem _ hs)) (fun h hh => by
     by_cases e : h = m
     ·simp only [e, if_true]; exact hx
     ·simp only [e, if_false]; exact hc h hh)
    simp only [hcap]
    exact this
   ·rw [p_188e n m hx]
    constructor
    ·intro hall
     refine absurd ?_ hx
     have := hall m hmH
     rw [hcap, if_pos rfl] at this
     exact capL_ne this
    ·intro _
     exact ⟨_, rfl, rfl⟩
 exact key d.strips 0 (fun _ => full) hd.st (fun h _ => by simp [Span.ne, full])
def mixS (d : Drum) (a : Acid) (m : Nat) : Nat → Span := fun h => if h < m then fw d.adds d.strips a h else capL full (stripsAt d.strips h)
theorem aft_full (hd : d.ok) (ha : a.ok) {h : Nat} (hh : h + 1 < 12) : 0 ≤ (aft a (addAt d.adds (h + 1)) (fw d.adds d.strips a h)).low ∧ (aft a (addAt d.adds (h + 1)) (fw d.adds d.strips a h)).high ≤ 1300 := by
 have h1 := fw_low (st := d.strips) ha hd.ad h
 have h2 := addAt_le hd.ad (h + 1)
 obtain ⟨h3, h4⟩ := ha
 simp only [aft, Span.ok] at *
 omega
theorem p_173_l3 (hd : d.ok) (ha : a.ok) (hH : d.hours = (H : Int)) (hp : Poss d.adds d.strips a H) (i : Int) : ∀ (m k : Nat), m < k → m ≤ H - 1 → s_173_l3 n d i a k (m : Int) (mix d a H m) = some (.ok ⟨d, i, bdL d a H⟩) := by
 have hhr := hd.hr
 intro m
 induction m with
 | zero =>
  intro k hk hm
  obtain ⟨k, rfl⟩ : ∃ k', k = k' + 1 := ⟨k - 1, by omega⟩
  rw [s_173_l3, decide_eq_false (by omega), cond_false, mix_zero]
 | succ m ih =>
  intro k hk hm
  obtain ⟨k, rfl⟩ : ∃ k', k = k' + 1 := ⟨k - 1, by omega⟩
  have g1 := ix_at (mix_get (d := d) (a := a) (H := H) (m := m + 1) (h := m) (by omega))
  have g2 := ix_at (mix_get (d := d) (a := a) (H := H) (m := m + 1) (h := m + 1) (by omega))
  rw [if_pos (by omega)] at g1
  rw [if_neg (by omega)] at g2
  have e1 : wr (((m + 1 : Nat) : Int) - 1) = (m : Int) := by rw [wr_of (by omega)]; omega
  have hb := bd_small hd ha (by omega) hp (show m + 1 < H by omega)
  have hadd := addAt_le hd.ad (m + 1)
  have hok := (bd_ok ha hd.ad hp (show m < H by omega)).1
  rw [bd_step (ad := d.adds) (st := d.strips) (a := a) (show m + 1 < H by omega)] at hok
  have hset : sts (mix d a H (m + 1)) (m : Int) (bd d.adds d.strips a H m) = mix d a H m := mix_step (by omega)
  have key : ∀ low, low = (bef a (addAt d.adds (m + 1)) (bd d.adds d.strips a H (m + 1))).low → s_173_j6 n (s_173_l3 n d i a k) a ((m + 1 : Nat) : Int) (mix d a H (m + 1)) (bd d.adds d.strips a H (m + 1)) (addAt d.adds (m + 1)) low = some (.ok ⟨d, i, bdL d a H⟩) := by
   intro low hl
   have hhi : wr (wr ((bd d.adds d.strips a H (m + 1)).high - addAt d.adds (m + 1)) + a.fall.high) = (bef a (addAt d.adds (m + 1)) (bd d.adds d.strips a H (m + 1))).high := by
    obtain ⟨h3, h4⟩ := ha
    simp only [Span.small, Span.ok] at hb h3 h4
    rw [wr_of (x := _ - _) (by omega), wr_of (by omega)]
    rfl
   unfold s_173_j6
   rw [hhi, hl, e1, g1]
   simp only [Option.bind_some]
   rw [p_188 n m hok]
   simp only [Option.bind_some]
   rw [← bd_step (ad := d.adds) (st := d.strips) (a := a) (show m + 1 < H by omega), hset]
   exact ih k (by omega) (by omega)
  rw [s_173_l3, decide_eq_true (by omega), cond_true, g2, Option.bind_some, add_at hd (h := m + 1) (by omega), Option.bind_some]
  obtain ⟨h3, h4⟩ := ha
  simp only [Span.small, Span.ok] at hb h3 h4
  by_cases hc : addAt d.adds (m + 1) < (bd d.adds d.strips a H (m + 1)).low
  ·rw [decide_eq_true hc, cond_true]
   refine key _ ?_
   rw [wr_of (x := _ - _) (by omega), wr_of (by omega)]
   simp only [bef]
   rw [if_pos hc]
  ·rw [decide_eq_false hc, cond_false]
   refine key _ ?_
   simp only [bef]
   rw [if_neg hc]
theorem p_173_l2 (hd : d.ok) (hn : 100 ≤ n) (ha : a.ok) (hH : d.hours = (H : Int)) (i : Int) : ∀ (r m k : Nat), m + 1 + r = H → r < k → (∀ h, h < m + 1 → (fw d.adds d.strips a h).ne) →
  (Poss d.adds d.strips a H → s_173_l2 n d i a k ((m + 1 : Nat) : Int) (lst H (mixS d a (m + 1))) = some (.ok ⟨d, i, bdL d a H⟩)) ∧ (¬ Poss d.adds d.strips a H → Err (s_173_l2 n d i a k ((m + 1 : Nat) : Int) (lst H (mixS d a (m + 1))))) := by
 have hhr := hd.hr
 intro r
 induction r with
 | zero =>
  intro m k hm hk hne
  obtain ⟨k, rfl⟩ : ∃ k', k = k' + 1 := ⟨k - 1, by omega⟩
  have hm' : H = m + 1 := by omega
  subst hm'
  refine ⟨fun hp => ?_, fun hp => absurd hne hp⟩
  rw [s_173_l2, decide_eq_false (by omega), cond_false, hH]
  have := p_173_l3 (n := n) hd ha hH hp i m n (by omega) (by omega)
  have e1 : wr (((m + 1 : Nat) : Int) - 1) = (m : Int) := by rw [wr_of (by omega)]; omega
  rw [e1]
  have e2 : lst (m + 1) (mixS d a (m + 1)) = mix d a (m + 1) m := by
   unfold mix lst
   apply List.map_congr_left
   intro h hh
   rw [List.mem_range] at hh
   unfold mixS
   rw [if_pos hh]
   by_cases h1 : h < m
   ·rw [if_pos h1]
   ·have : h = m := by omega
    subst this
    rw [if_neg h1]
    exact (bd_last (ad := d.adds) (st := d.strips) (a := a) (H := h + 1) (by omega)).symm
  rw [e2]
  exact this
 | succ r ih =>
  intro m k hm hk hne
  obtain ⟨k, rfl⟩ : ∃ k', k = k' + 1 := ⟨k - 1, by omega⟩
  have g0 : ix (lst H (mixS d a (m + 1))) (m : Int) = some (fw d.adds d.strips a m) := by
   rw [ix_at (lst_get (by omega))]; unfold mixS; rw [if_pos (by omega)]
  have g1 : ix (lst H (mixS d a (m + 1))) ((m + 1 : Nat) : Int) = some (capL full (stripsAt d.strips (m + 1))) := by
   rw [ix_at (lst_get (by omega))]; unfold mixS; rw [if_neg (by omega)]
  have e1 : wr (((m + 1 : Nat) : Int) - 1) = (m : Int) := by rw [wr_of (by omega)]; omega
  have hsm := fw_small hd ha (show m < 12 by omega) (by
    rcases Nat.eq_zero_or_pos m with h | h
    ·exact .inl h
    ·exact .inr (hne (m - 1) (by omega)))
  have hadd := addAt_le hd.ad (m + 1)
  have haft : Span.mk (wr ((max 0 (wr ((fw d.adds d.strips a m).low - a.fall.high))) + addAt d.adds (m + 1))) (wr ((max 0 (wr ((fw d.adds d.strips a m).high - a.fall.low))) + addAt d.adds (m + 1))) = aft a (addAt d.adds (m + 1)) (fw d.adds d.strips a m) :=
   Option.some.inj (p_115 (n := n) ha hadd hsm)
  have hfw : cap (capL full (stripsAt d.strips (m + 1))) (aft a (addAt d.adds (m + 1)) (fw d.adds d.strips a m)) = fw d.adds d.strips a (m + 1) := capL_full (aft_full hd ha (by omega))
  rw [s_173_l2, decide_eq_true (by omega), cond_true, e1, g0, Option.bind_some, add_at hd (h := m + 1) (by omega), Option.bind_some, g1, Option.bind_some, haft]
  by_cases hf : (fw d.adds d.strips a (m + 1)).ne
  ·rw [p_188 n _ (by rw [hfw]; exact hf), hfw]
   simp only [Option.bind_some]
   have hset : sts (lst H (mixS d a (m + 1))) ((m + 1 : Nat) : Int) (fw d.adds d.strips a (m + 1)) = lst H (mixS d a (m + 1 + 1)) := by
    refine (lst_set (m := m + 1)).trans (lst_congr (fun h _ => ?_))
    unfold mixS
    by_cases e : h = m + 1
    ·subst e; rw [if_pos rfl, if_pos (by omega)]
    ·rw [if_neg e]
     by_cases h1 : h < m + 1
     ·rw [if_pos h1, if_pos (by omega)]
     ·rw [if_neg h1, if_neg (by omega)]
   rw [hset, wr_of (by omega)]
   have := ih (m + 1) k (by omega) (by omega) (fun h hh => by
    by_cases e : h = m + 1
    ·subst e; exact hf
    ·exact hne h (by omega))
   exact_mod_cast this
  ·rw [p_188e n _ (by rw [hfw]; exact hf)]
   exact ⟨fun hp => absurd (hp (m + 1) (by omega)) hf, fun _ => ⟨_, rfl, rfl⟩⟩
theorem p_173 (hd : d.ok) (hn : 100 ≤ n) {i : Nat} (hi : d.acids[i]? = some a) :
  (Poss d.adds d.strips a d.hours.toNat → s_173 n d i = some (.ok ⟨d, i, bdL d a d.hours.toNat⟩)) ∧ (¬ Poss d.adds d.strips a d.hours.toNat → Err (s_173 n d i)) := by
 have hhr := hd.hr
 have ha := hd.ac a (List.mem_of_getElem? hi)
 obtain ⟨H, hH⟩ := Int.eq_ofNat_of_zero_le (show 0 ≤ d.hours by omega)
 have hH' : d.hours.toNat = H := by omega
 rw [hH']
 unfold s_173
 rw [ix_at hi, Option.bind_some]
 have e187 : s_187 n [Span.mk 0 1300] d.hours = some (lst H (fun _ => full)) := by
  unfold s_187
  rw [decide_eq_true hhr.1, decide_eq_true hhr.2]
  simp only [Bool.and_self, cond_true, hH']
  refine congrArg some ?_
  unfold lst full
  apply List.ext_getElem?
  intro j
  simp [List.getElem?_replicate, List.getElem?_range]
  by_cases hj : j < H <;> simp [hj]
 rw [e187, Option.bind_some]
 obtain ⟨k1, k2⟩ := p_173_strips (n := n) (a := a) hd hn hH i _ (fun s => rfl)
 have hst0 : 0 ≤ (start a (addAt d.adds 0)).low ∧ (start a (addAt d.adds 0)).high ≤ 1300 := by
  have := addAt_le hd.ad 0
  obtain ⟨h3, h4⟩ := ha
  simp only [start, Span.ok] at *
  omega
 have hsub : ∀ h, h < H → (fw d.adds d.strips a h).ne → (capL full (stripsAt d.strips h)).ne := by
  intro h hh hf
  cases h with
  | zero => exact ne_left (y := start a (addAt d.adds 0)) (by rw [capL_full hst0]; exact hf)
  | succ h => exact ne_left (y := aft a (addAt d.adds (h + 1)) (fw d.adds d.strips a h)) (by rw [capL_full (aft_full hd ha (by omega))]; exact hf)
 by_cases hall : ∀ h, h < H → (capL full (stripsAt d.strips h)).ne
 ·rw [k1 hall]
  have g0 : ix (lst H (fun h => capL full (stripsAt d.strips h))) 0 = some (capL full (stripsAt d.strips 0)) := ix_at (lst_get (c := fun h => capL full (stripsAt d.strips h)) (h := 0) (by omega))
  have ga : ix d.adds 0 = some (addAt d.adds 0) := add_at hd (h := 0) (by omega)
  have hs0 : Span.mk (wr (a.strength.low + addAt d.adds 0)) (wr (a.strength.high + addAt d.adds 0)) = start a (addAt d.adds 0) := by
   have := addAt_le hd.ad 0
   obtain ⟨h3, h4⟩ := ha
   simp only [Span.ok] at h3 h4
   rw [wr_of (by omega), wr_of (by omega)]; rfl
  have hfw : cap (capL full (stripsAt d.strips 0)) (start a (addAt d.adds 0)) = fw d.adds d.strips a 0 := capL_full hst0
  simp only [g0, ga, Option.bind_some, hs0]
  by_cases hf : (fw d.adds d.strips a 0).ne
  ·rw [p_188 n _ (by rw [hfw]; exact hf), hfw]
   simp only [Option.bind_some]
   have hset : sts (lst H (fun h => capL full (stripsAt d.strips h))) 0 (fw d.adds d.strips a 0) = lst H (mixS d a (0 + 1)) := by
    refine (lst_set (m := 0)).trans (lst_congr (fun h _ => ?_))
    unfold mixS
    by_cases e : h = 0
    ·subst e; rw [if_pos rfl, if_pos (by omega)]
    ·rw [if_neg e, if_neg (by omega)]
   rw [hset]
   exact p_173_l2 (n := n) hd hn ha hH i (H - 1) 0 n (by omega) (by omega) (fun h hh => by
    have : h = 0 := by omega
    subst this; exact hf)
  ·rw [p_188e n _ (by rw [hfw]; exact hf)]
   exact ⟨fun hp => absurd (hp 0 (by omega)) hf, fun _ => ⟨_, rfl, rfl⟩⟩
 ·exact ⟨fun hp => absurd (fun h hh => hsub h hh (hp h hh)) hall, fun _ => k2 hall⟩
end
end Go.Proofs.YtohmhlkdgfcaeaaGreatDoor
namespace Go.Proofs.YtohmhlkdgfcaeaaGreatDoor
open Go Go.RowKit
def acidAt (d : Drum) (i : Nat) : Acid := d.acids.getD i default
def hrs (d : Drum) : Nat := d.hours.toNat
def PossI (d : Drum) (i : Nat) : Bool := hasB d.known i && decide (Poss d.adds d.strips (acidAt d i) (hrs d))
def bdI (d : Drum) (i : Nat) : List Span := bdL d (acidAt d i) (hrs d)
def idx (d : Drum) : List Nat := (List.range d.acids.length).filter (PossI d)
section
variable {n : Nat} {d : Drum}
theorem acidAt_get {i : Nat} (hi : i < d.acids.length) : d.acids[i]? = some (acidAt d i) := by
 unfold acidAt
 rw [List.getD_eq_getElem?_getD, List.getElem?_eq_getElem hi]; rfl
theorem acidAt_ok (hd : d.ok) {i : Nat} (hi : i < d.acids.length) : (acidAt d i).ok := hd.ac _ (List.mem_of_getElem? (acidAt_get hi))
theorem hrs_eq (hd : d.ok) : d.hours = (hrs d : Int) := by have := hd.hr; unfold hrs; omega
theorem hrs_le (hd : d.ok) : 1 ≤ hrs d ∧ hrs d ≤ 12 := by have := hd.hr; unfold hrs; omega
theorem q_90 (hd : d.ok) (hn : 100 ≤ n) {i : Nat} (hi : i < d.acids.length) : s_90 n d (i : Int) = some (bif PossI d i then (bdI d i, true) else ([], false)) := by
 rw [p_90 hd hn (acidAt_get hi)]
 unfold PossI bdI hrs
 by_cases h1 : hasB d.known i = true <;> by_cases h2 : Poss d.adds d.strips (acidAt d i) d.hours.toNat <;> simp [h1, h2]
theorem q_173 (hd : d.ok) (hn : 100 ≤ n) {i : Nat} (hi : i < d.acids.length) : (Poss d.adds d.strips (acidAt d i) (hrs d) → s_173 n d i = some (.ok ⟨d, i, bdI d i⟩)) ∧ (¬ Poss d.adds d.strips (acidAt d i) (hrs d) → Err (s_173 n d i)) :=
 p_173 hd hn (acidAt_get hi)
theorem app_of {α : Type} {l l2 : List α} (h : l.length + l2.length ≤ 1000000) : app l l2 = some (l ++ l2) := by
 unfold app; rw [decide_eq_true h]; rfl
def intL (l : List Nat) : List Int := l.map fun (j : Nat) => (j : Int)
theorem p_80 (hd : d.ok) (hn : 100 ≤ n) : s_80 n d = some (intL (idx d)) := by
 have hl := hd.acl
 have h1 := loop_nat ((d.acids.length : Nat) : Int) (s_80_l1 n d) (fun i s K => (s_90 n d i).bind fun v => bif v.2 then (app s [i]).bind fun s' => K s' else K s) (fun s => some s) (fun k i s => by rw [s_80_l1]) (by omega) d.acids.length n 0 [] (by omega) (by omega) (by omega)
 unfold s_80
 rw [h1]
 have key : ∀ (r i : Nat) (s : List Int), i + r = d.acids.length → s.length ≤ i → fn ((d.acids.length : Nat) : Int) (fun i s K => (s_90 n d i).bind fun v => bif v.2 then (app s [i]).bind fun s' => K s' else K s) (fun s => some s) r (i : Int) s = some (s ++ intL ((List.range' i r).filter (PossI d))) := by
  intro r
  induction r with
  | zero => intro i s _ _; simp [fn, intL]
  | succ r ih =>
   intro i s hi hs
   have hc : ((i : Int) + 1) = ((i + 1 : Nat) : Int) := by push_cast; rfl
   simp only [fn]
   rw [q_90 hd hn (by omega), Option.bind_some, List.range'_succ, List.filter_cons, hc]
   cases hp : PossI d i with
   | false => simp only [cond_false]; rw [ih (i + 1) s (by omega) (by omega)]; rfl
   | true =>
    simp only [cond_true]
    rw [app_of (by simp; omega), Option.bind_some, ih (i + 1) _ (by omega) (by simp; omega)]
    simp [intL]
 have := key d.acids.length 0 [] (by omega) (by simp)
 rw [← List.range_eq_range'] at this
 exact this
theorem p_89 (hd : d.ok) (hn : 100 ≤ n) : s_89 n d = some (!(idx d).isEmpty) := by
 unfold s_89
 rw [p_80 hd hn, Option.bind_some]
 cases h : idx d with
 | nil => rfl
 | cons x r => simp [intL]
def err (d : Drum) (fine : Bool) : Int := bif !okD d || !fine then 2 else bif (idx d).isEmpty then 7 else 0
theorem p_27 (hn : 100 ≤ n) (hs : Short d) (fine : Bool) : s_27 n d fine = some (err d fine) := by
 unfold s_27 err s_27_j1
 rw [p_39 hn hs, Option.bind_some]
 cases hok : okD d with
 | false => rfl
 | true =>
  rw [p_89 (okD_iff.1 hok) hn]
  cases fine
  ·rfl
  ·cases (idx d).isEmpty <;> rfl
def filL (d : Drum) : List Filled := (idx d).map fun (i : Nat) => ⟨d, (i : Int), bdI d i⟩
theorem p_171 (hd : d.ok) (hn : 100 ≤ n) : s_171 n d n 0 [] = some (filL d) := by
 have hl := hd.acl
 have hkn := hd.kn
 have hpw := (pow_bound (i := d.acids.length) (by omega)).2
 have hpw4 : (2 : Int) ^ d.acids.length ≤ 16 := by
  have : (2 : Nat) ^ d.acids.length ≤ 2 ^ 4 := Nat.pow_le_pow_right (by omega) hl.2
  exact_mod_cast this
 have h1 := loop_nat ((d.acids.length : Nat) : Int) (s_171 n d) (fun i s K => (s_145 n d.known i).bind fun b => bif !b then K s else (s_173 n d i).bind fun r => match r with
     | .error v => bif isRule v then K s else none
     | .ok f => (app s [f]).bind fun l' => K l') (fun s => some s) (fun k i s => by rw [s_171]; rfl) (by omega) d.acids.length n 0 [] (by omega) (by omega) (by omega)
 rw [h1]
 have key : ∀ (r i : Nat) (s : List Filled), i + r = d.acids.length → s.length ≤ i → fn ((d.acids.length : Nat) : Int) (fun i s K => (s_145 n d.known i).bind fun b => bif !b then K s else (s_173 n d i).bind fun r => match r with
     | .error v => bif isRule v then K s else none
     | .ok f => (app s [f]).bind fun l' => K l') (fun s => some s) r (i : Int) s = some (s ++ ((List.range' i r).filter (PossI d)).map fun (i : Nat) => (⟨d, (i : Int), bdI d i⟩ : Filled)) := by
  intro r
  induction r with
  | zero => intro i s _ _; simp [fn]
  | succ r ih =>
   intro i s hi hs
   have hc : ((i : Int) + 1) = ((i + 1 : Nat) : Int) := by push_cast; rfl
   simp only [fn]
   rw [p_145 (by omega) (by omega) (by omega), Option.bind_some, List.range'_succ, List.filter_cons, hc]
   cases hp : hasB d.known i with
   | false =>
    have : PossI d i = false := by unfold PossI; rw [hp]; rfl
    rw [this]
    simp only [Bool.not_false, cond_true]
    rw [ih (i + 1) s (by omega) (by omega)]; rfl
   | true =>
    simp only [Bool.not_true, cond_false]
    obtain ⟨k1, k2⟩ := q_173 (n := n) hd hn (show i < d.acids.length by omega)
    by_cases hpo : Poss d.adds d.strips (acidAt d i) (hrs d)
    ·have : PossI d i = true := by unfold PossI; rw [hp, decide_eq_true hpo]; rfl
     rw [this, k1 hpo]
     simp only [Option.bind_some, if_true]
     rw [app_of (by simp; omega), Option.bind_some, ih (i + 1) _ (by omega) (by simp; omega)]
     simp
    ·have : PossI d i = false := by unfold PossI; rw [hp, decide_eq_false hpo]; rfl
     obtain ⟨v, hv, he⟩ := k2 hpo
     rw [this, he]
     simp only [Option.bind_some, hv, cond_true]
     rw [ih (i + 1) s (by omega) (by omega)]; rfl
 have := key d.acids.length 0 [] (by omega) (by simp)
 rw [← List.range_eq_range'] at this
 exact this
theorem p_84 (hn : 100 ≤ n) (hs : Short d) (fine : Bool) : s_84 n d fine = some (bif decide (err d fine = 0) then filL d else [], err d fine) := by
 unfold s_84 err
 rw [p_104 hn hs, Option.bind_some]
 cases hok : okD d with
 | false => rfl
 | true =>
  cases fine
  ·rfl
  ·simp only [Bool.not_true, Bool.or_self, cond_false]
   rw [p_171 (okD_iff.1 hok) hn, Option.bind_some]
   have : (filL d).isEmpty = (idx d).isEmpty := by unfold filL; cases idx d <;> rfl
   rw [this]
   cases (idx d).isEmpty <;> rfl
theorem p_28 (hn : 100 ≤ n) (l m : List Span) (hl : l.length ≤ 50) : s_28 n l m = some (decide (l = m)) := by
 unfold s_28
 by_cases hlen : l.length = m.length
 ·have e : decide (((l.length : Nat) : Int) = ((m.length : Nat) : Int)) = true := decide_eq_true (by omega)
  rw [e, Bool.not_true, cond_false]
  have h1 := loop_list l (fun k i (_ : Unit) => s_28_l1 l m k i) (fun i x s K => (ix m (i : Int)).bind fun y => bif !decide (x = y) then some false else K s) (fun _ => some true) (fun k i s => by rw [s_28_l1]) (by omega) n 0 () (by omega) (by omega)
  rw [show ((0 : Nat) : Int) = 0 from rfl] at h1
  rw [h1]
  have key : ∀ (r : List Span) (i : Nat), l.drop i = r → fc (σ := Unit) (fun i x s K => (ix m (i : Int)).bind fun y => bif !decide (x = y) then some false else K s) (fun _ => some true) i r () = some (decide (r = m.drop i)) := by
   intro r
   induction r with
   | nil =>
    intro i hi
    have : l.length ≤ i := List.drop_eq_nil_iff.1 hi
    rw [List.drop_eq_nil_of_le (by omega)]
    rfl
   | cons x r ih =>
    intro i hi
    have hil : i < l.length := by
     rcases Nat.lt_or_ge i l.length with h | h
     ·exact h
     ·rw [List.drop_eq_nil_of_le h] at hi; cases hi
    have hr : l.drop (i + 1) = r := by
     rw [List.drop_eq_getElem_cons hil] at hi
     cases hi; rfl
    rw [fc, ix_at (List.getElem?_eq_getElem (show i < m.length by omega)), Option.bind_some, List.drop_eq_getElem_cons (show i < m.length by omega), ih (i + 1) hr]
    generalize List.drop (i + 1) m = q
    generalize m[i] = y
    by_cases hx : x = y
    ·rw [decide_eq_true hx, Bool.not_true, cond_false]
     subst hx
     simp
    ·rw [decide_eq_false hx, Bool.not_false, cond_true]
     simp [hx]
  rw [List.drop_zero]
  simpa using key l 0 rfl
 ·have e : decide (((l.length : Nat) : Int) = ((m.length : Nat) : Int)) = false := decide_eq_false (by omega)
  rw [e, Bool.not_false, cond_true]
  rw [decide_eq_false (fun h => hlen (by rw [h]))]
end
end Go.Proofs.YtohmhlkdgfcaeaaGreatDoor
