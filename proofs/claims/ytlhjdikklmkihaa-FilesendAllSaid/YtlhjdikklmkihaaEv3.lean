/- What is asked of data, by their kind. Conditions: none. -/
import Derived.Test.YtlhjdikklmkihaaEvR
import Derived.Attr
set_option linter.all false
namespace Go.Proofs.Ytlhjdikklmkihaa.Ev
open Go
section
variable {k f b off n z : Nat} {m : Mode} {x : Value} {xs cs : List D} {bs ks : List Nat} {l : Bx}
theorem ytupB_v : D.tupB (.v x) = false := rfl
theorem yaggB_v : D.aggB (.v x) = false := rfl
theorem ycells_v : D.cells (.v x) = [(.v x)] := rfl
theorem ybnd1_v : D.bnd1 k (.v x) = true := rfl
theorem ybnd2_v : D.bnd2 k (.v x) = true := rfl
theorem ysto1_v : D.sto1 (.v x) = x.oneCell' := rfl
theorem yin1_v : D.in1 k bs (.v x) = true := rfl
theorem yin2_v : D.in2 k bs (.v x) = true := rfl
theorem yinn_v : D.inn k bs (.v x) = true := rfl
theorem yrf1_v : D.rf1 (.v x) = x.oneCell' := rfl
theorem ycapB_v : D.capB (.v x) = true := rfl
theorem yfrzP_v : D.frzP k l (.v x) = (.v x) := rfl
theorem yfrz1_v : D.frz1 k l (.v x) = (.v x) := rfl
theorem yfrz2_v : D.frz2 k l (.v x) = (.v x) := rfl
theorem yfrz3_v : D.frz3 k l (.v x) = (.v x) := rfl
theorem ytupB_sl : D.tupB (.sl m z xs) = false := rfl
theorem yaggB_sl : D.aggB (.sl m z xs) = false := rfl
theorem ycells_sl : D.cells (.sl m z xs) = [(.sl m z xs)] := rfl
theorem ybnd1_sl : D.bnd1 k (.sl m z xs) = true := rfl
theorem ybnd2_sl : D.bnd2 k (.sl m z xs) = true := rfl
theorem ysto1_sl : D.sto1 (.sl m z xs) = true := rfl
theorem yin1_sl : D.in1 k bs (.sl m z xs) = true := rfl
theorem yin2_sl : D.in2 k bs (.sl m z xs) = true := rfl
theorem yinn_sl : D.inn k bs (.sl m z xs) = true := rfl
theorem ycapB_sl : D.capB (.sl m z xs) = false := rfl
theorem yfrzP_sl : D.frzP k l (.sl m z xs) = (.sl m z xs) := rfl
theorem yfrz1_sl : D.frz1 k l (.sl m z xs) = (.sl m z xs) := rfl
theorem yfrz2_sl : D.frz2 k l (.sl m z xs) = (.sl m z xs) := rfl
theorem yfrz3_sl : D.frz3 k l (.sl m z xs) = (.sl m z xs) := rfl
theorem ytupB_agg : D.tupB (.agg cs) = false := rfl
theorem yaggB_agg : D.aggB (.agg cs) = true := rfl
theorem ycells_agg : D.cells (.agg cs) = cs := rfl
theorem ybnd1_agg : D.bnd1 k (.agg cs) = false := rfl
theorem ybnd2_agg : D.bnd2 k (.agg cs) = cs.all (D.bnd1 k) := rfl
theorem ysto1_agg : D.sto1 (.agg cs) = false := rfl
theorem yin1_agg : D.in1 k bs (.agg cs) = false := rfl
theorem yin2_agg : D.in2 k bs (.agg cs) = cs.all (D.in1 k bs) := rfl
theorem yinn_agg : D.inn k bs (.agg cs) = cs.all (D.in1 k bs) := rfl
theorem yrf1_agg : D.rf1 (.agg cs) = false := rfl
theorem ycapB_agg : D.capB (.agg cs) = false := rfl
theorem yfrzP_agg : D.frzP k l (.agg cs) = (.agg cs) := rfl
theorem yfrz1_agg : D.frz1 k l (.agg cs) = (.agg cs) := rfl
theorem yfrz2_agg : D.frz2 k l (.agg cs) = .agg (cs.map (D.frz1 k l)) := rfl
theorem yfrz3_agg : D.frz3 k l (.agg cs) = .agg (cs.map (D.frz1 k l)) := rfl
theorem ytupB_ptr : D.tupB (.ptr f b off) = false := rfl
theorem yaggB_ptr : D.aggB (.ptr f b off) = false := rfl
theorem ycells_ptr : D.cells (.ptr f b off) = [(.ptr f b off)] := rfl
theorem ybnd1_ptr : D.bnd1 k (.ptr f b off) = decide (f < k) := rfl
theorem ybnd2_ptr : D.bnd2 k (.ptr f b off) = decide (f < k) := rfl
theorem ysto1_ptr : D.sto1 (.ptr f b off) = true := rfl
theorem yin1_ptr : D.in1 k bs (.ptr f b off) = (decide (f < k) || (f == k && bs.contains b)) := rfl
theorem yin2_ptr : D.in2 k bs (.ptr f b off) = (decide (f < k) || (f == k && bs.contains b)) := rfl
theorem yinn_ptr : D.inn k bs (.ptr f b off) = (decide (f < k) || (f == k && bs.contains b)) := rfl
theorem yrf1_ptr : D.rf1 (.ptr f b off) = false := rfl
theorem ycapB_ptr : D.capB (.ptr f b off) = true := rfl
theorem yfrzP_ptr : D.frzP k l (.ptr f b off) = (if f = k then (match lk b l with | some cs => if cs.all D.rf1 = true then .fptr cs off else .ptr f b off | none => .ptr f b off) else .ptr f b off) := rfl
theorem yfrz1_ptr : D.frz1 k l (.ptr f b off) = (if f = k then (match lk b l with | some cs => if cs.all D.rf1 = true then .fptr cs off else .ptr f b off | none => .ptr f b off) else .ptr f b off) := rfl
theorem yfrz2_ptr : D.frz2 k l (.ptr f b off) = (if f = k then (match lk b l with | some cs => if cs.all D.rf1 = true then .fptr cs off else .ptr f b off | none => .ptr f b off) else .ptr f b off) := rfl
theorem yfrz3_ptr : D.frz3 k l (.ptr f b off) = (if f = k then (match lk b l with | some cs => if cs.all D.rf1 = true then .fptr cs off else .ptr f b off | none => .ptr f b off) else .ptr f b off) := rfl
theorem ytupB_ref : D.tupB (.ref f b off n z) = false := rfl
theorem yaggB_ref : D.aggB (.ref f b off n z) = false := rfl
theorem ycells_ref : D.cells (.ref f b off n z) = [(.ref f b off n z)] := rfl
theorem ybnd1_ref : D.bnd1 k (.ref f b off n z) = decide (f < k) := rfl
theorem ybnd2_ref : D.bnd2 k (.ref f b off n z) = decide (f < k) := rfl
theorem ysto1_ref : D.sto1 (.ref f b off n z) = true := rfl
theorem yin1_ref : D.in1 k bs (.ref f b off n z) = (decide (f < k) || (f == k && bs.contains b)) := rfl
theorem yin2_ref : D.in2 k bs (.ref f b off n z) = (decide (f < k) || (f == k && bs.contains b)) := rfl
theorem yinn_ref : D.inn k bs (.ref f b off n z) = (decide (f < k) || (f == k && bs.contains b)) := rfl
theorem yrf1_ref : D.rf1 (.ref f b off n z) = false := rfl
theorem ycapB_ref : D.capB (.ref f b off n z) = false := rfl
theorem yfrzP_ref : D.frzP k l (.ref f b off n z) = (if f = k then (match lk b l with | some cs => if cs.all D.rf1 = true then (if off + n * z ≤ cs.length then .sl .ro z (chunks z n (cs.drop off)) else .u) else .ref f b off n z | none => .ref f b off n z) else .ref f b off n z) := rfl
theorem yfrz1_ref : D.frz1 k l (.ref f b off n z) = (if f = k then (match lk b l with | some cs => if cs.all D.rf1 = true then (if off + n * z ≤ cs.length then .sl .ro z (chunks z n (cs.drop off)) else .u) else .ref f b off n z | none => .ref f b off n z) else .ref f b off n z) := rfl
theorem yfrz2_ref : D.frz2 k l (.ref f b off n z) = (if f = k then (match lk b l with | some cs => if cs.all D.rf1 = true then (if off + n * z ≤ cs.length then .sl .ro z (chunks z n (cs.drop off)) else .u) else .ref f b off n z | none => .ref f b off n z) else .ref f b off n z) := rfl
theorem yfrz3_ref : D.frz3 k l (.ref f b off n z) = (if f = k then (match lk b l with | some cs => if cs.all D.rf1 = true then (if off + n * z ≤ cs.length then .sl .ro z (chunks z n (cs.drop off)) else .u) else .ref f b off n z | none => .ref f b off n z) else .ref f b off n z) := rfl
theorem ytupB_fptr : D.tupB (.fptr cs off) = false := rfl
theorem yaggB_fptr : D.aggB (.fptr cs off) = false := rfl
theorem ycells_fptr : D.cells (.fptr cs off) = [(.fptr cs off)] := rfl
theorem ybnd1_fptr : D.bnd1 k (.fptr cs off) = true := rfl
theorem ybnd2_fptr : D.bnd2 k (.fptr cs off) = true := rfl
theorem ysto1_fptr : D.sto1 (.fptr cs off) = true := rfl
theorem yin1_fptr : D.in1 k bs (.fptr cs off) = true := rfl
theorem yin2_fptr : D.in2 k bs (.fptr cs off) = true := rfl
theorem yinn_fptr : D.inn k bs (.fptr cs off) = true := rfl
theorem yrf1_fptr : D.rf1 (.fptr cs off) = false := rfl
theorem ycapB_fptr : D.capB (.fptr cs off) = true := rfl
theorem yfrzP_fptr : D.frzP k l (.fptr cs off) = (.fptr cs off) := rfl
theorem yfrz1_fptr : D.frz1 k l (.fptr cs off) = (.fptr cs off) := rfl
theorem yfrz2_fptr : D.frz2 k l (.fptr cs off) = (.fptr cs off) := rfl
theorem yfrz3_fptr : D.frz3 k l (.fptr cs off) = (.fptr cs off) := rfl
theorem ytupB_clo : D.tupB (.clo f cs) = false := rfl
theorem yaggB_clo : D.aggB (.clo f cs) = false := rfl
theorem ycells_clo : D.cells (.clo f cs) = [(.clo f cs)] := rfl
theorem ybnd1_clo : D.bnd1 k (.clo f cs) = cs.all fun | .ptr f _ _ => decide (f < k) | .v _ => true | .fptr _ _ => true | _ => false := rfl
theorem ybnd2_clo : D.bnd2 k (.clo f cs) = cs.all fun | .ptr f _ _ => decide (f < k) | .v _ => true | .fptr _ _ => true | _ => false := rfl
theorem ysto1_clo : D.sto1 (.clo f cs) = true := rfl
theorem yin1_clo : D.in1 k bs (.clo f cs) = cs.all fun | .ptr f s _ => f < k || (f == k && bs.contains s) | .v _ => true | .fptr _ _ => true | _ => false := rfl
theorem yin2_clo : D.in2 k bs (.clo f cs) = cs.all fun | .ptr f s _ => f < k || (f == k && bs.contains s) | .v _ => true | .fptr _ _ => true | _ => false := rfl
theorem yinn_clo : D.inn k bs (.clo f cs) = cs.all fun | .ptr f s _ => f < k || (f == k && bs.contains s) | .v _ => true | .fptr _ _ => true | _ => false := rfl
theorem yrf1_clo : D.rf1 (.clo f cs) = false := rfl
theorem ycapB_clo : D.capB (.clo f cs) = false := rfl
theorem yfrzP_clo : D.frzP k l (.clo f cs) = (.clo f cs) := rfl
theorem yfrz1_clo : D.frz1 k l (.clo f cs) = .clo f (cs.map (D.frzP k l)) := rfl
theorem yfrz2_clo : D.frz2 k l (.clo f cs) = .clo f (cs.map (D.frzP k l)) := rfl
theorem yfrz3_clo : D.frz3 k l (.clo f cs) = .clo f (cs.map (D.frzP k l)) := rfl
theorem ytupB_yld : D.tupB (.yld f b) = false := rfl
theorem yaggB_yld : D.aggB (.yld f b) = false := rfl
theorem ycells_yld : D.cells (.yld f b) = [(.yld f b)] := rfl
theorem ybnd1_yld : D.bnd1 k (.yld f b) = decide (f < k) := rfl
theorem ybnd2_yld : D.bnd2 k (.yld f b) = decide (f < k) := rfl
theorem ysto1_yld : D.sto1 (.yld f b) = true := rfl
theorem yin1_yld : D.in1 k bs (.yld f b) = decide (f < k) := rfl
theorem yin2_yld : D.in2 k bs (.yld f b) = decide (f < k) := rfl
theorem yinn_yld : D.inn k bs (.yld f b) = decide (f < k) := rfl
theorem yrf1_yld : D.rf1 (.yld f b) = false := rfl
theorem ycapB_yld : D.capB (.yld f b) = false := rfl
theorem yfrzP_yld : D.frzP k l (.yld f b) = (.yld f b) := rfl
theorem yfrz1_yld : D.frz1 k l (.yld f b) = (.yld f b) := rfl
theorem yfrz2_yld : D.frz2 k l (.yld f b) = (.yld f b) := rfl
theorem yfrz3_yld : D.frz3 k l (.yld f b) = (.yld f b) := rfl
theorem ytupB_tup : D.tupB (.tup cs) = true := rfl
theorem yaggB_tup : D.aggB (.tup cs) = false := rfl
theorem ycells_tup : D.cells (.tup cs) = [(.tup cs)] := rfl
theorem ybnd1_tup : D.bnd1 k (.tup cs) = false := rfl
theorem ybnd2_tup : D.bnd2 k (.tup cs) = false := rfl
theorem ysto1_tup : D.sto1 (.tup cs) = false := rfl
theorem yin1_tup : D.in1 k bs (.tup cs) = false := rfl
theorem yin2_tup : D.in2 k bs (.tup cs) = false := rfl
theorem yinn_tup : D.inn k bs (.tup cs) = cs.all (D.in2 k bs) := rfl
theorem yrf1_tup : D.rf1 (.tup cs) = false := rfl
theorem ycapB_tup : D.capB (.tup cs) = false := rfl
theorem yfrzP_tup : D.frzP k l (.tup cs) = (.tup cs) := rfl
theorem yfrz1_tup : D.frz1 k l (.tup cs) = (.tup cs) := rfl
theorem yfrz2_tup : D.frz2 k l (.tup cs) = (.tup cs) := rfl
theorem yfrz3_tup : D.frz3 k l (.tup cs) = .tup (cs.map (D.frz2 k l)) := rfl
theorem ytupB_u : D.tupB .u = false := rfl
theorem yaggB_u : D.aggB .u = false := rfl
theorem ycells_u : D.cells .u = [.u] := rfl
theorem ybnd1_u : D.bnd1 k .u = true := rfl
theorem ybnd2_u : D.bnd2 k .u = true := rfl
theorem ysto1_u : D.sto1 .u = false := rfl
theorem yin1_u : D.in1 k bs .u = true := rfl
theorem yin2_u : D.in2 k bs .u = true := rfl
theorem yinn_u : D.inn k bs .u = true := rfl
theorem yrf1_u : D.rf1 .u = false := rfl
theorem ycapB_u : D.capB .u = false := rfl
theorem yfrzP_u : D.frzP k l .u = .u := rfl
theorem yfrz1_u : D.frz1 k l .u = .u := rfl
theorem yfrz2_u : D.frz2 k l .u = .u := rfl
theorem yfrz3_u : D.frz3 k l .u = .u := rfl
theorem ytupB_rcd : D.tupB (.rcd f b n ks) = false := rfl
theorem yaggB_rcd : D.aggB (.rcd f b n ks) = false := rfl
theorem ycells_rcd : D.cells (.rcd f b n ks) = [(.rcd f b n ks)] := rfl
theorem ybnd1_rcd : D.bnd1 k (.rcd f b n ks) = true := rfl
theorem ybnd2_rcd : D.bnd2 k (.rcd f b n ks) = true := rfl
theorem ysto1_rcd : D.sto1 (.rcd f b n ks) = false := rfl
theorem yin1_rcd : D.in1 k bs (.rcd f b n ks) = false := rfl
theorem yin2_rcd : D.in2 k bs (.rcd f b n ks) = false := rfl
theorem yinn_rcd : D.inn k bs (.rcd f b n ks) = false := rfl
theorem yrf1_rcd : D.rf1 (.rcd f b n ks) = false := rfl
theorem ycapB_rcd : D.capB (.rcd f b n ks) = false := rfl
theorem yfrzP_rcd : D.frzP k l (.rcd f b n ks) = (.rcd f b n ks) := rfl
theorem yfrz1_rcd : D.frz1 k l (.rcd f b n ks) = (.rcd f b n ks) := rfl
theorem yfrz2_rcd : D.frz2 k l (.rcd f b n ks) = (.rcd f b n ks) := rfl
theorem yfrz3_rcd : D.frz3 k l (.rcd f b n ks) = (.rcd f b n ks) := rfl
theorem yrf1_snl : D.rf1 (.sl .nl z xs) = true := rfl
theorem yrf1_sro : D.rf1 (.sl .ro z xs) = true := rfl
theorem yrf1_sapp : D.rf1 (.sl .app z xs) = false := rfl
theorem yrf1_smu : D.rf1 (.sl .mu z xs) = false := rfl
theorem st_ref : (D.ref f b off n z).strip = .ref f b off n z := rfl
theorem s2_ref : (D.ref f b off n z).strip2 = .ref f b off n z := rfl
theorem s1_ref : (D.ref f b off n z).strip1 = .ref f b off n z := rfl
theorem s2_fptr : (D.fptr cs off).strip2 = .fptr cs off := rfl
theorem st_yld : (D.yld f b).strip = .yld f b := rfl
theorem s2_yld : (D.yld f b).strip2 = .yld f b := rfl
theorem s1_yld : (D.yld f b).strip1 = .yld f b := rfl
end
attribute [go_sem] ytupB_v yaggB_v ycells_v ybnd1_v ybnd2_v ysto1_v yin1_v yin2_v yinn_v yrf1_v ycapB_v yfrzP_v yfrz1_v yfrz2_v yfrz3_v ytupB_sl yaggB_sl ycells_sl ybnd1_sl ybnd2_sl ysto1_sl yin1_sl yin2_sl yinn_sl ycapB_sl yfrzP_sl yfrz1_sl yfrz2_sl yfrz3_sl ytupB_agg yaggB_agg ycells_agg ybnd1_agg ybnd2_agg ysto1_agg yin1_agg yin2_agg yinn_agg yrf1_agg ycapB_agg yfrzP_agg yfrz1_agg yfrz2_agg yfrz3_agg ytupB_ptr yaggB_ptr ycells_ptr ybnd1_ptr ybnd2_ptr ysto1_ptr yin1_ptr yin2_ptr yinn_ptr yrf1_ptr ycapB_ptr yfrzP_ptr yfrz1_ptr yfrz2_ptr yfrz3_ptr ytupB_ref yaggB_ref ycells_ref ybnd1_ref ybnd2_ref ysto1_ref yin1_ref yin2_ref yinn_ref yrf1_ref ycapB_ref yfrzP_ref yfrz1_ref yfrz2_ref yfrz3_ref ytupB_fptr yaggB_fptr ycells_fptr ybnd1_fptr ybnd2_fptr ysto1_fptr yin1_fptr yin2_fptr yinn_fptr yrf1_fptr ycapB_fptr yfrzP_fptr yfrz1_fptr yfrz2_fptr yfrz3_fptr ytupB_clo yaggB_clo ycells_clo ybnd1_clo ybnd2_clo ysto1_clo yin1_clo yin2_clo yinn_clo yrf1_clo ycapB_clo yfrzP_clo yfrz1_clo yfrz2_clo yfrz3_clo ytupB_yld yaggB_yld ycells_yld ybnd1_yld ybnd2_yld ysto1_yld yin1_yld yin2_yld yinn_yld yrf1_yld ycapB_yld yfrzP_yld yfrz1_yld yfrz2_yld yfrz3_yld ytupB_tup yaggB_tup ycells_tup ybnd1_tup ybnd2_tup ysto1_tup yin1_tup yin2_tup yinn_tup yrf1_tup ycapB_tup yfrzP_tup yfrz1_tup yfrz2_tup yfrz3_tup ytupB_u yaggB_u ycells_u ybnd1_u ybnd2_u ysto1_u yin1_u yin2_u yinn_u yrf1_u ycapB_u yfrzP_u yfrz1_u yfrz2_u yfrz3_u ytupB_rcd yaggB_rcd ycells_rcd ybnd1_rcd ybnd2_rcd ysto1_rcd yin1_rcd yin2_rcd yinn_rcd yrf1_rcd ycapB_rcd yfrzP_rcd yfrz1_rcd yfrz2_rcd yfrz3_rcd yrf1_snl yrf1_sro yrf1_sapp yrf1_smu st_ref s2_ref s1_ref s2_fptr st_yld s2_yld s1_yld
end Go.Proofs.Ytlhjdikklmkihaa.Ev
