/- The law, as a plain function. Conditions: none. -/
import Derived.Test.YtfopbiiffiickaaWv16
set_option linter.all false
set_option maxRecDepth 100000
namespace Go.Proofs.Ytfopbiiffiickaa.Ev.U
open Go
structure Gd (B:List Bx) (E:Env):Prop where
 g1:get 1 E= .ptr B.length 1 0
 g4:get 4 E= .clo 34 [.ptr B.length 1 0,.ptr B.length 3 0]
 g5:get 5 E= .clo 36 [.ptr B.length 1 0]
 g6:get 6 E= .clo 38 [.ptr B.length 3 0]
 g7:get 7 E= .yld B.length 1500012
theorem gd_iff {B:List Bx} {E:Env}:Gd B E↔(get 1 E= .ptr B.length 1 0∧get 4 E= .clo 34 [.ptr B.length 1 0,.ptr B.length 3 0]∧get 5 E= .clo 36 [.ptr B.length 1 0]∧get 6 E= .clo 38 [.ptr B.length 3 0]∧get 7 E= .yld B.length 1500012):=
 ⟨fun h=>⟨h.1,h.2,h.3,h.4,h.5⟩,fun h=>⟨h.1,h.2.1,h.2.2.1,h.2.2.2.1,h.2.2.2.2⟩⟩
theorem or_t {c:Caller} {t:Nat} {l:List Stp} {X:Cd} {s s1:S} (h:evOps c l s=some s1) (ht:get t s1.e= .v (.bool true)):evC c (.sq (.rg l) (.ff (.t t) .sk X)) s=some (.nm,s1):=by
 rw[sq_nm (rg_ok h)]
 simp[evC,rd,ht,st_v]
theorem or_f {c:Caller} {t:Nat} {l:List Stp} {X:Cd} {s s1:S} (h:evOps c l s=some s1) (ht:get t s1.e= .v (.bool false)):evC c (.sq (.rg l) (.ff (.t t) .sk X)) s=evC c X s1:=by
 rw[sq_nm (rg_ok h)]
 simp[evC,rd,ht,st_v]
theorem sw_t {c:Caller} {t:Nat} {A X:Cd} {s s1:S} (h:evC c A s=some (.nm,s1)) (ht:get t s1.e= .v (.bool true)):evC c (.sq A (.ff (.t t) .sk X)) s=some (.nm,s1):=by
 rw[sq_nm h]
 simp[evC,rd,ht,st_v]
theorem sw_f {c:Caller} {t:Nat} {A X:Cd} {s s1:S} (h:evC c A s=some (.nm,s1)) (ht:get t s1.e= .v (.bool false)):evC c (.sq A (.ff (.t t) .sk X)) s=evC c X s1:=by
 rw[sq_nm h]
 simp[evC,rd,ht,st_v]
section
variable {B:List Bx} {a b c d n:Int} {m1 m2 m3:Bool} {z1 z2 z3:Nat} {es1 es2 es3:List D} {E:Env} {y:Bool}
theorem x12i:∃E,(∀X,evC (EF pg) (.sq (.rg [s_ 1 (.bx (.t 0)),s_ 2 (.mv (I 0))]) (.sq (.rg [s_ 8 (.mf 33 [(.t 1)]),s_ 3 (.al [.nilFunc]),n_ (.st 1 (.t 3) (.t 8))]) (.sq (.rg [s_ 9 (.mf 34 [(.t 1),(.t 3)]),s_ 4 (.mv (.t 9))]) (.sq (.rg [s_ 10 (.mf 36 [(.t 1)]),s_ 5 (.mv (.t 10))]) (.sq (.rg [s_ 11 (.mf 38 [(.t 3)]),s_ 6 (.mv (.t 11))]) (.sq (.rg [s_ 12 (.mkn 1500012),s_ 7 (.mv (.t 12))]) X)))))) ⟨[(0,.agg [.v (.int .i64 a),.v (.int .i64 b),.v (.int .i64 c),.v (.int .i64 d),.v (.int .u32 n),.sl (mo m1) z1 es1,.sl (mo m2) z2 es2,.sl (mo m3) z3 es3])],[],B⟩=evC (EF pg) X ⟨E,[(1,[.v (.int .i64 a),.v (.int .i64 b),.v (.int .i64 c),.v (.int .i64 d),.v (.int .u32 n),.sl (mo m1) z1 es1,.sl (mo m2) z2 es2,.sl (mo m3) z3 es3]),(3,[.clo 33 [.ptr B.length 1 0]]),(1500012,[])],B⟩)∧Gd B E:=by
 have:∃E,(∃s1 s2 s3 s4 s5,evOps (EF pg) [s_ 1 (.bx (.t 0)),s_ 2 (.mv (I 0))] ⟨[(0,.agg [.v (.int .i64 a),.v (.int .i64 b),.v (.int .i64 c),.v (.int .i64 d),.v (.int .u32 n),.sl (mo m1) z1 es1,.sl (mo m2) z2 es2,.sl (mo m3) z3 es3])],[],B⟩=some s1∧evOps (EF pg) [s_ 8 (.mf 33 [(.t 1)]),s_ 3 (.al [.nilFunc]),n_ (.st 1 (.t 3) (.t 8))] s1=some s2∧evOps (EF pg) [s_ 9 (.mf 34 [(.t 1),(.t 3)]),s_ 4 (.mv (.t 9))] s2=some s3∧evOps (EF pg) [s_ 10 (.mf 36 [(.t 1)]),s_ 5 (.mv (.t 10))] s3=some s4∧evOps (EF pg) [s_ 11 (.mf 38 [(.t 3)]),s_ 6 (.mv (.t 11))] s4=some s5∧evOps (EF pg) [s_ 12 (.mkn 1500012),s_ 7 (.mv (.t 12))] s5=some ⟨E,[(1,[.v (.int .i64 a),.v (.int .i64 b),.v (.int .i64 c),.v (.int .i64 d),.v (.int .u32 n),.sl (mo m1) z1 es1,.sl (mo m2) z2 es2,.sl (mo m3) z3 es3]),(3,[.clo 33 [.ptr B.length 1 0]]),(1500012,[])],B⟩)∧Gd B E:=by
  simp only[gd_iff]
  simp[-List.all_eq_true,-getElem?_pos,-bne_iff_ne,-bne_eq_false_iff_eq,runF,evC,evOps,evStp,evOp,rd,rdL,rds,get,put,putO,argE,res1,resL,mkRes,doCall,unsnoc_append,S.wl,S.wo,lk,ins,sb,bx,sbx,pick,over,D.tupB,D.bnd2,D.bnd1,D.frz2,D.frz1,D.frzP,D.sto1,Value.oneCell',zc,bz,Tc.er,TStp.er,u_,ug_,s_,g_,n_,List.map_cons,List.map_nil,List.all_cons,List.all_nil,List.length_cons,List.length_nil,List.drop_succ_cons,List.drop_zero,List.take_succ_cons,List.take_zero,List.nil_append,List.cons_append,List.append_nil,List.getElem?_cons_succ,List.getElem?_cons_zero,Option.bind_some,Option.map_some,D.capB,dwnA,Nat.reduceEqDiff,Nat.reduceAdd,Nat.reduceLeDiff,Nat.reduceSub,Nat.reduceLT,Nat.reduceMul,Nat.zero_add,Nat.add_zero,reduceCtorEq,↓reduceIte,Bool.and_true,Bool.true_and,Bool.and_self,Bool.not_false,Bool.not_true,decide_true,decide_false,and_self,and_true,true_and,Bool.false_eq_true,ge_iff_le,gt_iff_lt,st_v,st_v1,st_v2,st_p,st_p1,st_p2,st_c,st_c1,st_c2,st_y,st_y2,st_u,st_a,st_a2,ce_v,ce_a,ce_s,ce_c,mo_s,mo_s2,mo_s3,mo_ne,D.capB]
 obtain⟨E,⟨s1,s2,s3,s4,s5,h1,h2,h3,h4,h5,h6⟩,hg⟩:=this
 exact⟨E,fun X=>by rw[sq_nm (rg_ok h1),sq_nm (rg_ok h2),sq_nm (rg_ok h3),sq_nm (rg_ok h4),sq_nm (rg_ok h5),sq_nm (rg_ok h6)],hg⟩
theorem x12a1 {k12:List D} (h:Gd B E) (h23:∀B,EF pg 23 [.v (.int .i64 a)] B=some (.v (.bool y),B)):∃E',evOps (EF pg) [s_ 14 (.fa (.t 1) 0),s_ 15 (.ld none (.t 14)),s_ 16 (.call 23 [(.t 15)]),s_ 17 (.no (.t 16)),s_ 13 (.mv (.t 17))] ⟨E,[(1,[.v (.int .i64 a),.v (.int .i64 b),.v (.int .i64 c),.v (.int .i64 d),.v (.int .u32 n),.sl (mo m1) z1 es1,.sl (mo m2) z2 es2,.sl (mo m3) z3 es3]),(3,[.clo 33 [.ptr B.length 1 0]]),(1500012,k12)],B⟩=some ⟨E',[(1,[.v (.int .i64 a),.v (.int .i64 b),.v (.int .i64 c),.v (.int .i64 d),.v (.int .u32 n),.sl (mo m1) z1 es1,.sl (mo m2) z2 es2,.sl (mo m3) z3 es3]),(3,[.clo 33 [.ptr B.length 1 0]]),(1500012,k12)],B⟩∧Gd B E'∧get 13 E'= .v (.bool (!y)):=by
 obtain⟨g1,g4,g5,g6,g7⟩:=h
 simp only[gd_iff]
 simp[-List.all_eq_true,-getElem?_pos,-bne_iff_ne,-bne_eq_false_iff_eq,runF,evC,evOps,evStp,evOp,rd,rdL,rds,get,put,putO,argE,res1,resL,mkRes,doCall,unsnoc_append,S.wl,S.wo,lk,ins,sb,bx,sbx,pick,over,D.tupB,D.bnd2,D.bnd1,D.frz2,D.frz1,D.frzP,D.sto1,Value.oneCell',zc,bz,Tc.er,TStp.er,u_,ug_,s_,g_,n_,List.map_cons,List.map_nil,List.all_cons,List.all_nil,List.length_cons,List.length_nil,List.drop_succ_cons,List.drop_zero,List.take_succ_cons,List.take_zero,List.nil_append,List.cons_append,List.append_nil,List.getElem?_cons_succ,List.getElem?_cons_zero,Option.bind_some,Option.map_some,D.capB,dwnA,Nat.reduceEqDiff,Nat.reduceAdd,Nat.reduceLeDiff,Nat.reduceSub,Nat.reduceLT,Nat.reduceMul,Nat.zero_add,Nat.add_zero,reduceCtorEq,↓reduceIte,Bool.and_true,Bool.true_and,Bool.and_self,Bool.not_false,Bool.not_true,decide_true,decide_false,and_self,and_true,true_and,Bool.false_eq_true,ge_iff_le,gt_iff_lt,st_v,st_v1,st_v2,st_p,st_p1,st_p2,st_c,st_c1,st_c2,st_y,st_y2,st_u,st_a,st_a2,ce_v,ce_a,ce_s,ce_c,mo_s,mo_s2,mo_s3,mo_ne,g1,g4,g5,g6,g7,h23]
theorem x12a2 {k12:List D} (h:Gd B E) (h39:∀B,EF pg 39 [.agg [.v (.int .i64 b),.v (.int .i64 c),.v (.int .i64 d)]] B=some (.v (.bool y),B)):∃E',evOps (EF pg) [s_ 18 (.fa (.t 1) 1),s_ 19 (.ld (some 3) (.t 18)),s_ 20 (.call 39 [(.t 19)]),s_ 21 (.no (.t 20)),s_ 13 (.mv (.t 21))] ⟨E,[(1,[.v (.int .i64 a),.v (.int .i64 b),.v (.int .i64 c),.v (.int .i64 d),.v (.int .u32 n),.sl (mo m1) z1 es1,.sl (mo m2) z2 es2,.sl (mo m3) z3 es3]),(3,[.clo 33 [.ptr B.length 1 0]]),(1500012,k12)],B⟩=some ⟨E',[(1,[.v (.int .i64 a),.v (.int .i64 b),.v (.int .i64 c),.v (.int .i64 d),.v (.int .u32 n),.sl (mo m1) z1 es1,.sl (mo m2) z2 es2,.sl (mo m3) z3 es3]),(3,[.clo 33 [.ptr B.length 1 0]]),(1500012,k12)],B⟩∧Gd B E'∧get 13 E'= .v (.bool (!y)):=by
 obtain⟨g1,g4,g5,g6,g7⟩:=h
 simp only[gd_iff]
 simp[-List.all_eq_true,-getElem?_pos,-bne_iff_ne,-bne_eq_false_iff_eq,runF,evC,evOps,evStp,evOp,rd,rdL,rds,get,put,putO,argE,res1,resL,mkRes,doCall,unsnoc_append,S.wl,S.wo,lk,ins,sb,bx,sbx,pick,over,D.tupB,D.bnd2,D.bnd1,D.frz2,D.frz1,D.frzP,D.sto1,Value.oneCell',zc,bz,Tc.er,TStp.er,u_,ug_,s_,g_,n_,List.map_cons,List.map_nil,List.all_cons,List.all_nil,List.length_cons,List.length_nil,List.drop_succ_cons,List.drop_zero,List.take_succ_cons,List.take_zero,List.nil_append,List.cons_append,List.append_nil,List.getElem?_cons_succ,List.getElem?_cons_zero,Option.bind_some,Option.map_some,D.capB,dwnA,Nat.reduceEqDiff,Nat.reduceAdd,Nat.reduceLeDiff,Nat.reduceSub,Nat.reduceLT,Nat.reduceMul,Nat.zero_add,Nat.add_zero,reduceCtorEq,↓reduceIte,Bool.and_true,Bool.true_and,Bool.and_self,Bool.not_false,Bool.not_true,decide_true,decide_false,and_self,and_true,true_and,Bool.false_eq_true,ge_iff_le,gt_iff_lt,st_v,st_v1,st_v2,st_p,st_p1,st_p2,st_c,st_c1,st_c2,st_y,st_y2,st_u,st_a,st_a2,ce_v,ce_a,ce_s,ce_c,mo_s,mo_s2,mo_s3,mo_ne,g1,g4,g5,g6,g7,h39]
theorem x12a3 {k12:List D} (h:Gd B E):∃E',evOps (EF pg) [s_ 22 (.fa (.t 1) 4),s_ 23 (.ld none (.t 22)),s_ 24 (.bin .eql (.t 23) (.c (.int .u32 0))),s_ 13 (.mv (.t 24))] ⟨E,[(1,[.v (.int .i64 a),.v (.int .i64 b),.v (.int .i64 c),.v (.int .i64 d),.v (.int .u32 n),.sl (mo m1) z1 es1,.sl (mo m2) z2 es2,.sl (mo m3) z3 es3]),(3,[.clo 33 [.ptr B.length 1 0]]),(1500012,k12)],B⟩=some ⟨E',[(1,[.v (.int .i64 a),.v (.int .i64 b),.v (.int .i64 c),.v (.int .i64 d),.v (.int .u32 n),.sl (mo m1) z1 es1,.sl (mo m2) z2 es2,.sl (mo m3) z3 es3]),(3,[.clo 33 [.ptr B.length 1 0]]),(1500012,k12)],B⟩∧Gd B E'∧get 13 E'= .v (.bool (n==0)):=by
 obtain⟨g1,g4,g5,g6,g7⟩:=h
 simp only[gd_iff]
 simp[-List.all_eq_true,-getElem?_pos,-bne_iff_ne,-bne_eq_false_iff_eq,runF,evC,evOps,evStp,evOp,rd,rdL,rds,get,put,putO,argE,res1,resL,mkRes,doCall,unsnoc_append,S.wl,S.wo,lk,ins,sb,bx,sbx,pick,over,D.tupB,D.bnd2,D.bnd1,D.frz2,D.frz1,D.frzP,D.sto1,Value.oneCell',zc,bz,Tc.er,TStp.er,u_,ug_,s_,g_,n_,List.map_cons,List.map_nil,List.all_cons,List.all_nil,List.length_cons,List.length_nil,List.drop_succ_cons,List.drop_zero,List.take_succ_cons,List.take_zero,List.nil_append,List.cons_append,List.append_nil,List.getElem?_cons_succ,List.getElem?_cons_zero,Option.bind_some,Option.map_some,D.capB,dwnA,Nat.reduceEqDiff,Nat.reduceAdd,Nat.reduceLeDiff,Nat.reduceSub,Nat.reduceLT,Nat.reduceMul,Nat.zero_add,Nat.add_zero,reduceCtorEq,↓reduceIte,Bool.and_true,Bool.true_and,Bool.and_self,Bool.not_false,Bool.not_true,decide_true,decide_false,and_self,and_true,true_and,Bool.false_eq_true,ge_iff_le,gt_iff_lt,st_v,st_v1,st_v2,st_p,st_p1,st_p2,st_c,st_c1,st_c2,st_y,st_y2,st_u,st_a,st_a2,ce_v,ce_a,ce_s,ce_c,mo_s,mo_s2,mo_s3,mo_ne,g1,g4,g5,g6,g7]
theorem x12a4 {k12:List D} (h:Gd B E):∃E',evOps (EF pg) [s_ 25 (.fa (.t 1) 5),s_ 26 (.ld none (.t 25)),s_ 27 (.len (.t 26)),s_ 28 (.bin .gtr (.t 27) (I 8)),s_ 13 (.mv (.t 28))] ⟨E,[(1,[.v (.int .i64 a),.v (.int .i64 b),.v (.int .i64 c),.v (.int .i64 d),.v (.int .u32 n),.sl (mo m1) z1 es1,.sl (mo m2) z2 es2,.sl (mo m3) z3 es3]),(3,[.clo 33 [.ptr B.length 1 0]]),(1500012,k12)],B⟩=some ⟨E',[(1,[.v (.int .i64 a),.v (.int .i64 b),.v (.int .i64 c),.v (.int .i64 d),.v (.int .u32 n),.sl (mo m1) z1 es1,.sl (mo m2) z2 es2,.sl (mo m3) z3 es3]),(3,[.clo 33 [.ptr B.length 1 0]]),(1500012,k12)],B⟩∧Gd B E'∧get 13 E'= .v (.bool (decide ((es1.length:Int)>8))):=by
 obtain⟨g1,g4,g5,g6,g7⟩:=h
 simp only[gd_iff]
 simp[-List.all_eq_true,-getElem?_pos,-bne_iff_ne,-bne_eq_false_iff_eq,runF,evC,evOps,evStp,evOp,rd,rdL,rds,get,put,putO,argE,res1,resL,mkRes,doCall,unsnoc_append,S.wl,S.wo,lk,ins,sb,bx,sbx,pick,over,D.tupB,D.bnd2,D.bnd1,D.frz2,D.frz1,D.frzP,D.sto1,Value.oneCell',zc,bz,Tc.er,TStp.er,u_,ug_,s_,g_,n_,List.map_cons,List.map_nil,List.all_cons,List.all_nil,List.length_cons,List.length_nil,List.drop_succ_cons,List.drop_zero,List.take_succ_cons,List.take_zero,List.nil_append,List.cons_append,List.append_nil,List.getElem?_cons_succ,List.getElem?_cons_zero,Option.bind_some,Option.map_some,D.capB,dwnA,Nat.reduceEqDiff,Nat.reduceAdd,Nat.reduceLeDiff,Nat.reduceSub,Nat.reduceLT,Nat.reduceMul,Nat.zero_add,Nat.add_zero,reduceCtorEq,↓reduceIte,Bool.and_true,Bool.true_and,Bool.and_self,Bool.not_false,Bool.not_true,decide_true,decide_false,and_self,and_true,true_and,Bool.false_eq_true,ge_iff_le,gt_iff_lt,st_v,st_v1,st_v2,st_p,st_p1,st_p2,st_c,st_c1,st_c2,st_y,st_y2,st_u,st_a,st_a2,ce_v,ce_a,ce_s,ce_c,mo_s,mo_s2,mo_s3,mo_ne,g1,g4,g5,g6,g7]
theorem x12a5 {k12:List D} (h:Gd B E):∃E',evOps (EF pg) [s_ 29 (.fa (.t 1) 6),s_ 30 (.ld none (.t 29)),s_ 31 (.len (.t 30)),s_ 32 (.bin .gtr (.t 31) (I 8)),s_ 13 (.mv (.t 32))] ⟨E,[(1,[.v (.int .i64 a),.v (.int .i64 b),.v (.int .i64 c),.v (.int .i64 d),.v (.int .u32 n),.sl (mo m1) z1 es1,.sl (mo m2) z2 es2,.sl (mo m3) z3 es3]),(3,[.clo 33 [.ptr B.length 1 0]]),(1500012,k12)],B⟩=some ⟨E',[(1,[.v (.int .i64 a),.v (.int .i64 b),.v (.int .i64 c),.v (.int .i64 d),.v (.int .u32 n),.sl (mo m1) z1 es1,.sl (mo m2) z2 es2,.sl (mo m3) z3 es3]),(3,[.clo 33 [.ptr B.length 1 0]]),(1500012,k12)],B⟩∧Gd B E'∧get 13 E'= .v (.bool (decide ((es2.length:Int)>8))):=by
 obtain⟨g1,g4,g5,g6,g7⟩:=h
 simp only[gd_iff]
 simp[-List.all_eq_true,-getElem?_pos,-bne_iff_ne,-bne_eq_false_iff_eq,runF,evC,evOps,evStp,evOp,rd,rdL,rds,get,put,putO,argE,res1,resL,mkRes,doCall,unsnoc_append,S.wl,S.wo,lk,ins,sb,bx,sbx,pick,over,D.tupB,D.bnd2,D.bnd1,D.frz2,D.frz1,D.frzP,D.sto1,Value.oneCell',zc,bz,Tc.er,TStp.er,u_,ug_,s_,g_,n_,List.map_cons,List.map_nil,List.all_cons,List.all_nil,List.length_cons,List.length_nil,List.drop_succ_cons,List.drop_zero,List.take_succ_cons,List.take_zero,List.nil_append,List.cons_append,List.append_nil,List.getElem?_cons_succ,List.getElem?_cons_zero,Option.bind_some,Option.map_some,D.capB,dwnA,Nat.reduceEqDiff,Nat.reduceAdd,Nat.reduceLeDiff,Nat.reduceSub,Nat.reduceLT,Nat.reduceMul,Nat.zero_add,Nat.add_zero,reduceCtorEq,↓reduceIte,Bool.and_true,Bool.true_and,Bool.and_self,Bool.not_false,Bool.not_true,decide_true,decide_false,and_self,and_true,true_and,Bool.false_eq_true,ge_iff_le,gt_iff_lt,st_v,st_v1,st_v2,st_p,st_p1,st_p2,st_c,st_c1,st_c2,st_y,st_y2,st_u,st_a,st_a2,ce_v,ce_a,ce_s,ce_c,mo_s,mo_s2,mo_s3,mo_ne,g1,g4,g5,g6,g7]
theorem x12a6 {k12:List D} (h:Gd B E):∃E',evOps (EF pg) [s_ 33 (.fa (.t 1) 7),s_ 34 (.ld none (.t 33)),s_ 35 (.len (.t 34)),s_ 36 (.bin .gtr (.t 35) (I 16)),s_ 13 (.mv (.t 36))] ⟨E,[(1,[.v (.int .i64 a),.v (.int .i64 b),.v (.int .i64 c),.v (.int .i64 d),.v (.int .u32 n),.sl (mo m1) z1 es1,.sl (mo m2) z2 es2,.sl (mo m3) z3 es3]),(3,[.clo 33 [.ptr B.length 1 0]]),(1500012,k12)],B⟩=some ⟨E',[(1,[.v (.int .i64 a),.v (.int .i64 b),.v (.int .i64 c),.v (.int .i64 d),.v (.int .u32 n),.sl (mo m1) z1 es1,.sl (mo m2) z2 es2,.sl (mo m3) z3 es3]),(3,[.clo 33 [.ptr B.length 1 0]]),(1500012,k12)],B⟩∧Gd B E'∧get 13 E'= .v (.bool (decide ((es3.length:Int)>16))):=by
 obtain⟨g1,g4,g5,g6,g7⟩:=h
 simp only[gd_iff]
 simp[-List.all_eq_true,-getElem?_pos,-bne_iff_ne,-bne_eq_false_iff_eq,runF,evC,evOps,evStp,evOp,rd,rdL,rds,get,put,putO,argE,res1,resL,mkRes,doCall,unsnoc_append,S.wl,S.wo,lk,ins,sb,bx,sbx,pick,over,D.tupB,D.bnd2,D.bnd1,D.frz2,D.frz1,D.frzP,D.sto1,Value.oneCell',zc,bz,Tc.er,TStp.er,u_,ug_,s_,g_,n_,List.map_cons,List.map_nil,List.all_cons,List.all_nil,List.length_cons,List.length_nil,List.drop_succ_cons,List.drop_zero,List.take_succ_cons,List.take_zero,List.nil_append,List.cons_append,List.append_nil,List.getElem?_cons_succ,List.getElem?_cons_zero,Option.bind_some,Option.map_some,D.capB,dwnA,Nat.reduceEqDiff,Nat.reduceAdd,Nat.reduceLeDiff,Nat.reduceSub,Nat.reduceLT,Nat.reduceMul,Nat.zero_add,Nat.add_zero,reduceCtorEq,↓reduceIte,Bool.and_true,Bool.true_and,Bool.and_self,Bool.not_false,Bool.not_true,decide_true,decide_false,and_self,and_true,true_and,Bool.false_eq_true,ge_iff_le,gt_iff_lt,st_v,st_v1,st_v2,st_p,st_p1,st_p2,st_c,st_c1,st_c2,st_y,st_y2,st_u,st_a,st_a2,ce_v,ce_a,ce_s,ce_c,mo_s,mo_s2,mo_s3,mo_ne,g1,g4,g5,g6,g7]
theorem x12b1 {k12:List D} (h:Gd B E) (hc:EF pg 40 [.sl (mo m1) z1 es1,.clo 34 [.ptr B.length 1 0,.ptr B.length 3 0]] (B++[[(1,[.v (.int .i64 a),.v (.int .i64 b),.v (.int .i64 c),.v (.int .i64 d),.v (.int .u32 n),.sl (mo m1) z1 es1,.sl (mo m2) z2 es2,.sl (mo m3) z3 es3]),(3,[.clo 33 [.ptr B.length 1 0]]),(1500012,k12)]])=some (.v (.bool y),B++[[(1,[.v (.int .i64 a),.v (.int .i64 b),.v (.int .i64 c),.v (.int .i64 d),.v (.int .u32 n),.sl (mo m1) z1 es1,.sl (mo m2) z2 es2,.sl (mo m3) z3 es3]),(3,[.clo 33 [.ptr B.length 1 0]]),(1500012,k12)]])):∃E',evOps (EF pg) [s_ 38 (.fa (.t 1) 5),s_ 39 (.ld none (.t 38)),s_ 40 (.mv (.t 4)),s_ 41 (.call 40 [(.t 39),(.t 40)]),s_ 37 (.mv (.t 41))] ⟨E,[(1,[.v (.int .i64 a),.v (.int .i64 b),.v (.int .i64 c),.v (.int .i64 d),.v (.int .u32 n),.sl (mo m1) z1 es1,.sl (mo m2) z2 es2,.sl (mo m3) z3 es3]),(3,[.clo 33 [.ptr B.length 1 0]]),(1500012,k12)],B⟩=some ⟨E',[(1,[.v (.int .i64 a),.v (.int .i64 b),.v (.int .i64 c),.v (.int .i64 d),.v (.int .u32 n),.sl (mo m1) z1 es1,.sl (mo m2) z2 es2,.sl (mo m3) z3 es3]),(3,[.clo 33 [.ptr B.length 1 0]]),(1500012,k12)],B⟩∧Gd B E'∧get 37 E'= .v (.bool y):=by
 obtain⟨g1,g4,g5,g6,g7⟩:=h
 simp only[gd_iff]
 simp[-List.all_eq_true,-getElem?_pos,-bne_iff_ne,-bne_eq_false_iff_eq,runF,evC,evOps,evStp,evOp,rd,rdL,rds,get,put,putO,argE,res1,resL,mkRes,doCall,unsnoc_append,S.wl,S.wo,lk,ins,sb,bx,sbx,pick,over,D.tupB,D.bnd2,D.bnd1,D.frz2,D.frz1,D.frzP,D.sto1,Value.oneCell',zc,bz,Tc.er,TStp.er,u_,ug_,s_,g_,n_,List.map_cons,List.map_nil,List.all_cons,List.all_nil,List.length_cons,List.length_nil,List.drop_succ_cons,List.drop_zero,List.take_succ_cons,List.take_zero,List.nil_append,List.cons_append,List.append_nil,List.getElem?_cons_succ,List.getElem?_cons_zero,Option.bind_some,Option.map_some,D.capB,dwnA,Nat.reduceEqDiff,Nat.reduceAdd,Nat.reduceLeDiff,Nat.reduceSub,Nat.reduceLT,Nat.reduceMul,Nat.zero_add,Nat.add_zero,reduceCtorEq,↓reduceIte,Bool.and_true,Bool.true_and,Bool.and_self,Bool.not_false,Bool.not_true,decide_true,decide_false,and_self,and_true,true_and,Bool.false_eq_true,ge_iff_le,gt_iff_lt,st_v,st_v1,st_v2,st_p,st_p1,st_p2,st_c,st_c1,st_c2,st_y,st_y2,st_u,st_a,st_a2,ce_v,ce_a,ce_s,ce_c,mo_s,mo_s2,mo_s3,mo_ne,g1,g4,g5,g6,g7,hc]
theorem x12b2 {k12:List D} (h:Gd B E) (hc:EF pg 41 [.sl (mo m2) z2 es2,.clo 36 [.ptr B.length 1 0]] (B++[[(1,[.v (.int .i64 a),.v (.int .i64 b),.v (.int .i64 c),.v (.int .i64 d),.v (.int .u32 n),.sl (mo m1) z1 es1,.sl (mo m2) z2 es2,.sl (mo m3) z3 es3]),(3,[.clo 33 [.ptr B.length 1 0]]),(1500012,k12)]])=some (.v (.bool y),B++[[(1,[.v (.int .i64 a),.v (.int .i64 b),.v (.int .i64 c),.v (.int .i64 d),.v (.int .u32 n),.sl (mo m1) z1 es1,.sl (mo m2) z2 es2,.sl (mo m3) z3 es3]),(3,[.clo 33 [.ptr B.length 1 0]]),(1500012,k12)]])):∃E',evOps (EF pg) [s_ 42 (.fa (.t 1) 6),s_ 43 (.ld none (.t 42)),s_ 44 (.mv (.t 5)),s_ 45 (.call 41 [(.t 43),(.t 44)]),s_ 37 (.mv (.t 45))] ⟨E,[(1,[.v (.int .i64 a),.v (.int .i64 b),.v (.int .i64 c),.v (.int .i64 d),.v (.int .u32 n),.sl (mo m1) z1 es1,.sl (mo m2) z2 es2,.sl (mo m3) z3 es3]),(3,[.clo 33 [.ptr B.length 1 0]]),(1500012,k12)],B⟩=some ⟨E',[(1,[.v (.int .i64 a),.v (.int .i64 b),.v (.int .i64 c),.v (.int .i64 d),.v (.int .u32 n),.sl (mo m1) z1 es1,.sl (mo m2) z2 es2,.sl (mo m3) z3 es3]),(3,[.clo 33 [.ptr B.length 1 0]]),(1500012,k12)],B⟩∧Gd B E'∧get 37 E'= .v (.bool y):=by
 obtain⟨g1,g4,g5,g6,g7⟩:=h
 simp only[gd_iff]
 simp[-List.all_eq_true,-getElem?_pos,-bne_iff_ne,-bne_eq_false_iff_eq,runF,evC,evOps,evStp,evOp,rd,rdL,rds,get,put,putO,argE,res1,resL,mkRes,doCall,unsnoc_append,S.wl,S.wo,lk,ins,sb,bx,sbx,pick,over,D.tupB,D.bnd2,D.bnd1,D.frz2,D.frz1,D.frzP,D.sto1,Value.oneCell',zc,bz,Tc.er,TStp.er,u_,ug_,s_,g_,n_,List.map_cons,List.map_nil,List.all_cons,List.all_nil,List.length_cons,List.length_nil,List.drop_succ_cons,List.drop_zero,List.take_succ_cons,List.take_zero,List.nil_append,List.cons_append,List.append_nil,List.getElem?_cons_succ,List.getElem?_cons_zero,Option.bind_some,Option.map_some,D.capB,dwnA,Nat.reduceEqDiff,Nat.reduceAdd,Nat.reduceLeDiff,Nat.reduceSub,Nat.reduceLT,Nat.reduceMul,Nat.zero_add,Nat.add_zero,reduceCtorEq,↓reduceIte,Bool.and_true,Bool.true_and,Bool.and_self,Bool.not_false,Bool.not_true,decide_true,decide_false,and_self,and_true,true_and,Bool.false_eq_true,ge_iff_le,gt_iff_lt,st_v,st_v1,st_v2,st_p,st_p1,st_p2,st_c,st_c1,st_c2,st_y,st_y2,st_u,st_a,st_a2,ce_v,ce_a,ce_s,ce_c,mo_s,mo_s2,mo_s3,mo_ne,g1,g4,g5,g6,g7,hc]
theorem x12b3 {k12:List D} (h:Gd B E) (hc:EF pg 42 [.sl (mo m3) z3 es3,.clo 38 [.ptr B.length 3 0]] (B++[[(1,[.v (.int .i64 a),.v (.int .i64 b),.v (.int .i64 c),.v (.int .i64 d),.v (.int .u32 n),.sl (mo m1) z1 es1,.sl (mo m2) z2 es2,.sl (mo m3) z3 es3]),(3,[.clo 33 [.ptr B.length 1 0]]),(1500012,k12)]])=some (.v (.bool y),B++[[(1,[.v (.int .i64 a),.v (.int .i64 b),.v (.int .i64 c),.v (.int .i64 d),.v (.int .u32 n),.sl (mo m1) z1 es1,.sl (mo m2) z2 es2,.sl (mo m3) z3 es3]),(3,[.clo 33 [.ptr B.length 1 0]]),(1500012,k12)]])):∃E',evOps (EF pg) [s_ 46 (.fa (.t 1) 7),s_ 47 (.ld none (.t 46)),s_ 48 (.mv (.t 6)),s_ 49 (.call 42 [(.t 47),(.t 48)]),s_ 37 (.mv (.t 49))] ⟨E,[(1,[.v (.int .i64 a),.v (.int .i64 b),.v (.int .i64 c),.v (.int .i64 d),.v (.int .u32 n),.sl (mo m1) z1 es1,.sl (mo m2) z2 es2,.sl (mo m3) z3 es3]),(3,[.clo 33 [.ptr B.length 1 0]]),(1500012,k12)],B⟩=some ⟨E',[(1,[.v (.int .i64 a),.v (.int .i64 b),.v (.int .i64 c),.v (.int .i64 d),.v (.int .u32 n),.sl (mo m1) z1 es1,.sl (mo m2) z2 es2,.sl (mo m3) z3 es3]),(3,[.clo 33 [.ptr B.length 1 0]]),(1500012,k12)],B⟩∧Gd B E'∧get 37 E'= .v (.bool y):=by
 obtain⟨g1,g4,g5,g6,g7⟩:=h
 simp only[gd_iff]
 simp[-List.all_eq_true,-getElem?_pos,-bne_iff_ne,-bne_eq_false_iff_eq,runF,evC,evOps,evStp,evOp,rd,rdL,rds,get,put,putO,argE,res1,resL,mkRes,doCall,unsnoc_append,S.wl,S.wo,lk,ins,sb,bx,sbx,pick,over,D.tupB,D.bnd2,D.bnd1,D.frz2,D.frz1,D.frzP,D.sto1,Value.oneCell',zc,bz,Tc.er,TStp.er,u_,ug_,s_,g_,n_,List.map_cons,List.map_nil,List.all_cons,List.all_nil,List.length_cons,List.length_nil,List.drop_succ_cons,List.drop_zero,List.take_succ_cons,List.take_zero,List.nil_append,List.cons_append,List.append_nil,List.getElem?_cons_succ,List.getElem?_cons_zero,Option.bind_some,Option.map_some,D.capB,dwnA,Nat.reduceEqDiff,Nat.reduceAdd,Nat.reduceLeDiff,Nat.reduceSub,Nat.reduceLT,Nat.reduceMul,Nat.zero_add,Nat.add_zero,reduceCtorEq,↓reduceIte,Bool.and_true,Bool.true_and,Bool.and_self,Bool.not_false,Bool.not_true,decide_true,decide_false,and_self,and_true,true_and,Bool.false_eq_true,ge_iff_le,gt_iff_lt,st_v,st_v1,st_v2,st_p,st_p1,st_p2,st_c,st_c1,st_c2,st_y,st_y2,st_u,st_a,st_a2,ce_v,ce_a,ce_s,ce_c,mo_s,mo_s2,mo_s3,mo_ne,g1,g4,g5,g6,g7,hc]
theorem x12c1 {k12:List D} (h:Gd B E) {k:List D} (hc:EF pg 43 [.sl (mo m1) z1 es1,.clo 44 [],.yld B.length 1500053] (B++[[(1,[.v (.int .i64 a),.v (.int .i64 b),.v (.int .i64 c),.v (.int .i64 d),.v (.int .u32 n),.sl (mo m1) z1 es1,.sl (mo m2) z2 es2,.sl (mo m3) z3 es3]),(3,[.clo 33 [.ptr B.length 1 0]]),(1500012,k12),(1500053,[])]])=some (.v (.bool y),B++[[(1,[.v (.int .i64 a),.v (.int .i64 b),.v (.int .i64 c),.v (.int .i64 d),.v (.int .u32 n),.sl (mo m1) z1 es1,.sl (mo m2) z2 es2,.sl (mo m3) z3 es3]),(3,[.clo 33 [.ptr B.length 1 0]]),(1500012,k12),(1500053,k)]])):∃E',evOps (EF pg) [s_ 51 (.fa (.t 1) 5),s_ 52 (.ld none (.t 51)),s_ 53 (.mkn 1500053),s_ 54 (.call 43 [(.t 52),(.f 44),(.t 53)]),s_ 50 (.mv (.t 54))] ⟨E,[(1,[.v (.int .i64 a),.v (.int .i64 b),.v (.int .i64 c),.v (.int .i64 d),.v (.int .u32 n),.sl (mo m1) z1 es1,.sl (mo m2) z2 es2,.sl (mo m3) z3 es3]),(3,[.clo 33 [.ptr B.length 1 0]]),(1500012,k12)],B⟩=some ⟨E',[(1,[.v (.int .i64 a),.v (.int .i64 b),.v (.int .i64 c),.v (.int .i64 d),.v (.int .u32 n),.sl (mo m1) z1 es1,.sl (mo m2) z2 es2,.sl (mo m3) z3 es3]),(3,[.clo 33 [.ptr B.length 1 0]]),(1500012,k12),(1500053,k)],B⟩∧Gd B E'∧get 50 E'= .v (.bool y):=by
 obtain⟨g1,g4,g5,g6,g7⟩:=h
 simp only[gd_iff]
 simp[-List.all_eq_true,-getElem?_pos,-bne_iff_ne,-bne_eq_false_iff_eq,runF,evC,evOps,evStp,evOp,rd,rdL,rds,get,put,putO,argE,res1,resL,mkRes,doCall,unsnoc_append,S.wl,S.wo,lk,ins,sb,bx,sbx,pick,over,D.tupB,D.bnd2,D.bnd1,D.frz2,D.frz1,D.frzP,D.sto1,Value.oneCell',zc,bz,Tc.er,TStp.er,u_,ug_,s_,g_,n_,List.map_cons,List.map_nil,List.all_cons,List.all_nil,List.length_cons,List.length_nil,List.drop_succ_cons,List.drop_zero,List.take_succ_cons,List.take_zero,List.nil_append,List.cons_append,List.append_nil,List.getElem?_cons_succ,List.getElem?_cons_zero,Option.bind_some,Option.map_some,D.capB,dwnA,Nat.reduceEqDiff,Nat.reduceAdd,Nat.reduceLeDiff,Nat.reduceSub,Nat.reduceLT,Nat.reduceMul,Nat.zero_add,Nat.add_zero,reduceCtorEq,↓reduceIte,Bool.and_true,Bool.true_and,Bool.and_self,Bool.not_false,Bool.not_true,decide_true,decide_false,and_self,and_true,true_and,Bool.false_eq_true,ge_iff_le,gt_iff_lt,st_v,st_v1,st_v2,st_p,st_p1,st_p2,st_c,st_c1,st_c2,st_y,st_y2,st_u,st_a,st_a2,ce_v,ce_a,ce_s,ce_c,mo_s,mo_s2,mo_s3,mo_ne,g1,g4,g5,g6,g7,hc]
theorem x12c2 {k12:List D} (h:Gd B E) {k k53:List D} (hc:EF pg 45 [.sl (mo m2) z2 es2,.clo 46 [],.yld B.length 1500012] (B++[[(1,[.v (.int .i64 a),.v (.int .i64 b),.v (.int .i64 c),.v (.int .i64 d),.v (.int .u32 n),.sl (mo m1) z1 es1,.sl (mo m2) z2 es2,.sl (mo m3) z3 es3]),(3,[.clo 33 [.ptr B.length 1 0]]),(1500012,k12),(1500053,k53)]])=some (.v (.bool y),B++[[(1,[.v (.int .i64 a),.v (.int .i64 b),.v (.int .i64 c),.v (.int .i64 d),.v (.int .u32 n),.sl (mo m1) z1 es1,.sl (mo m2) z2 es2,.sl (mo m3) z3 es3]),(3,[.clo 33 [.ptr B.length 1 0]]),(1500012,k),(1500053,k53)]])):∃E',evOps (EF pg) [s_ 55 (.fa (.t 1) 6),s_ 56 (.ld none (.t 55)),s_ 57 (.mv (.t 7)),s_ 58 (.call 45 [(.t 56),(.f 46),(.t 57)]),s_ 50 (.mv (.t 58))] ⟨E,[(1,[.v (.int .i64 a),.v (.int .i64 b),.v (.int .i64 c),.v (.int .i64 d),.v (.int .u32 n),.sl (mo m1) z1 es1,.sl (mo m2) z2 es2,.sl (mo m3) z3 es3]),(3,[.clo 33 [.ptr B.length 1 0]]),(1500012,k12),(1500053,k53)],B⟩=some ⟨E',[(1,[.v (.int .i64 a),.v (.int .i64 b),.v (.int .i64 c),.v (.int .i64 d),.v (.int .u32 n),.sl (mo m1) z1 es1,.sl (mo m2) z2 es2,.sl (mo m3) z3 es3]),(3,[.clo 33 [.ptr B.length 1 0]]),(1500012,k),(1500053,k53)],B⟩∧Gd B E'∧get 50 E'= .v (.bool y):=by
 obtain⟨g1,g4,g5,g6,g7⟩:=h
 simp only[gd_iff]
 simp[-List.all_eq_true,-getElem?_pos,-bne_iff_ne,-bne_eq_false_iff_eq,runF,evC,evOps,evStp,evOp,rd,rdL,rds,get,put,putO,argE,res1,resL,mkRes,doCall,unsnoc_append,S.wl,S.wo,lk,ins,sb,bx,sbx,pick,over,D.tupB,D.bnd2,D.bnd1,D.frz2,D.frz1,D.frzP,D.sto1,Value.oneCell',zc,bz,Tc.er,TStp.er,u_,ug_,s_,g_,n_,List.map_cons,List.map_nil,List.all_cons,List.all_nil,List.length_cons,List.length_nil,List.drop_succ_cons,List.drop_zero,List.take_succ_cons,List.take_zero,List.nil_append,List.cons_append,List.append_nil,List.getElem?_cons_succ,List.getElem?_cons_zero,Option.bind_some,Option.map_some,D.capB,dwnA,Nat.reduceEqDiff,Nat.reduceAdd,Nat.reduceLeDiff,Nat.reduceSub,Nat.reduceLT,Nat.reduceMul,Nat.zero_add,Nat.add_zero,reduceCtorEq,↓reduceIte,Bool.and_true,Bool.true_and,Bool.and_self,Bool.not_false,Bool.not_true,decide_true,decide_false,and_self,and_true,true_and,Bool.false_eq_true,ge_iff_le,gt_iff_lt,st_v,st_v1,st_v2,st_p,st_p1,st_p2,st_c,st_c1,st_c2,st_y,st_y2,st_u,st_a,st_a2,ce_v,ce_a,ce_s,ce_c,mo_s,mo_s2,mo_s3,mo_ne,g1,g4,g5,g6,g7,hc]
theorem x12c3 {k12:List D} (h:Gd B E) {k k53:List D} (hc:EF pg 47 [.sl (mo m3) z3 es3,.clo 48 [],.yld B.length 1500012] (B++[[(1,[.v (.int .i64 a),.v (.int .i64 b),.v (.int .i64 c),.v (.int .i64 d),.v (.int .u32 n),.sl (mo m1) z1 es1,.sl (mo m2) z2 es2,.sl (mo m3) z3 es3]),(3,[.clo 33 [.ptr B.length 1 0]]),(1500012,k12),(1500053,k53)]])=some (.v (.bool y),B++[[(1,[.v (.int .i64 a),.v (.int .i64 b),.v (.int .i64 c),.v (.int .i64 d),.v (.int .u32 n),.sl (mo m1) z1 es1,.sl (mo m2) z2 es2,.sl (mo m3) z3 es3]),(3,[.clo 33 [.ptr B.length 1 0]]),(1500012,k),(1500053,k53)]])):∃E',evOps (EF pg) [s_ 59 (.fa (.t 1) 7),s_ 60 (.ld none (.t 59)),s_ 61 (.mv (.t 7)),s_ 62 (.call 47 [(.t 60),(.f 48),(.t 61)]),s_ 50 (.mv (.t 62))] ⟨E,[(1,[.v (.int .i64 a),.v (.int .i64 b),.v (.int .i64 c),.v (.int .i64 d),.v (.int .u32 n),.sl (mo m1) z1 es1,.sl (mo m2) z2 es2,.sl (mo m3) z3 es3]),(3,[.clo 33 [.ptr B.length 1 0]]),(1500012,k12),(1500053,k53)],B⟩=some ⟨E',[(1,[.v (.int .i64 a),.v (.int .i64 b),.v (.int .i64 c),.v (.int .i64 d),.v (.int .u32 n),.sl (mo m1) z1 es1,.sl (mo m2) z2 es2,.sl (mo m3) z3 es3]),(3,[.clo 33 [.ptr B.length 1 0]]),(1500012,k),(1500053,k53)],B⟩∧Gd B E'∧get 50 E'= .v (.bool y):=by
 obtain⟨g1,g4,g5,g6,g7⟩:=h
 simp only[gd_iff]
 simp[-List.all_eq_true,-getElem?_pos,-bne_iff_ne,-bne_eq_false_iff_eq,runF,evC,evOps,evStp,evOp,rd,rdL,rds,get,put,putO,argE,res1,resL,mkRes,doCall,unsnoc_append,S.wl,S.wo,lk,ins,sb,bx,sbx,pick,over,D.tupB,D.bnd2,D.bnd1,D.frz2,D.frz1,D.frzP,D.sto1,Value.oneCell',zc,bz,Tc.er,TStp.er,u_,ug_,s_,g_,n_,List.map_cons,List.map_nil,List.all_cons,List.all_nil,List.length_cons,List.length_nil,List.drop_succ_cons,List.drop_zero,List.take_succ_cons,List.take_zero,List.nil_append,List.cons_append,List.append_nil,List.getElem?_cons_succ,List.getElem?_cons_zero,Option.bind_some,Option.map_some,D.capB,dwnA,Nat.reduceEqDiff,Nat.reduceAdd,Nat.reduceLeDiff,Nat.reduceSub,Nat.reduceLT,Nat.reduceMul,Nat.zero_add,Nat.add_zero,reduceCtorEq,↓reduceIte,Bool.and_true,Bool.true_and,Bool.and_self,Bool.not_false,Bool.not_true,decide_true,decide_false,and_self,and_true,true_and,Bool.false_eq_true,ge_iff_le,gt_iff_lt,st_v,st_v1,st_v2,st_p,st_p1,st_p2,st_c,st_c1,st_c2,st_y,st_y2,st_u,st_a,st_a2,ce_v,ce_a,ce_s,ce_c,mo_s,mo_s2,mo_s3,mo_ne,g1,g4,g5,g6,g7,hc]
theorem x12A (h:Gd B E) {p1 p2:Bool} (h23:∀B,EF pg 23 [.v (.int .i64 a)] B=some (.v (.bool p1),B)) (h39:∀B,EF pg 39 [.agg [.v (.int .i64 b),.v (.int .i64 c),.v (.int .i64 d)]] B=some (.v (.bool p2),B)):
  ∃E',evC (EF pg) (.sq (.rg [s_ 14 (.fa (.t 1) 0),s_ 15 (.ld none (.t 14)),s_ 16 (.call 23 [(.t 15)]),s_ 17 (.no (.t 16)),s_ 13 (.mv (.t 17))]) (.ff (.t 13) .sk (.sq (.rg [s_ 18 (.fa (.t 1) 1),s_ 19 (.ld (some 3) (.t 18)),s_ 20 (.call 39 [(.t 19)]),s_ 21 (.no (.t 20)),s_ 13 (.mv (.t 21))]) (.ff (.t 13) .sk (.sq (.rg [s_ 22 (.fa (.t 1) 4),s_ 23 (.ld none (.t 22)),s_ 24 (.bin .eql (.t 23) (.c (.int .u32 0))),s_ 13 (.mv (.t 24))]) (.ff (.t 13) .sk (.sq (.rg [s_ 25 (.fa (.t 1) 5),s_ 26 (.ld none (.t 25)),s_ 27 (.len (.t 26)),s_ 28 (.bin .gtr (.t 27) (I 8)),s_ 13 (.mv (.t 28))]) (.ff (.t 13) .sk (.sq (.rg [s_ 29 (.fa (.t 1) 6),s_ 30 (.ld none (.t 29)),s_ 31 (.len (.t 30)),s_ 32 (.bin .gtr (.t 31) (I 8)),s_ 13 (.mv (.t 32))]) (.ff (.t 13) .sk (.rg [s_ 33 (.fa (.t 1) 7),s_ 34 (.ld none (.t 33)),s_ 35 (.len (.t 34)),s_ 36 (.bin .gtr (.t 35) (I 16)),s_ 13 (.mv (.t 36))]))))))))))) ⟨E,[(1,[.v (.int .i64 a),.v (.int .i64 b),.v (.int .i64 c),.v (.int .i64 d),.v (.int .u32 n),.sl (mo m1) z1 es1,.sl (mo m2) z2 es2,.sl (mo m3) z3 es3]),(3,[.clo 33 [.ptr B.length 1 0]]),(1500012,[])],B⟩=some (.nm,⟨E',[(1,[.v (.int .i64 a),.v (.int .i64 b),.v (.int .i64 c),.v (.int .i64 d),.v (.int .u32 n),.sl (mo m1) z1 es1,.sl (mo m2) z2 es2,.sl (mo m3) z3 es3]),(3,[.clo 33 [.ptr B.length 1 0]]),(1500012,[])],B⟩)∧Gd B E'∧get 13 E'= .v (.bool (!p1|| !p2||n==0||decide ((es1.length:Int)>8)||decide ((es2.length:Int)>8)||decide ((es3.length:Int)>16))):=by
 obtain⟨E0,k0,gd0,t0⟩:=x12a1 (a:=a) (b:=b) (c:=c) (d:=d) (n:=n) (m1:=m1) (m2:=m2) (m3:=m3) (z1:=z1) (z2:=z2) (z3:=z3) (es1:=es1) (es2:=es2) (es3:=es3) (k12:=[]) h h23
 obtain⟨E1,k1,gd1,t1⟩:=x12a2 (a:=a) (b:=b) (c:=c) (d:=d) (n:=n) (m1:=m1) (m2:=m2) (m3:=m3) (z1:=z1) (z2:=z2) (z3:=z3) (es1:=es1) (es2:=es2) (es3:=es3) (k12:=[]) gd0 h39
 obtain⟨E2,k2,gd2,t2⟩:=x12a3 (a:=a) (b:=b) (c:=c) (d:=d) (n:=n) (m1:=m1) (m2:=m2) (m3:=m3) (z1:=z1) (z2:=z2) (z3:=z3) (es1:=es1) (es2:=es2) (es3:=es3) (k12:=[]) gd1
 obtain⟨E3,k3,gd3,t3⟩:=x12a4 (a:=a) (b:=b) (c:=c) (d:=d) (n:=n) (m1:=m1) (m2:=m2) (m3:=m3) (z1:=z1) (z2:=z2) (z3:=z3) (es1:=es1) (es2:=es2) (es3:=es3) (k12:=[]) gd2
 obtain⟨E4,k4,gd4,t4⟩:=x12a5 (a:=a) (b:=b) (c:=c) (d:=d) (n:=n) (m1:=m1) (m2:=m2) (m3:=m3) (z1:=z1) (z2:=z2) (z3:=z3) (es1:=es1) (es2:=es2) (es3:=es3) (k12:=[]) gd3
 obtain⟨E5,k5,gd5,t5⟩:=x12a6 (a:=a) (b:=b) (c:=c) (d:=d) (n:=n) (m1:=m1) (m2:=m2) (m3:=m3) (z1:=z1) (z2:=z2) (z3:=z3) (es1:=es1) (es2:=es2) (es3:=es3) (k12:=[]) gd4
 cases q0:(!p1)
 ·have u0:get 13 E0= .v (.bool false):=by rw[t0,q0]
  cases q1:(!p2)
  ·have u1:get 13 E1= .v (.bool false):=by rw[t1,q1]
   cases q2:(n==0)
   ·have u2:get 13 E2= .v (.bool false):=by rw[t2,q2]
    cases q3:(decide ((es1.length:Int)>8))
    ·have u3:get 13 E3= .v (.bool false):=by rw[t3,q3]
     cases q4:(decide ((es2.length:Int)>8))
     ·have u4:get 13 E4= .v (.bool false):=by rw[t4,q4]
      refine⟨E5,(or_f k0 u0).trans ((or_f k1 u1).trans ((or_f k2 u2).trans ((or_f k3 u3).trans ((or_f k4 u4).trans (rg_ok k5))))),gd5,by rw[t5];simp[q0,q1,q2,q3,q4]⟩
     ·refine⟨E4,(or_f k0 u0).trans ((or_f k1 u1).trans ((or_f k2 u2).trans ((or_f k3 u3).trans (or_t k4 (by rw[t4,q4]))))),gd4,by rw[t4,q4];simp[q0,q1,q2,q3,q4]⟩
    ·refine⟨E3,(or_f k0 u0).trans ((or_f k1 u1).trans ((or_f k2 u2).trans (or_t k3 (by rw[t3,q3])))),gd3,by rw[t3,q3];simp[q0,q1,q2,q3]⟩
   ·refine⟨E2,(or_f k0 u0).trans ((or_f k1 u1).trans (or_t k2 (by rw[t2,q2]))),gd2,by rw[t2,q2];simp[q0,q1,q2]⟩
  ·refine⟨E1,(or_f k0 u0).trans (or_t k1 (by rw[t1,q1])),gd1,by rw[t1,q1];simp[q0,q1]⟩
 ·refine⟨E0,or_t k0 (by rw[t0,q0]),gd0,by rw[t0,q0];simp[q0]⟩
end
end Go.Proofs.Ytfopbiiffiickaa.Ev.U
set_option maxRecDepth 100000
namespace Go.Proofs.Ytfopbiiffiickaa.Ev.U
open Go
noncomputable def g12 (x:Ltp):Option Int:=
 if(!h23 x.1|| !h39 (x.2.1,x.2.2.1,x.2.2.2.1)||x.2.2.2.2.1==0||decide ((List.length x.2.2.2.2.2.1:Int)>8)||decide ((List.length x.2.2.2.2.2.2.1:Int)>8)||decide ((List.length x.2.2.2.2.2.2.2:Int)>16))=true then some 260 else
 (g40 x.2.2.2.2.2.1 (fun o=>g34 o x (fun n=>h33 n x))).bind fun b1=>if b1=true then some 260 else
 (g41 x.2.2.2.2.2.2.1 (fun t=>g36 t x)).bind fun b2=>if b2=true then some 260 else
 (g42 x.2.2.2.2.2.2.2 (fun o=>some (g38 o (fun n=>h33 n x)))).bind fun b3=>if b3=true then some 260 else
 if(twI (x.2.2.2.2.2.1.map h44) []).1=true then some 260 else
 if(twI (x.2.2.2.2.2.2.1.map h46) []).1=true then some 260 else
 if(twI (x.2.2.2.2.2.2.2.map h48) (twI (x.2.2.2.2.2.2.1.map h46) []).2).1=true then some 260 else some 0
noncomputable def tf12:TF:=.par ⟨[.v YLtp],.i .i64⟩ (fun x=>g12 x)
theorem elk {fk z:Nat} {r:Ty} {h:(Sg.mk [.v (.g r)] YId).aT.T->(Sg.mk [.v (.g r)] YId).oT.T} (o:TOK (EF pg) fk (.tot ⟨[.v (.g r)],YId⟩ h)) (hk:rfk r=true) (hz:rowLen r=z) {v:(Ty.g r).T} {d:D} (hd:RepL (EF pg) (.g r) [] v [d]):ElK z fk d (h v):=by
 refine⟨?_,fun B=>?_⟩
 ·obtain⟨hr,cs,hcs,hrow⟩:=hd
  injection hcs with hcs
  exact⟨cs,hcs,by rw[row_len hr hrow,hz],rf_row hk hrow⟩
 ·obtain⟨d',h1,h2⟩:=call_v (F:=[]) (r:=YId) (tot_par o) (by simp) rfl B.length (fun x h=>by cases h) (x:=v) (ds:=[d]) rfl hd rfl
  have hd':=val_inv (c:=c0 (EF pg)) (τ:=YId) rfl h1
  obtain⟨_,cs,hcs,_,d0,q,rfl,r0,r1⟩:=hd'
  injection hcs with hcs
  subst hcs
  obtain⟨rfl,_⟩:=i_d r0
  obtain⟨rfl,_⟩:=r1
  exact h2 B rfl (Sat.nil B)
theorem elks {fk z:Nat} {r:Ty} {h:(Sg.mk [.v (.g r)] YId).aT.T->(Sg.mk [.v (.g r)] YId).oT.T} (o:TOK (EF pg) fk (.tot ⟨[.v (.g r)],YId⟩ h)) (hk:rfk r=true) (hz:rowLen r=z):∀{xs:List (Ty.g r).T} {es:List D},All2 (fun y e=>RepL (EF pg) (.g r) [] y [e]) xs es->∀(i:Nat) (d:D) (p:Int×Int),es[i]? =some d->(xs.map h)[i]? =some p->ElK z fk d p
 |[],[],_,i,d,p,h1,_=>by simp at h1
 |x::xs,e::es,ha,0,d,p,h1,h2=>by
  obtain rfl:=Option.some.inj h1
  obtain rfl:=Option.some.inj h2
  exact elk o hk hz ha.1
 |x::xs,e::es,ha,i+1,d,p,h1,h2=>elks o hk hz ha.2 i d p h1 h2
theorem ls_inv {r:Ty} {xs:List (Ty.g r).T} {d:D} (h:RepL (EF pg) (.l .ro (.g r)) [] xs [d]):∃m z es,d= .sl (mo m) z es∧(es=[]∨z=rowLen r)∧All2 (fun y e=>RepL (EF pg) (.g r) [] y [e]) xs es:=by
 obtain⟨_,es,h1,h2⟩:=h
 rcases h2 with h2|⟨rfl,z,h2⟩
 ·injection h2 with h2;exact⟨true,rowLen r,es,h2,.inr rfl,h1⟩
 ·injection h2 with h2;exact⟨false,z,[],h2,.inl rfl,h1⟩
section
variable {B:List Bx} {a b c d n:Int} {m1 m2 m3:Bool} {z1 z2 z3:Nat} {es1 es2 es3:List D}
theorem sq_rtx {c:Caller} {a b:Cd} {s s1:S} (h:evC c a s=some (.rt,s1)):evC c (.sq a b) s=some (.rt,s1):=by simp only[evC,h]
theorem run12 {s':S} {y:Int} (h:evC (EF pg) c12 ⟨[(0,.agg [.v (.int .i64 a),.v (.int .i64 b),.v (.int .i64 c),.v (.int .i64 d),.v (.int .u32 n),.sl (mo m1) z1 es1,.sl (mo m2) z2 es2,.sl (mo m3) z3 es3])],[],B⟩=some (.rt,s')) (ho:s'.o=B) (h2:get 2 s'.e= .v (.int .i64 y)):EF pg 12 [.agg [.v (.int .i64 a),.v (.int .i64 b),.v (.int .i64 c),.v (.int .i64 d),.v (.int .u32 n),.sl (mo m1) z1 es1,.sl (mo m2) z2 es2,.sl (mo m3) z3 es3]] B=some (.v (.int .i64 y),B):=by
 rw[EF_eq]
 simp[-List.all_eq_true,runF,evC,evOps,evStp,evOp,rd,rdL,rds,get,put,putO,argE,res1,resL,mkRes,doCall,unsnoc_append,S.wl,S.wo,lk,ins,sb,bx,sbx,pick,over,D.tupB,D.bnd2,D.bnd1,D.frz2,D.frz1,D.frzP,D.sto1,Value.oneCell',zc,bz,Tc.er,TStp.er,u_,ug_,s_,g_,n_,List.map_cons,List.map_nil,List.all_cons,List.all_nil,List.length_cons,List.length_nil,List.drop_succ_cons,List.drop_zero,List.take_succ_cons,List.take_zero,List.nil_append,List.cons_append,List.append_nil,List.getElem?_cons_succ,List.getElem?_cons_zero,Option.bind_some,Option.map_some,D.capB,dwnA,Nat.reduceEqDiff,Nat.reduceAdd,Nat.reduceLeDiff,Nat.reduceSub,Nat.reduceLT,Nat.reduceMul,Nat.zero_add,Nat.add_zero,reduceCtorEq,↓reduceIte,Bool.and_true,Bool.true_and,Bool.and_self,Bool.not_false,Bool.not_true,decide_true,decide_false,and_self,and_true,true_and,Bool.false_eq_true,ge_iff_le,gt_iff_lt,p12,F12,st_v,st_v1,st_v2,st_a,st_a2,mo_s,h,ho,h2]
theorem bad12 {E:Env} {L':Bx} {E':Env} (hi:∀X,evC (EF pg) (.sq (.rg [s_ 1 (.bx (.t 0)),s_ 2 (.mv (I 0))]) (.sq (.rg [s_ 8 (.mf 33 [(.t 1)]),s_ 3 (.al [.nilFunc]),n_ (.st 1 (.t 3) (.t 8))]) (.sq (.rg [s_ 9 (.mf 34 [(.t 1),(.t 3)]),s_ 4 (.mv (.t 9))]) (.sq (.rg [s_ 10 (.mf 36 [(.t 1)]),s_ 5 (.mv (.t 10))]) (.sq (.rg [s_ 11 (.mf 38 [(.t 3)]),s_ 6 (.mv (.t 11))]) (.sq (.rg [s_ 12 (.mkn 1500012),s_ 7 (.mv (.t 12))]) X)))))) ⟨[(0,.agg [.v (.int .i64 a),.v (.int .i64 b),.v (.int .i64 c),.v (.int .i64 d),.v (.int .u32 n),.sl (mo m1) z1 es1,.sl (mo m2) z2 es2,.sl (mo m3) z3 es3])],[],B⟩=evC (EF pg) X ⟨E,[(1,[.v (.int .i64 a),.v (.int .i64 b),.v (.int .i64 c),.v (.int .i64 d),.v (.int .u32 n),.sl (mo m1) z1 es1,.sl (mo m2) z2 es2,.sl (mo m3) z3 es3]),(3,[.clo 33 [.ptr B.length 1 0]]),(1500012,[])],B⟩)
  (h:evC (EF pg) (.sq (.sq (.rg [s_ 14 (.fa (.t 1) 0),s_ 15 (.ld none (.t 14)),s_ 16 (.call 23 [(.t 15)]),s_ 17 (.no (.t 16)),s_ 13 (.mv (.t 17))]) (.ff (.t 13) .sk (.sq (.rg [s_ 18 (.fa (.t 1) 1),s_ 19 (.ld (some 3) (.t 18)),s_ 20 (.call 39 [(.t 19)]),s_ 21 (.no (.t 20)),s_ 13 (.mv (.t 21))]) (.ff (.t 13) .sk (.sq (.rg [s_ 22 (.fa (.t 1) 4),s_ 23 (.ld none (.t 22)),s_ 24 (.bin .eql (.t 23) (.c (.int .u32 0))),s_ 13 (.mv (.t 24))]) (.ff (.t 13) .sk (.sq (.rg [s_ 25 (.fa (.t 1) 5),s_ 26 (.ld none (.t 25)),s_ 27 (.len (.t 26)),s_ 28 (.bin .gtr (.t 27) (I 8)),s_ 13 (.mv (.t 28))]) (.ff (.t 13) .sk (.sq (.rg [s_ 29 (.fa (.t 1) 6),s_ 30 (.ld none (.t 29)),s_ 31 (.len (.t 30)),s_ 32 (.bin .gtr (.t 31) (I 8)),s_ 13 (.mv (.t 32))]) (.ff (.t 13) .sk (.rg [s_ 33 (.fa (.t 1) 7),s_ 34 (.ld none (.t 33)),s_ 35 (.len (.t 34)),s_ 36 (.bin .gtr (.t 35) (I 16)),s_ 13 (.mv (.t 36))]))))))))))) (.ff (.t 13) .sk (.sq (.sq (.rg [s_ 38 (.fa (.t 1) 5),s_ 39 (.ld none (.t 38)),s_ 40 (.mv (.t 4)),s_ 41 (.call 40 [(.t 39),(.t 40)]),s_ 37 (.mv (.t 41))]) (.ff (.t 37) .sk (.sq (.rg [s_ 42 (.fa (.t 1) 6),s_ 43 (.ld none (.t 42)),s_ 44 (.mv (.t 5)),s_ 45 (.call 41 [(.t 43),(.t 44)]),s_ 37 (.mv (.t 45))]) (.ff (.t 37) .sk (.rg [s_ 46 (.fa (.t 1) 7),s_ 47 (.ld none (.t 46)),s_ 48 (.mv (.t 6)),s_ 49 (.call 42 [(.t 47),(.t 48)]),s_ 37 (.mv (.t 49))]))))) (.ff (.t 37) .sk (.sq (.sq (.rg [s_ 51 (.fa (.t 1) 5),s_ 52 (.ld none (.t 51)),s_ 53 (.mkn 1500053),s_ 54 (.call 43 [(.t 52),(.f 44),(.t 53)]),s_ 50 (.mv (.t 54))]) (.ff (.t 50) .sk (.sq (.rg [s_ 55 (.fa (.t 1) 6),s_ 56 (.ld none (.t 55)),s_ 57 (.mv (.t 7)),s_ 58 (.call 45 [(.t 56),(.f 46),(.t 57)]),s_ 50 (.mv (.t 58))]) (.ff (.t 50) .sk (.rg [s_ 59 (.fa (.t 1) 7),s_ 60 (.ld none (.t 59)),s_ 61 (.mv (.t 7)),s_ 62 (.call 47 [(.t 60),(.f 48),(.t 61)]),s_ 50 (.mv (.t 62))]))))) (.ff (.t 50) .sk (.sq (.rg [s_ 2 (.mv (I 0))]) .rt))))))) ⟨E,[(1,[.v (.int .i64 a),.v (.int .i64 b),.v (.int .i64 c),.v (.int .i64 d),.v (.int .u32 n),.sl (mo m1) z1 es1,.sl (mo m2) z2 es2,.sl (mo m3) z3 es3]),(3,[.clo 33 [.ptr B.length 1 0]]),(1500012,[])],B⟩=some (.nm,⟨E',L',B⟩)):EF pg 12 [.agg [.v (.int .i64 a),.v (.int .i64 b),.v (.int .i64 c),.v (.int .i64 d),.v (.int .u32 n),.sl (mo m1) z1 es1,.sl (mo m2) z2 es2,.sl (mo m3) z3 es3]] B=some (.v (.int .i64 260),B):=by
 have hb:evC (EF pg) (.bl 0 (.sq (.sq (.rg [s_ 14 (.fa (.t 1) 0),s_ 15 (.ld none (.t 14)),s_ 16 (.call 23 [(.t 15)]),s_ 17 (.no (.t 16)),s_ 13 (.mv (.t 17))]) (.ff (.t 13) .sk (.sq (.rg [s_ 18 (.fa (.t 1) 1),s_ 19 (.ld (some 3) (.t 18)),s_ 20 (.call 39 [(.t 19)]),s_ 21 (.no (.t 20)),s_ 13 (.mv (.t 21))]) (.ff (.t 13) .sk (.sq (.rg [s_ 22 (.fa (.t 1) 4),s_ 23 (.ld none (.t 22)),s_ 24 (.bin .eql (.t 23) (.c (.int .u32 0))),s_ 13 (.mv (.t 24))]) (.ff (.t 13) .sk (.sq (.rg [s_ 25 (.fa (.t 1) 5),s_ 26 (.ld none (.t 25)),s_ 27 (.len (.t 26)),s_ 28 (.bin .gtr (.t 27) (I 8)),s_ 13 (.mv (.t 28))]) (.ff (.t 13) .sk (.sq (.rg [s_ 29 (.fa (.t 1) 6),s_ 30 (.ld none (.t 29)),s_ 31 (.len (.t 30)),s_ 32 (.bin .gtr (.t 31) (I 8)),s_ 13 (.mv (.t 32))]) (.ff (.t 13) .sk (.rg [s_ 33 (.fa (.t 1) 7),s_ 34 (.ld none (.t 33)),s_ 35 (.len (.t 34)),s_ 36 (.bin .gtr (.t 35) (I 16)),s_ 13 (.mv (.t 36))]))))))))))) (.ff (.t 13) .sk (.sq (.sq (.rg [s_ 38 (.fa (.t 1) 5),s_ 39 (.ld none (.t 38)),s_ 40 (.mv (.t 4)),s_ 41 (.call 40 [(.t 39),(.t 40)]),s_ 37 (.mv (.t 41))]) (.ff (.t 37) .sk (.sq (.rg [s_ 42 (.fa (.t 1) 6),s_ 43 (.ld none (.t 42)),s_ 44 (.mv (.t 5)),s_ 45 (.call 41 [(.t 43),(.t 44)]),s_ 37 (.mv (.t 45))]) (.ff (.t 37) .sk (.rg [s_ 46 (.fa (.t 1) 7),s_ 47 (.ld none (.t 46)),s_ 48 (.mv (.t 6)),s_ 49 (.call 42 [(.t 47),(.t 48)]),s_ 37 (.mv (.t 49))]))))) (.ff (.t 37) .sk (.sq (.sq (.rg [s_ 51 (.fa (.t 1) 5),s_ 52 (.ld none (.t 51)),s_ 53 (.mkn 1500053),s_ 54 (.call 43 [(.t 52),(.f 44),(.t 53)]),s_ 50 (.mv (.t 54))]) (.ff (.t 50) .sk (.sq (.rg [s_ 55 (.fa (.t 1) 6),s_ 56 (.ld none (.t 55)),s_ 57 (.mv (.t 7)),s_ 58 (.call 45 [(.t 56),(.f 46),(.t 57)]),s_ 50 (.mv (.t 58))]) (.ff (.t 50) .sk (.rg [s_ 59 (.fa (.t 1) 7),s_ 60 (.ld none (.t 59)),s_ 61 (.mv (.t 7)),s_ 62 (.call 47 [(.t 60),(.f 48),(.t 61)]),s_ 50 (.mv (.t 62))]))))) (.ff (.t 50) .sk (.sq (.rg [s_ 2 (.mv (I 0))]) .rt)))))))) ⟨E,[(1,[.v (.int .i64 a),.v (.int .i64 b),.v (.int .i64 c),.v (.int .i64 d),.v (.int .u32 n),.sl (mo m1) z1 es1,.sl (mo m2) z2 es2,.sl (mo m3) z3 es3]),(3,[.clo 33 [.ptr B.length 1 0]]),(1500012,[])],B⟩=some (.nm,⟨E',L',B⟩):=by
  rw[evC,h]
 refine run12 (s':=⟨(2,.v (.int .i64 260))::E',L',B⟩) ?_ rfl rfl
 rw[show c12=_ from rfl]
 unfold c12
 rw[hi,sq_nm hb]
 rfl
theorem good12 {E:Env} {L':Bx} {E':Env} (hi:∀X,evC (EF pg) (.sq (.rg [s_ 1 (.bx (.t 0)),s_ 2 (.mv (I 0))]) (.sq (.rg [s_ 8 (.mf 33 [(.t 1)]),s_ 3 (.al [.nilFunc]),n_ (.st 1 (.t 3) (.t 8))]) (.sq (.rg [s_ 9 (.mf 34 [(.t 1),(.t 3)]),s_ 4 (.mv (.t 9))]) (.sq (.rg [s_ 10 (.mf 36 [(.t 1)]),s_ 5 (.mv (.t 10))]) (.sq (.rg [s_ 11 (.mf 38 [(.t 3)]),s_ 6 (.mv (.t 11))]) (.sq (.rg [s_ 12 (.mkn 1500012),s_ 7 (.mv (.t 12))]) X)))))) ⟨[(0,.agg [.v (.int .i64 a),.v (.int .i64 b),.v (.int .i64 c),.v (.int .i64 d),.v (.int .u32 n),.sl (mo m1) z1 es1,.sl (mo m2) z2 es2,.sl (mo m3) z3 es3])],[],B⟩=evC (EF pg) X ⟨E,[(1,[.v (.int .i64 a),.v (.int .i64 b),.v (.int .i64 c),.v (.int .i64 d),.v (.int .u32 n),.sl (mo m1) z1 es1,.sl (mo m2) z2 es2,.sl (mo m3) z3 es3]),(3,[.clo 33 [.ptr B.length 1 0]]),(1500012,[])],B⟩)
  (h:evC (EF pg) (.sq (.sq (.rg [s_ 14 (.fa (.t 1) 0),s_ 15 (.ld none (.t 14)),s_ 16 (.call 23 [(.t 15)]),s_ 17 (.no (.t 16)),s_ 13 (.mv (.t 17))]) (.ff (.t 13) .sk (.sq (.rg [s_ 18 (.fa (.t 1) 1),s_ 19 (.ld (some 3) (.t 18)),s_ 20 (.call 39 [(.t 19)]),s_ 21 (.no (.t 20)),s_ 13 (.mv (.t 21))]) (.ff (.t 13) .sk (.sq (.rg [s_ 22 (.fa (.t 1) 4),s_ 23 (.ld none (.t 22)),s_ 24 (.bin .eql (.t 23) (.c (.int .u32 0))),s_ 13 (.mv (.t 24))]) (.ff (.t 13) .sk (.sq (.rg [s_ 25 (.fa (.t 1) 5),s_ 26 (.ld none (.t 25)),s_ 27 (.len (.t 26)),s_ 28 (.bin .gtr (.t 27) (I 8)),s_ 13 (.mv (.t 28))]) (.ff (.t 13) .sk (.sq (.rg [s_ 29 (.fa (.t 1) 6),s_ 30 (.ld none (.t 29)),s_ 31 (.len (.t 30)),s_ 32 (.bin .gtr (.t 31) (I 8)),s_ 13 (.mv (.t 32))]) (.ff (.t 13) .sk (.rg [s_ 33 (.fa (.t 1) 7),s_ 34 (.ld none (.t 33)),s_ 35 (.len (.t 34)),s_ 36 (.bin .gtr (.t 35) (I 16)),s_ 13 (.mv (.t 36))]))))))))))) (.ff (.t 13) .sk (.sq (.sq (.rg [s_ 38 (.fa (.t 1) 5),s_ 39 (.ld none (.t 38)),s_ 40 (.mv (.t 4)),s_ 41 (.call 40 [(.t 39),(.t 40)]),s_ 37 (.mv (.t 41))]) (.ff (.t 37) .sk (.sq (.rg [s_ 42 (.fa (.t 1) 6),s_ 43 (.ld none (.t 42)),s_ 44 (.mv (.t 5)),s_ 45 (.call 41 [(.t 43),(.t 44)]),s_ 37 (.mv (.t 45))]) (.ff (.t 37) .sk (.rg [s_ 46 (.fa (.t 1) 7),s_ 47 (.ld none (.t 46)),s_ 48 (.mv (.t 6)),s_ 49 (.call 42 [(.t 47),(.t 48)]),s_ 37 (.mv (.t 49))]))))) (.ff (.t 37) .sk (.sq (.sq (.rg [s_ 51 (.fa (.t 1) 5),s_ 52 (.ld none (.t 51)),s_ 53 (.mkn 1500053),s_ 54 (.call 43 [(.t 52),(.f 44),(.t 53)]),s_ 50 (.mv (.t 54))]) (.ff (.t 50) .sk (.sq (.rg [s_ 55 (.fa (.t 1) 6),s_ 56 (.ld none (.t 55)),s_ 57 (.mv (.t 7)),s_ 58 (.call 45 [(.t 56),(.f 46),(.t 57)]),s_ 50 (.mv (.t 58))]) (.ff (.t 50) .sk (.rg [s_ 59 (.fa (.t 1) 7),s_ 60 (.ld none (.t 59)),s_ 61 (.mv (.t 7)),s_ 62 (.call 47 [(.t 60),(.f 48),(.t 61)]),s_ 50 (.mv (.t 62))]))))) (.ff (.t 50) .sk (.sq (.rg [s_ 2 (.mv (I 0))]) .rt))))))) ⟨E,[(1,[.v (.int .i64 a),.v (.int .i64 b),.v (.int .i64 c),.v (.int .i64 d),.v (.int .u32 n),.sl (mo m1) z1 es1,.sl (mo m2) z2 es2,.sl (mo m3) z3 es3]),(3,[.clo 33 [.ptr B.length 1 0]]),(1500012,[])],B⟩=some (.rt,⟨(2,.v (.int .i64 0))::E',L',B⟩)):EF pg 12 [.agg [.v (.int .i64 a),.v (.int .i64 b),.v (.int .i64 c),.v (.int .i64 d),.v (.int .u32 n),.sl (mo m1) z1 es1,.sl (mo m2) z2 es2,.sl (mo m3) z3 es3]] B=some (.v (.int .i64 0),B):=by
 have hb:evC (EF pg) (.bl 0 (.sq (.sq (.rg [s_ 14 (.fa (.t 1) 0),s_ 15 (.ld none (.t 14)),s_ 16 (.call 23 [(.t 15)]),s_ 17 (.no (.t 16)),s_ 13 (.mv (.t 17))]) (.ff (.t 13) .sk (.sq (.rg [s_ 18 (.fa (.t 1) 1),s_ 19 (.ld (some 3) (.t 18)),s_ 20 (.call 39 [(.t 19)]),s_ 21 (.no (.t 20)),s_ 13 (.mv (.t 21))]) (.ff (.t 13) .sk (.sq (.rg [s_ 22 (.fa (.t 1) 4),s_ 23 (.ld none (.t 22)),s_ 24 (.bin .eql (.t 23) (.c (.int .u32 0))),s_ 13 (.mv (.t 24))]) (.ff (.t 13) .sk (.sq (.rg [s_ 25 (.fa (.t 1) 5),s_ 26 (.ld none (.t 25)),s_ 27 (.len (.t 26)),s_ 28 (.bin .gtr (.t 27) (I 8)),s_ 13 (.mv (.t 28))]) (.ff (.t 13) .sk (.sq (.rg [s_ 29 (.fa (.t 1) 6),s_ 30 (.ld none (.t 29)),s_ 31 (.len (.t 30)),s_ 32 (.bin .gtr (.t 31) (I 8)),s_ 13 (.mv (.t 32))]) (.ff (.t 13) .sk (.rg [s_ 33 (.fa (.t 1) 7),s_ 34 (.ld none (.t 33)),s_ 35 (.len (.t 34)),s_ 36 (.bin .gtr (.t 35) (I 16)),s_ 13 (.mv (.t 36))]))))))))))) (.ff (.t 13) .sk (.sq (.sq (.rg [s_ 38 (.fa (.t 1) 5),s_ 39 (.ld none (.t 38)),s_ 40 (.mv (.t 4)),s_ 41 (.call 40 [(.t 39),(.t 40)]),s_ 37 (.mv (.t 41))]) (.ff (.t 37) .sk (.sq (.rg [s_ 42 (.fa (.t 1) 6),s_ 43 (.ld none (.t 42)),s_ 44 (.mv (.t 5)),s_ 45 (.call 41 [(.t 43),(.t 44)]),s_ 37 (.mv (.t 45))]) (.ff (.t 37) .sk (.rg [s_ 46 (.fa (.t 1) 7),s_ 47 (.ld none (.t 46)),s_ 48 (.mv (.t 6)),s_ 49 (.call 42 [(.t 47),(.t 48)]),s_ 37 (.mv (.t 49))]))))) (.ff (.t 37) .sk (.sq (.sq (.rg [s_ 51 (.fa (.t 1) 5),s_ 52 (.ld none (.t 51)),s_ 53 (.mkn 1500053),s_ 54 (.call 43 [(.t 52),(.f 44),(.t 53)]),s_ 50 (.mv (.t 54))]) (.ff (.t 50) .sk (.sq (.rg [s_ 55 (.fa (.t 1) 6),s_ 56 (.ld none (.t 55)),s_ 57 (.mv (.t 7)),s_ 58 (.call 45 [(.t 56),(.f 46),(.t 57)]),s_ 50 (.mv (.t 58))]) (.ff (.t 50) .sk (.rg [s_ 59 (.fa (.t 1) 7),s_ 60 (.ld none (.t 59)),s_ 61 (.mv (.t 7)),s_ 62 (.call 47 [(.t 60),(.f 48),(.t 61)]),s_ 50 (.mv (.t 62))]))))) (.ff (.t 50) .sk (.sq (.rg [s_ 2 (.mv (I 0))]) .rt)))))))) ⟨E,[(1,[.v (.int .i64 a),.v (.int .i64 b),.v (.int .i64 c),.v (.int .i64 d),.v (.int .u32 n),.sl (mo m1) z1 es1,.sl (mo m2) z2 es2,.sl (mo m3) z3 es3]),(3,[.clo 33 [.ptr B.length 1 0]]),(1500012,[])],B⟩=some (.rt,⟨(2,.v (.int .i64 0))::E',L',B⟩):=by
  rw[evC,h]
 refine run12 (s':=⟨(2,.v (.int .i64 0))::E',L',B⟩) ?_ rfl rfl
 rw[show c12=_ from rfl]
 unfold c12
 rw[hi,sq_rtx hb]
end
theorem x12 {x:Ltp} {cells:List D} (hz:RepL (EF pg) YL [] x cells) {y:Int} (hy:g12 x=some y) (B:List Bx):EF pg 12 [.agg cells] B=some (.v (.int .i64 y),B)∧(y=0∨y=260):=by
 have hz0:=hz
 obtain⟨a,b,c,d,n,l1,l2,l3⟩:=x
 obtain⟨_,d1,q,rfl,r1,hz⟩:=hz
 obtain⟨_,d2,q,rfl,r2,hz⟩:=hz
 obtain⟨_,d3,q,rfl,r3,hz⟩:=hz
 obtain⟨_,d4,q,rfl,r4,hz⟩:=hz
 obtain⟨_,d5,q,rfl,r5,hz⟩:=hz
 obtain⟨_,d6,q,rfl,r6,hz⟩:=hz
 obtain⟨_,d7,q,rfl,r7,hz⟩:=hz
 obtain⟨d8,rfl⟩:=one_sing rfl hz
 obtain⟨rfl,ka⟩:=i_d r1
 obtain⟨rfl,kb⟩:=i_d r2
 obtain⟨rfl,kc⟩:=i_d r3
 obtain⟨rfl,kd⟩:=i_d r4
 obtain⟨rfl,_⟩:=i_d r5
 obtain⟨m1,z1,es1,rfl,hz1,ha1⟩:=ls_inv r6
 obtain⟨m2,z2,es2,rfl,hz2,ha2⟩:=ls_inv r7
 obtain⟨m3,z3,es3,rfl,hz3,ha3⟩:=ls_inv hz
 have n1:=ha1.length
 have n2:=ha2.length
 have n3:=ha3.length
 obtain⟨E,hi,gd⟩:=x12i (B:=B) (a:=a) (b:=b) (c:=c) (d:=d) (n:=n) (m1:=m1) (m2:=m2) (m3:=m3) (z1:=z1) (z2:=z2) (z3:=z3) (es1:=es1) (es2:=es2) (es3:=es3)
 have p23:=fun B=>x23 a ka B
 have p39:=fun B=>x39 (r:=(b,c,d)) (d:=.agg [.v (.int .i64 b),.v (.int .i64 c),.v (.int .i64 d)]) ⟨rfl,_,rfl,⟨rfl,rfl⟩,_,_,rfl,⟨rfl,kb⟩,⟨rfl,rfl⟩,_,_,rfl,⟨rfl,kc⟩,⟨rfl,kd⟩⟩ B
 obtain⟨EA,kA,gA,tA⟩:=x12A (a:=a) (b:=b) (c:=c) (d:=d) (n:=n) (m1:=m1) (m2:=m2) (m3:=m3) (z1:=z1) (z2:=z2) (z3:=z3) (es1:=es1) (es2:=es2) (es3:=es3) gd p23 p39
 have hy:g12 (a,b,c,d,n,l1,l2,l3)=some y:=hy
 unfold g12 at hy
 simp only at hy n1 n2 n3
 rw[n1,n2,n3]at hy
 split at hy
 ·rename_i hc
  obtain rfl:=Option.some.inj hy
  rw[hc]at tA
  exact⟨bad12 hi (sw_t kA tA),.inr rfl⟩
 ·rename_i hc
  have hc:=Bool.eq_false_iff.2 hc
  rw[hc]at tA
  have fA:=fun X=>sw_f (X:=X) kA tA
  have hle:es1.length<=8∧es2.length<=8∧es3.length<=16:=by
   simp only[Bool.or_eq_false_iff,decide_eq_false_iff_not]at hc
   omega
  obtain⟨b1,w1,hy⟩:=Option.bind_eq_some_iff.1 hy
  obtain⟨E1,k1,gd1,t1⟩:=x12b1 (a:=a) (b:=b) (c:=c) (d:=d) (n:=n) (m1:=m1) (m2:=m2) (m3:=m3) (z1:=z1) (z2:=z2) (z3:=z3) (es1:=es1) (es2:=es2) (es3:=es3) (k12:=[]) gA (x40 r6 hz0 rfl rfl w1)
  cases b1 with
  |true=>
   obtain rfl:=Option.some.inj hy
   exact⟨bad12 hi ((fA _).trans (sw_t (or_t k1 t1) t1)),.inr rfl⟩
  |false=>
  simp only[Bool.false_eq_true,if_false]at hy
  obtain⟨b2,w2,hy⟩:=Option.bind_eq_some_iff.1 hy
  obtain⟨E2,k2,gd2,t2⟩:=x12b2 (a:=a) (b:=b) (c:=c) (d:=d) (n:=n) (m1:=m1) (m2:=m2) (m3:=m3) (z1:=z1) (z2:=z2) (z3:=z3) (es1:=es1) (es2:=es2) (es3:=es3) (k12:=[]) gd1 (x41 r7 hz0 rfl rfl w2)
  cases b2 with
  |true=>
   obtain rfl:=Option.some.inj hy
   exact⟨bad12 hi ((fA _).trans (sw_t ((or_f k1 t1).trans (or_t k2 t2)) t2)),.inr rfl⟩
  |false=>
  simp only[Bool.false_eq_true,if_false]at hy
  obtain⟨b3,w3,hy⟩:=Option.bind_eq_some_iff.1 hy
  obtain⟨E3,k3,gd3,t3⟩:=x12b3 (a:=a) (b:=b) (c:=c) (d:=d) (n:=n) (m1:=m1) (m2:=m2) (m3:=m3) (z1:=z1) (z2:=z2) (z3:=z3) (es1:=es1) (es2:=es2) (es3:=es3) (k12:=[]) gd2 (x42 hz hz0 rfl rfl w3)
  cases b3 with
  |true=>
   obtain rfl:=Option.some.inj hy
   exact⟨bad12 hi ((fA _).trans (sw_t ((or_f k1 t1).trans ((or_f k2 t2).trans (rg_ok k3))) t3)),.inr rfl⟩
  |false=>
  simp only[Bool.false_eq_true,if_false]at hy
  have fB:=fun X=>(fA _).trans (sw_f (X:=X) ((or_f k1 t1).trans ((or_f k2 t2).trans (rg_ok k3))) t3)
  have q43:=x43 (f:=B.length) (b:=1500053) (m:=m1) hz1 (by omega) (ps:=l1.map h44) (by simpa using n1) (elks o44 rfl rfl ha1) (ks:=[]) (B:=B++[[(1,[.v (.int .i64 a),.v (.int .i64 b),.v (.int .i64 c),.v (.int .i64 d),.v (.int .u32 n),.sl (mo m1) z1 es1,.sl (mo m2) z2 es2,.sl (mo m3) z3 es3]),(3,[.clo 33 [.ptr B.length 1 0]]),(1500012,[]),(1500053,[])]]) get_last rfl (by simp)
  rw[mod_last]at q43
  obtain⟨E4,k4,gd4,t4⟩:=x12c1 (a:=a) (b:=b) (c:=c) (d:=d) (n:=n) (m1:=m1) (m2:=m2) (m3:=m3) (z1:=z1) (z2:=z2) (z3:=z3) (es1:=es1) (es2:=es2) (es3:=es3) (k12:=[]) gd3 (k:=keyD (twI (l1.map h44) []).2) (y:=(twI (l1.map h44) []).1) q43
  cases c1:(twI (l1.map h44) []).1 with
  |true=>
   rw[c1]at t4
   rw[if_pos c1]at hy
   obtain rfl:=Option.some.inj hy
   exact⟨bad12 hi ((fB _).trans (sw_t (or_t k4 t4) t4)),.inr rfl⟩
  |false=>
  rw[c1]at t4
  rw[if_neg (by rw[c1];exact Bool.false_ne_true)]at hy
  have q45:=x45 (f:=B.length) (b:=1500012) (m:=m2) hz2 (by omega) (ps:=l2.map h46) (by simpa using n2) (elks o46 rfl rfl ha2) (ks:=[]) (B:=B++[[(1,[.v (.int .i64 a),.v (.int .i64 b),.v (.int .i64 c),.v (.int .i64 d),.v (.int .u32 n),.sl (mo m1) z1 es1,.sl (mo m2) z2 es2,.sl (mo m3) z3 es3]),(3,[.clo 33 [.ptr B.length 1 0]]),(1500012,[]),(1500053,keyD (twI (l1.map h44) []).2)]]) get_last rfl (by simp)
  rw[mod_last]at q45
  obtain⟨E5,k5,gd5,t5⟩:=x12c2 (a:=a) (b:=b) (c:=c) (d:=d) (n:=n) (m1:=m1) (m2:=m2) (m3:=m3) (z1:=z1) (z2:=z2) (z3:=z3) (es1:=es1) (es2:=es2) (es3:=es3) (k12:=[]) gd4 (k:=keyD (twI (l2.map h46) []).2) (y:=(twI (l2.map h46) []).1) q45
  cases c2:(twI (l2.map h46) []).1 with
  |true=>
   rw[c2]at t5
   rw[if_pos c2]at hy
   obtain rfl:=Option.some.inj hy
   exact⟨bad12 hi ((fB _).trans (sw_t ((or_f k4 t4).trans (or_t k5 t5)) t5)),.inr rfl⟩
  |false=>
  rw[c2]at t5
  rw[if_neg (by rw[c2];exact Bool.false_ne_true)]at hy
  have q47:=x47 (f:=B.length) (b:=1500012) (m:=m3) hz3 (by omega) (ps:=l3.map h48) (by simpa using n3) (elks o48 rfl rfl ha3) (ks:=(twI (l2.map h46) []).2) (B:=B++[[(1,[.v (.int .i64 a),.v (.int .i64 b),.v (.int .i64 c),.v (.int .i64 d),.v (.int .u32 n),.sl (mo m1) z1 es1,.sl (mo m2) z2 es2,.sl (mo m3) z3 es3]),(3,[.clo 33 [.ptr B.length 1 0]]),(1500012,keyD (twI (l2.map h46) []).2),(1500053,keyD (twI (l1.map h44) []).2)]]) get_last rfl (by simp)
  rw[mod_last]at q47
  obtain⟨E6,k6,gd6,t6⟩:=x12c3 (a:=a) (b:=b) (c:=c) (d:=d) (n:=n) (m1:=m1) (m2:=m2) (m3:=m3) (z1:=z1) (z2:=z2) (z3:=z3) (es1:=es1) (es2:=es2) (es3:=es3) gd5 (k:=keyD (twI (l3.map h48) (twI (l2.map h46) []).2).2) (y:=(twI (l3.map h48) (twI (l2.map h46) []).2).1) q47
  cases c3:(twI (l3.map h48) (twI (l2.map h46) []).2).1 with
  |true=>
   rw[c3]at t6
   rw[if_pos c3]at hy
   obtain rfl:=Option.some.inj hy
   exact⟨bad12 hi ((fB _).trans (sw_t ((or_f k4 t4).trans ((or_f k5 t5).trans (rg_ok k6))) t6)),.inr rfl⟩
  |false=>
   rw[c3]at t6
   rw[if_neg (by rw[c3];exact Bool.false_ne_true)]at hy
   obtain rfl:=Option.some.inj hy
   exact⟨good12 hi ((fB _).trans ((sw_f ((or_f k4 t4).trans ((or_f k5 t5).trans (rg_ok k6))) t6).trans rfl)),.inl rfl⟩
theorem o12:TOK (EF pg) 12 tf12:=by
 refine⟨fun F n rg K Y hc hK x ds harg y hy=>?_,trivial⟩
 have ha:∃d,ds=[d]∧rg=[]∧Y=[]∧Rep3 ⟨EF pg,F,n,rg,K⟩ (valW YLtp x) d:=by
  have harg:ArgL ⟨EF pg,F,n,rg,K⟩ [.v YLtp] [valW YLtp x] ds rg Y:=harg
  cases ds with
  |nil=>cases rg<;>cases Y<;>exact harg.elim
  |cons d q=>
   have h2:Rep3 ⟨EF pg,F,n,rg,K⟩ (valW YLtp x) d∧ArgL ⟨EF pg,F,n,rg,K⟩ [] [] q rg Y:=by cases rg<;>cases Y<;>exact harg
   cases q with
   |nil=>cases rg with
    |nil=>cases Y with
     |nil=>exact⟨d,rfl,rfl,rfl,h2.1⟩
     |cons=>exact h2.2.elim
    |cons=>cases Y<;>exact h2.2.elim
   |cons=>cases rg<;>cases Y<;>exact h2.2.elim
 obtain⟨d,rfl,rfl,rfl,hd⟩:=ha
 obtain⟨_,cs,hcs,hrow⟩:=val_inv (τ:=YLtp) rfl hd
 injection hcs with hcs
 subst hcs
 have hrow':RepL (EF pg) YL [] x cs:=RepL.fo (τ:=YL) rfl hrow
 refine⟨.v (.int .i64 y),[],⟨rfl,rfl,?_⟩,trivial,fun B hB hat=>(x12 hrow' hy B).1⟩
 rcases(x12 hrow' hy []).2 with e|e<;>(rw[e];rfl)
end Go.Proofs.Ytfopbiiffiickaa.Ev.U
namespace Go.Proofs.Ytfopbiiffiickaa.Ev.U
open Go
noncomputable def g5x0 (s:(List Ltp)×(List Ltp)×Int×Int):Option (((List Ltp)×(List Ltp)×Int×Int)⊕(Unit⊕Bool)):=
if(decide (s.2.2.2<s.2.2.1))then
((idx s.2.1 s.2.2.2).bind fun y4=>
if(s.2.2.2==(16:Int))then
(some (Sum.inr (Sum.inl ())))
else
((g8 y4).bind fun y6=>
(idx s.1 (0:Int)).bind fun y7=>
(g8 y7).bind fun y8=>
(g10 y6).bind fun y9=>
(g12 y6).bind fun y10=>
(g19 y6 y8).bind fun y11=>
(g14 y6 y8).bind fun y12=>
let x13:=(y11==y12)!=true
(if(!x13)then g20 y6 else some ((0:Int),((0:Int),((0:Int),((0:Int),((0:Int),([],([],[])))))))).bind fun y14=>
(if(!x13)then g19 y6 y14 else some false).bind fun y15=>
if(if(if(if x13 then true else(!y15))then true else(((y10==(0:Int))==y9)!=true))then true else(if(!y9)then(y10 !=(260:Int))else false))then
(some (Sum.inr (Sum.inr (false))))
else
(
some (Sum.inl (s.1,s.2.1,s.2.2.1,(IntKind.i64.wrap (s.2.2.2+(1:Int))))))))
else
(some (Sum.inr (Sum.inl ())))
noncomputable def g5 (a0:List Ltp):Option Bool:=
if(!true)then
(some false)
else
(
(lpU g5x0 (a0,a0,(a0.length:Int),(0:Int))).bind fun z26=>
match z26 with
|Sum.inl z27=>(some true)
|Sum.inr z28=>(some z28))
noncomputable def tf5:TF:=.par ⟨[.v (.l .ro YLtp)],.b⟩ (fun x=>g5 x)
theorem e5:evFn (tabU [(8,tf8),(10,tf10),(12,tf12),(14,tf14),(19,tf19),(20,tf20)]) ⟨F5.res,F5.keep,tf5.sg⟩ T5=fun x=>g5 x:=by kernel_rfl
theorem o5:TOK1 (EF pg) (run1 E5 (EF pg)) tf5:=tok_run rfl (tabU_cons o8 (tabU_cons o10 (tabU_cons o12 (tabU_cons o14 (tabU_cons o19 (tabU_cons o20 (tabU_nil))))))) ⟨rfl,rfl,by decide⟩ rfl (rndOk_of rfl) fun x y h=>(congrFun e5 x).trans h
theorem v5 (ds:List D):EF pg 5 ds []=run1 E5 (EF pg) ds []:=(EF_run1 p5 rfl ds []).trans (wk_run1 (F:=F5) (F':=E5) wakes_ok rfl rfl ds)
end Go.Proofs.Ytfopbiiffiickaa.Ev.U
