import Derived.Test.YtkjoolaahocgdaaGreatGWiK9
import Derived.Test.YtkjoolaahocgdaaGreatGWiA7
namespace Go.Proofs.YtkjoolaahocgdaaGreat
open Go.Av Go.Proofs
set_option maxRecDepth 20000
set_option maxHeartbeats 16000000 in
theorem kn_i (Q:Exit→Fr→Heap→Prop) (h:AWP Tryz.prog F10.n 0 (aG [1] (aG [1] (aG [1] (aG [1] (aG [1] (aG [1] (aG [1] (aG [1] (aG [1,1,1,1,1,1] F10.code))))))))) Q ((11,pgV lG)::kF) []):AWP Tryz.prog F10.n 0 (aG [1] (aG [1] (aG [1] (aG [1] (aG [1] (aG [1] (aG [1] (aG [1,1,1,1,1,1] F10.code)))))))) Q (kF) []:=by
 show AWP _ _ _ (.seq (.draw _ _) _) _ _ _
 have h1:=cP 3 1 1 1
 have h2:=cP 3 1 2 3
 unfold aJ at h1 h2
 unfold kF
 refine AWP.seq ?_
 refine AWP.lin3 (.take 0 (.pure 1 (.pure 2 (.take 3 (.take 5 (.take 6 (.alt 4 (.alt 7 (.alt 8 (.only 9 (.only 10 .nil)) (.alt 9 (.only 8 (.only 10 .nil)) .no)) (.alt 9 (.only 7 (.only 8 (.only 10 .nil))) .no)) (.alt 7 (.alt 4 (.alt 8 (.only 9 (.only 10 .nil)) (.alt 9 (.only 8 (.only 10 .nil)) .no)) (.alt 9 (.only 4 (.only 8 (.only 10 .nil))) .no)) (.alt 9 (.alt 4 (.only 7 (.only 8 (.only 10 .nil))) (.alt 7 (.only 4 (.only 8 (.only 10 .nil))) .no)) .no))))))))) mixed (by kernel_rfl) (by kernel_rfl) ?_
 (refine aN ?_; refine LP3.a ?_ (LP3.a ?_ (LP3.a ?_ LP3.n)); (focus (refine aN ?_; refine LP3.a ?_ (LP3.a ?_ LP3.n); (focus (refine aN ?_; refine LP3.a ?_ (LP3.a ?_ LP3.n); (focus ((refine aN ?_; refine RT.cc (Nat.zero_le _) rfl (HW (aU [aF,mA 3 1 1 1,mA 3 1 2 3,aF]) (aU [aF,aF]) 4 2) ?_; rintro res H' ⟨rfl,rfl⟩; refine⟨(by repeat (first | exact trivial | exact bD.refl _ _ | refine And.intro rfl ?_)),?_⟩; refine aN ?_; refine AWP.sub ?_ h; unfold kF pgV; refine Sub.to [] [] ?_ trivial rfl rfl rfl; refine aB.cons ?_ ((aB.cons (To.pure (pv (.cptr (aJ aF)))) (aB.cons (To.pure (pv (.cptr (aJ aL)))) (aB.cons (To.pure (pv (.cptr (aJ aSt)))) (aB.cons (To.pure (pv (.cptr (aJ aPo)))) (aB.cons (To.pure (pv (.cptr [.sc (.int .i64 0),.sc (.int .i64 0)]))) (aB.cons (To.pure (pv (.cptr [.sc (.int .i64 0),.sc (.int .i64 1)]))) aB.nil))))))); exact(To.fzp rfl rfl rfl (To.cptrL (ToL.cons (.sc _) (ToL.cons (To.fzT rfl rfl rfl (To.listR (ToR.cons (ToL.cons (To.fz rfl rfl rfl (rfl) (prs _)) ToL.nil) (ToR.cons (ToL.cons (To.fz rfl rfl rfl (rfl) (prs _)) ToL.nil) ToR.nil)))) ToL.nil))))))); (focus ((refine aN ?_; refine RT.cc (Nat.zero_le _) rfl (HS (aU [aF,mA 3 1 1 1,mA 3 1 2 3,aF]) (aU [aF,aF]) 4 2) ?_; rintro res H' ⟨rfl,rfl⟩; refine⟨(by repeat (first | exact trivial | exact bD.refl _ _ | refine And.intro rfl ?_)),?_⟩; refine aN ?_; refine AWP.sub ?_ h; unfold kF pgV; refine Sub.to [] [] ?_ trivial rfl rfl rfl; refine aB.cons ?_ ((aB.cons (To.pure (pv (.cptr (aJ aF)))) (aB.cons (To.pure (pv (.cptr (aJ aL)))) (aB.cons (To.pure (pv (.cptr (aJ aSt)))) (aB.cons (To.pure (pv (.cptr (aJ aPo)))) (aB.cons (To.pure (pv (.cptr [.sc (.int .i64 0),.sc (.int .i64 0)]))) (aB.cons (To.pure (pv (.cptr [.sc (.int .i64 0),.sc (.int .i64 1)]))) aB.nil))))))); exact(To.fzp rfl rfl rfl (To.cptrL (ToL.cons (.sc _) (ToL.cons (To.fzT rfl rfl rfl (To.listR (ToR.cons (ToL.cons (To.fz rfl rfl rfl (rfl) (prs _)) ToL.nil) (ToR.cons (ToL.cons (To.fz rfl rfl rfl (rfl) (prs _)) ToL.nil) ToR.nil)))) ToL.nil))))))))); (focus ((refine aN ?_; refine RT.cc (Nat.zero_le _) rfl (HP (aU [aF,mA 3 1 1 1,mA 3 1 2 3,aF]) (aU [aF,aF]) 4 2) ?_; rintro res H' ⟨rfl,rfl⟩; refine⟨(by repeat (first | exact trivial | exact bD.refl _ _ | refine And.intro rfl ?_)),?_⟩; refine aN ?_; refine AWP.sub ?_ h; unfold kF pgV; refine Sub.to [] [] ?_ trivial rfl rfl rfl; refine aB.cons ?_ ((aB.cons (To.pure (pv (.cptr (aJ aF)))) (aB.cons (To.pure (pv (.cptr (aJ aL)))) (aB.cons (To.pure (pv (.cptr (aJ aSt)))) (aB.cons (To.pure (pv (.cptr (aJ aPo)))) (aB.cons (To.pure (pv (.cptr [.sc (.int .i64 0),.sc (.int .i64 0)]))) (aB.cons (To.pure (pv (.cptr [.sc (.int .i64 0),.sc (.int .i64 1)]))) aB.nil))))))); exact(To.fzp rfl rfl rfl (To.cptrL (ToL.cons (.sc _) (ToL.cons (To.fzT rfl rfl rfl (To.listR (ToR.cons (ToL.cons (To.fz rfl rfl rfl (rfl) (prs _)) ToL.nil) (ToR.cons (ToL.cons (To.fz rfl rfl rfl (rfl) (prs _)) ToL.nil) ToR.nil)))) ToL.nil))))))))); (focus (refine aN ?_; refine LP3.a ?_ (LP3.a ?_ LP3.n); (focus (refine aN ?_; refine LP3.a ?_ (LP3.a ?_ LP3.n); (focus ((refine aN ?_; refine RT.cc (Nat.zero_le _) rfl (F5 (aU [aF,mA 3 1 1 1,mA 3 1 2 3,aF]) (aU [aF,aF]) 4 2) ?_; rintro res H' ⟨rfl,rfl⟩; refine⟨(by repeat (first | exact trivial | exact bD.refl _ _ | refine And.intro rfl ?_)),?_⟩; refine aN ?_; refine AWP.sub ?_ h; unfold kF pgV; refine Sub.to [] [] ?_ trivial rfl rfl rfl; refine aB.cons ?_ ((aB.cons (To.pure (pv (.cptr (aJ aF)))) (aB.cons (To.pure (pv (.cptr (aJ aL)))) (aB.cons (To.pure (pv (.cptr (aJ aSt)))) (aB.cons (To.pure (pv (.cptr (aJ aPo)))) (aB.cons (To.pure (pv (.cptr [.sc (.int .i64 0),.sc (.int .i64 0)]))) (aB.cons (To.pure (pv (.cptr [.sc (.int .i64 0),.sc (.int .i64 1)]))) aB.nil))))))); exact(To.fzp rfl rfl rfl (To.cptrL (ToL.cons (.sc _) (ToL.cons (To.fzT rfl rfl rfl (To.listR (ToR.cons (ToL.cons (To.fz rfl rfl rfl (rfl) (prs _)) ToL.nil) (ToR.cons (ToL.cons (To.fz rfl rfl rfl (rfl) (prs _)) ToL.nil) ToR.nil)))) ToL.nil))))))); (focus ((refine aN ?_; refine RT.cc (Nat.zero_le _) rfl (GI (aU [aF,mA 3 1 1 1,mA 3 1 2 3,aF]) (aU [aF,aF]) 4 2) ?_; rintro res H' ⟨rfl,rfl⟩; refine⟨(by repeat (first | exact trivial | exact bD.refl _ _ | refine And.intro rfl ?_)),?_⟩; refine aN ?_; refine AWP.sub ?_ h; unfold kF pgV; refine Sub.to [] [] ?_ trivial rfl rfl rfl; refine aB.cons ?_ ((aB.cons (To.pure (pv (.cptr (aJ aF)))) (aB.cons (To.pure (pv (.cptr (aJ aL)))) (aB.cons (To.pure (pv (.cptr (aJ aSt)))) (aB.cons (To.pure (pv (.cptr (aJ aPo)))) (aB.cons (To.pure (pv (.cptr [.sc (.int .i64 0),.sc (.int .i64 0)]))) (aB.cons (To.pure (pv (.cptr [.sc (.int .i64 0),.sc (.int .i64 1)]))) aB.nil))))))); exact(To.fzp rfl rfl rfl (To.cptrL (ToL.cons (.sc _) (ToL.cons (To.fzT rfl rfl rfl (To.listR (ToR.cons (ToL.cons (To.fz rfl rfl rfl (rfl) (prs _)) ToL.nil) (ToR.cons (ToL.cons (To.fz rfl rfl rfl (rfl) (prs _)) ToL.nil) ToR.nil)))) ToL.nil))))))))); (focus ((refine aN ?_; refine RT.cc (Nat.zero_le _) rfl (G1 (aU [aF,mA 3 1 1 1,mA 3 1 2 3,aF]) (aU [aF,aF]) 4 2) ?_; rintro res H' ⟨rfl,rfl⟩; refine⟨(by repeat (first | exact trivial | exact bD.refl _ _ | refine And.intro rfl ?_)),?_⟩; refine aN ?_; refine AWP.sub ?_ h; unfold kF pgV; refine Sub.to [] [] ?_ trivial rfl rfl rfl; refine aB.cons ?_ ((aB.cons (To.pure (pv (.cptr (aJ aF)))) (aB.cons (To.pure (pv (.cptr (aJ aL)))) (aB.cons (To.pure (pv (.cptr (aJ aSt)))) (aB.cons (To.pure (pv (.cptr (aJ aPo)))) (aB.cons (To.pure (pv (.cptr [.sc (.int .i64 0),.sc (.int .i64 0)]))) (aB.cons (To.pure (pv (.cptr [.sc (.int .i64 0),.sc (.int .i64 1)]))) aB.nil))))))); exact(To.fzp rfl rfl rfl (To.cptrL (ToL.cons (.sc _) (ToL.cons (To.fzT rfl rfl rfl (To.listR (ToR.cons (ToL.cons (To.fz rfl rfl rfl (rfl) (prs _)) ToL.nil) (ToR.cons (ToL.cons (To.fz rfl rfl rfl (rfl) (prs _)) ToL.nil) ToR.nil)))) ToL.nil))))))))); (focus (refine aN ?_; refine LP3.a ?_ (LP3.a ?_ LP3.n); (focus ((refine aN ?_; refine RT.cc (Nat.zero_le _) rfl (HA (aU [aF,mA 3 1 1 1,mA 3 1 2 3,aF]) (aU [aF,aF]) 4 2) ?_; rintro res H' ⟨rfl,rfl⟩; refine⟨(by repeat (first | exact trivial | exact bD.refl _ _ | refine And.intro rfl ?_)),?_⟩; refine aN ?_; refine AWP.sub ?_ h; unfold kF pgV; refine Sub.to [] [] ?_ trivial rfl rfl rfl; refine aB.cons ?_ ((aB.cons (To.pure (pv (.cptr (aJ aF)))) (aB.cons (To.pure (pv (.cptr (aJ aL)))) (aB.cons (To.pure (pv (.cptr (aJ aSt)))) (aB.cons (To.pure (pv (.cptr (aJ aPo)))) (aB.cons (To.pure (pv (.cptr [.sc (.int .i64 0),.sc (.int .i64 0)]))) (aB.cons (To.pure (pv (.cptr [.sc (.int .i64 0),.sc (.int .i64 1)]))) aB.nil))))))); exact(To.fzp rfl rfl rfl (To.cptrL (ToL.cons (.sc _) (ToL.cons (To.fzT rfl rfl rfl (To.listR (ToR.cons (ToL.cons (To.fz rfl rfl rfl (rfl) (prs _)) ToL.nil) (ToR.cons (ToL.cons (To.fz rfl rfl rfl (rfl) (prs _)) ToL.nil) ToR.nil)))) ToL.nil))))))); (focus ((refine aN ?_; refine RT.cc (Nat.zero_le _) rfl (GK (aU [aF,mA 3 1 1 1,mA 3 1 2 3,aF]) (aU [aF,aF]) 4 2) ?_; rintro res H' ⟨rfl,rfl⟩; refine⟨(by repeat (first | exact trivial | exact bD.refl _ _ | refine And.intro rfl ?_)),?_⟩; refine aN ?_; refine AWP.sub ?_ h; unfold kF pgV; refine Sub.to [] [] ?_ trivial rfl rfl rfl; refine aB.cons ?_ ((aB.cons (To.pure (pv (.cptr (aJ aF)))) (aB.cons (To.pure (pv (.cptr (aJ aL)))) (aB.cons (To.pure (pv (.cptr (aJ aSt)))) (aB.cons (To.pure (pv (.cptr (aJ aPo)))) (aB.cons (To.pure (pv (.cptr [.sc (.int .i64 0),.sc (.int .i64 0)]))) (aB.cons (To.pure (pv (.cptr [.sc (.int .i64 0),.sc (.int .i64 1)]))) aB.nil))))))); exact(To.fzp rfl rfl rfl (To.cptrL (ToL.cons (.sc _) (ToL.cons (To.fzT rfl rfl rfl (To.listR (ToR.cons (ToL.cons (To.fz rfl rfl rfl (rfl) (prs _)) ToL.nil) (ToR.cons (ToL.cons (To.fz rfl rfl rfl (rfl) (prs _)) ToL.nil) ToR.nil)))) ToL.nil))))))))))
set_option maxHeartbeats 16000000 in
theorem kn_j (Q:Exit→Fr→Heap→Prop) (h:AWP Tryz.prog F10.n 0 (aG [1] (aG [1] (aG [1] (aG [1] (aG [1] (aG [1] (aG [1] (aG [1] (aG [1] (aG [1,1,1,1,1,1] F10.code)))))))))) Q kF []):AWP Tryz.prog F10.n 0 (aG [1] (aG [1] (aG [1] (aG [1] (aG [1] (aG [1] (aG [1] (aG [1] (aG [1,1,1,1,1,1] F10.code))))))))) Q ((11,pgV lG)::kF) []:=by
 show AWP _ _ _ (.seq (.seq (.region _) _) _) _ _ _
 have e1:=oM lG (POK.of (by decide)) kn15 kn16
 have e2:=tZ lG (POK.of (by decide)) kn15 (by kernel_rfl) 0 3 [] (by decide) _ rfl kn17 (by unfold bC; rw[kn18]; rfl) (by unfold bC; rw[kn18]; rfl) kn19
 unfold dH at e1 e2
 unfold kF pgV
 refine AWP.seq ?_
 refine AWP.seq ?_
 refine AWP.region ?_
 refine bI ?_
 (refine Reg.pv (by first | exact Nat.zero_le _ | exact Nat.le_refl _ | (simp; done) | (simp; omega)) rfl e2 (by first | exact .sc _ | (exact .agg _ (fun c hc=>by simp at hc; rcases hc with h | h<;>subst h<;>exact .sc _)) | assumption) ?vw9 ?_; case vw9=>(all_goals (repeat' (first | exact aB.nil | exact aS.nil | exact aY.nil | exact ToL.nil | exact ToR.nil | refine aB.cons ?_ ?_ | refine aS.cons ?_ ?_ | refine dZ ?_ ?_ | exact To.undef _ | exact To.sc _ | exact To.hslL rfl rfl | exact To.asl _ _ _ _ _ _ rfl | exact To.ptrO rfl rfl rfl | exact To.mrefO rfl | exact To.nil rfl rfl rfl | exact wt1 | exact To.nilL | refine To.int ?_ | refine To.bool ?_ | refine To.hslL rfl ?_ | refine wt2 rfl ?_ ?_ ?_ | refine To.tupL ?_ | refine To.aggL ?_ | refine To.cptrL ?_ | refine To.fzp rfl rfl rfl ?_ | refine To.fzm rfl rfl ?_ | refine To.cloL ?_ ?_ | refine wt3 ?_ | refine wt4 ?_ | exact wt5 | refine wt6 ?_ | refine ToB.one ?_ | exact wt7 | ((with_reducible apply ToL.consE); case e9=>rfl) | refine wt8 ?_ | refine ToL.cons ?_ ?_ | exact wt11 | refine wt9 ?_ ?_ | refine dX ?_ | (with_reducible rfl) | assumption)); all_goals (first | rfl | assumption | (simp; done) | (simp; omega))))
 refine bI ?_
 refine AWP.condF rfl ?_
 refine AWP.skip ?_
 refine AWP.sub ?_ h
 unfold kF
 exact Sub.w [] []
set_option maxHeartbeats 16000000 in
theorem kn_k (Q:Exit→Fr→Heap→Prop) (h:AWP Tryz.prog F10.n 0 (aG [1] (aG [1] (aG [1] (aG [1] (aG [1] (aG [1] (aG [1] (aG [1] (aG [1] (aG [1] (aG [1,1,1,1,1,1] F10.code))))))))))) Q ((12,pgV mQ)::kF) []):AWP Tryz.prog F10.n 0 (aG [1] (aG [1] (aG [1] (aG [1] (aG [1] (aG [1] (aG [1] (aG [1] (aG [1] (aG [1,1,1,1,1,1] F10.code)))))))))) Q (kF) []:=by
 show AWP _ _ _ (.seq (.draw _ _) _) _ _ _
 have h1:=cP 13 1 0 0
 have h2:=cP 1 1 0 4
 have h3:=cP 16 1 0 0
 unfold aJ at h1 h2 h3
 unfold kF
 refine AWP.seq ?_
 refine AWP.lin3 (.pure 0 (.pure 1 (.pure 2 (.take 4 (.alt 3 (.alt 5 (.alt 6 (.only 7 (.only 8 .nil)) (.alt 7 (.only 6 (.only 8 .nil)) .no)) (.alt 7 (.only 5 (.only 6 (.only 8 .nil))) .no)) (.alt 5 (.alt 3 (.alt 6 (.only 7 (.only 8 .nil)) (.alt 7 (.only 6 (.only 8 .nil)) .no)) (.alt 7 (.only 3 (.only 6 (.only 8 .nil))) .no)) (.alt 7 (.alt 3 (.only 5 (.only 6 (.only 8 .nil))) (.alt 5 (.only 3 (.only 6 (.only 8 .nil))) .no)) .no))))))) mixed (by kernel_rfl) (by kernel_rfl) ?_
 (refine aN ?_; refine LP3.a ?_ (LP3.a ?_ (LP3.a ?_ LP3.n)); (focus (refine aN ?_; refine LP3.a ?_ (LP3.a ?_ LP3.n); (focus (refine aN ?_; refine LP3.a ?_ (LP3.a ?_ LP3.n); (focus ((refine aN ?_; refine RT.cc (Nat.zero_le _) rfl (HW (aU [mA 13 1 0 0,mA 1 1 0 4,mA 16 1 0 0]) (aU [aL]) 3 1) ?_; rintro res H' ⟨rfl,rfl⟩; refine⟨(by repeat (first | exact trivial | exact bD.refl _ _ | refine And.intro rfl ?_)),?_⟩; refine aN ?_; refine AWP.sub ?_ h; unfold kF pgV; refine Sub.to [] [] ?_ trivial rfl rfl rfl; refine aB.cons ?_ ((aB.cons (To.pure (pv (.cptr (aJ aF)))) (aB.cons (To.pure (pv (.cptr (aJ aL)))) (aB.cons (To.pure (pv (.cptr (aJ aSt)))) (aB.cons (To.pure (pv (.cptr (aJ aPo)))) (aB.cons (To.pure (pv (.cptr [.sc (.int .i64 0),.sc (.int .i64 0)]))) (aB.cons (To.pure (pv (.cptr [.sc (.int .i64 0),.sc (.int .i64 1)]))) aB.nil))))))); exact(To.fzp rfl rfl rfl (To.cptrL (ToL.cons (.sc _) (ToL.cons (To.fzT rfl rfl rfl (To.listR (ToR.cons (ToL.cons (To.fz rfl rfl rfl (rfl) (prs _)) ToL.nil) (ToR.cons (ToL.cons (To.fz rfl rfl rfl (rfl) (prs _)) ToL.nil) ToR.nil)))) ToL.nil))))))); (focus ((refine aN ?_; refine RT.cc (Nat.zero_le _) rfl (HS (aU [mA 13 1 0 0,mA 1 1 0 4,mA 16 1 0 0]) (aU [aL]) 3 1) ?_; rintro res H' ⟨rfl,rfl⟩; refine⟨(by repeat (first | exact trivial | exact bD.refl _ _ | refine And.intro rfl ?_)),?_⟩; refine aN ?_; refine AWP.sub ?_ h; unfold kF pgV; refine Sub.to [] [] ?_ trivial rfl rfl rfl; refine aB.cons ?_ ((aB.cons (To.pure (pv (.cptr (aJ aF)))) (aB.cons (To.pure (pv (.cptr (aJ aL)))) (aB.cons (To.pure (pv (.cptr (aJ aSt)))) (aB.cons (To.pure (pv (.cptr (aJ aPo)))) (aB.cons (To.pure (pv (.cptr [.sc (.int .i64 0),.sc (.int .i64 0)]))) (aB.cons (To.pure (pv (.cptr [.sc (.int .i64 0),.sc (.int .i64 1)]))) aB.nil))))))); exact(To.fzp rfl rfl rfl (To.cptrL (ToL.cons (.sc _) (ToL.cons (To.fzT rfl rfl rfl (To.listR (ToR.cons (ToL.cons (To.fz rfl rfl rfl (rfl) (prs _)) ToL.nil) (ToR.cons (ToL.cons (To.fz rfl rfl rfl (rfl) (prs _)) ToL.nil) ToR.nil)))) ToL.nil))))))))); (focus ((refine aN ?_; refine RT.cc (Nat.zero_le _) rfl (HP (aU [mA 13 1 0 0,mA 1 1 0 4,mA 16 1 0 0]) (aU [aL]) 3 1) ?_; rintro res H' ⟨rfl,rfl⟩; refine⟨(by repeat (first | exact trivial | exact bD.refl _ _ | refine And.intro rfl ?_)),?_⟩; refine aN ?_; refine AWP.sub ?_ h; unfold kF pgV; refine Sub.to [] [] ?_ trivial rfl rfl rfl; refine aB.cons ?_ ((aB.cons (To.pure (pv (.cptr (aJ aF)))) (aB.cons (To.pure (pv (.cptr (aJ aL)))) (aB.cons (To.pure (pv (.cptr (aJ aSt)))) (aB.cons (To.pure (pv (.cptr (aJ aPo)))) (aB.cons (To.pure (pv (.cptr [.sc (.int .i64 0),.sc (.int .i64 0)]))) (aB.cons (To.pure (pv (.cptr [.sc (.int .i64 0),.sc (.int .i64 1)]))) aB.nil))))))); exact(To.fzp rfl rfl rfl (To.cptrL (ToL.cons (.sc _) (ToL.cons (To.fzT rfl rfl rfl (To.listR (ToR.cons (ToL.cons (To.fz rfl rfl rfl (rfl) (prs _)) ToL.nil) (ToR.cons (ToL.cons (To.fz rfl rfl rfl (rfl) (prs _)) ToL.nil) ToR.nil)))) ToL.nil))))))))); (focus (refine aN ?_; refine LP3.a ?_ (LP3.a ?_ LP3.n); (focus (refine aN ?_; refine LP3.a ?_ (LP3.a ?_ LP3.n); (focus ((refine aN ?_; refine RT.cc (Nat.zero_le _) rfl (F5 (aU [mA 13 1 0 0,mA 1 1 0 4,mA 16 1 0 0]) (aU [aL]) 3 1) ?_; rintro res H' ⟨rfl,rfl⟩; refine⟨(by repeat (first | exact trivial | exact bD.refl _ _ | refine And.intro rfl ?_)),?_⟩; refine aN ?_; refine AWP.sub ?_ h; unfold kF pgV; refine Sub.to [] [] ?_ trivial rfl rfl rfl; refine aB.cons ?_ ((aB.cons (To.pure (pv (.cptr (aJ aF)))) (aB.cons (To.pure (pv (.cptr (aJ aL)))) (aB.cons (To.pure (pv (.cptr (aJ aSt)))) (aB.cons (To.pure (pv (.cptr (aJ aPo)))) (aB.cons (To.pure (pv (.cptr [.sc (.int .i64 0),.sc (.int .i64 0)]))) (aB.cons (To.pure (pv (.cptr [.sc (.int .i64 0),.sc (.int .i64 1)]))) aB.nil))))))); exact(To.fzp rfl rfl rfl (To.cptrL (ToL.cons (.sc _) (ToL.cons (To.fzT rfl rfl rfl (To.listR (ToR.cons (ToL.cons (To.fz rfl rfl rfl (rfl) (prs _)) ToL.nil) (ToR.cons (ToL.cons (To.fz rfl rfl rfl (rfl) (prs _)) ToL.nil) ToR.nil)))) ToL.nil))))))); (focus ((refine aN ?_; refine RT.cc (Nat.zero_le _) rfl (GI (aU [mA 13 1 0 0,mA 1 1 0 4,mA 16 1 0 0]) (aU [aL]) 3 1) ?_; rintro res H' ⟨rfl,rfl⟩; refine⟨(by repeat (first | exact trivial | exact bD.refl _ _ | refine And.intro rfl ?_)),?_⟩; refine aN ?_; refine AWP.sub ?_ h; unfold kF pgV; refine Sub.to [] [] ?_ trivial rfl rfl rfl; refine aB.cons ?_ ((aB.cons (To.pure (pv (.cptr (aJ aF)))) (aB.cons (To.pure (pv (.cptr (aJ aL)))) (aB.cons (To.pure (pv (.cptr (aJ aSt)))) (aB.cons (To.pure (pv (.cptr (aJ aPo)))) (aB.cons (To.pure (pv (.cptr [.sc (.int .i64 0),.sc (.int .i64 0)]))) (aB.cons (To.pure (pv (.cptr [.sc (.int .i64 0),.sc (.int .i64 1)]))) aB.nil))))))); exact(To.fzp rfl rfl rfl (To.cptrL (ToL.cons (.sc _) (ToL.cons (To.fzT rfl rfl rfl (To.listR (ToR.cons (ToL.cons (To.fz rfl rfl rfl (rfl) (prs _)) ToL.nil) (ToR.cons (ToL.cons (To.fz rfl rfl rfl (rfl) (prs _)) ToL.nil) ToR.nil)))) ToL.nil))))))))); (focus ((refine aN ?_; refine RT.cc (Nat.zero_le _) rfl (G1 (aU [mA 13 1 0 0,mA 1 1 0 4,mA 16 1 0 0]) (aU [aL]) 3 1) ?_; rintro res H' ⟨rfl,rfl⟩; refine⟨(by repeat (first | exact trivial | exact bD.refl _ _ | refine And.intro rfl ?_)),?_⟩; refine aN ?_; refine AWP.sub ?_ h; unfold kF pgV; refine Sub.to [] [] ?_ trivial rfl rfl rfl; refine aB.cons ?_ ((aB.cons (To.pure (pv (.cptr (aJ aF)))) (aB.cons (To.pure (pv (.cptr (aJ aL)))) (aB.cons (To.pure (pv (.cptr (aJ aSt)))) (aB.cons (To.pure (pv (.cptr (aJ aPo)))) (aB.cons (To.pure (pv (.cptr [.sc (.int .i64 0),.sc (.int .i64 0)]))) (aB.cons (To.pure (pv (.cptr [.sc (.int .i64 0),.sc (.int .i64 1)]))) aB.nil))))))); exact(To.fzp rfl rfl rfl (To.cptrL (ToL.cons (.sc _) (ToL.cons (To.fzT rfl rfl rfl (To.listR (ToR.cons (ToL.cons (To.fz rfl rfl rfl (rfl) (prs _)) ToL.nil) (ToR.cons (ToL.cons (To.fz rfl rfl rfl (rfl) (prs _)) ToL.nil) ToR.nil)))) ToL.nil))))))))); (focus (refine aN ?_; refine LP3.a ?_ (LP3.a ?_ LP3.n); (focus ((refine aN ?_; refine RT.cc (Nat.zero_le _) rfl (HA (aU [mA 13 1 0 0,mA 1 1 0 4,mA 16 1 0 0]) (aU [aL]) 3 1) ?_; rintro res H' ⟨rfl,rfl⟩; refine⟨(by repeat (first | exact trivial | exact bD.refl _ _ | refine And.intro rfl ?_)),?_⟩; refine aN ?_; refine AWP.sub ?_ h; unfold kF pgV; refine Sub.to [] [] ?_ trivial rfl rfl rfl; refine aB.cons ?_ ((aB.cons (To.pure (pv (.cptr (aJ aF)))) (aB.cons (To.pure (pv (.cptr (aJ aL)))) (aB.cons (To.pure (pv (.cptr (aJ aSt)))) (aB.cons (To.pure (pv (.cptr (aJ aPo)))) (aB.cons (To.pure (pv (.cptr [.sc (.int .i64 0),.sc (.int .i64 0)]))) (aB.cons (To.pure (pv (.cptr [.sc (.int .i64 0),.sc (.int .i64 1)]))) aB.nil))))))); exact(To.fzp rfl rfl rfl (To.cptrL (ToL.cons (.sc _) (ToL.cons (To.fzT rfl rfl rfl (To.listR (ToR.cons (ToL.cons (To.fz rfl rfl rfl (rfl) (prs _)) ToL.nil) (ToR.cons (ToL.cons (To.fz rfl rfl rfl (rfl) (prs _)) ToL.nil) ToR.nil)))) ToL.nil))))))); (focus ((refine aN ?_; refine RT.cc (Nat.zero_le _) rfl (GK (aU [mA 13 1 0 0,mA 1 1 0 4,mA 16 1 0 0]) (aU [aL]) 3 1) ?_; rintro res H' ⟨rfl,rfl⟩; refine⟨(by repeat (first | exact trivial | exact bD.refl _ _ | refine And.intro rfl ?_)),?_⟩; refine aN ?_; refine AWP.sub ?_ h; unfold kF pgV; refine Sub.to [] [] ?_ trivial rfl rfl rfl; refine aB.cons ?_ ((aB.cons (To.pure (pv (.cptr (aJ aF)))) (aB.cons (To.pure (pv (.cptr (aJ aL)))) (aB.cons (To.pure (pv (.cptr (aJ aSt)))) (aB.cons (To.pure (pv (.cptr (aJ aPo)))) (aB.cons (To.pure (pv (.cptr [.sc (.int .i64 0),.sc (.int .i64 0)]))) (aB.cons (To.pure (pv (.cptr [.sc (.int .i64 0),.sc (.int .i64 1)]))) aB.nil))))))); exact(To.fzp rfl rfl rfl (To.cptrL (ToL.cons (.sc _) (ToL.cons (To.fzT rfl rfl rfl (To.listR (ToR.cons (ToL.cons (To.fz rfl rfl rfl (rfl) (prs _)) ToL.nil) (ToR.cons (ToL.cons (To.fz rfl rfl rfl (rfl) (prs _)) ToL.nil) ToR.nil)))) ToL.nil))))))))))
set_option maxHeartbeats 16000000 in
theorem kn_l (Q:Exit→Fr→Heap→Prop) (h:AWP Tryz.prog F10.n 0 (aG [1] (aG [1] (aG [1] (aG [1] (aG [1] (aG [1] (aG [1] (aG [1] (aG [1] (aG [1] (aG [1] (aG [1,1,1,1,1,1] F10.code)))))))))))) Q kF []):AWP Tryz.prog F10.n 0 (aG [1] (aG [1] (aG [1] (aG [1] (aG [1] (aG [1] (aG [1] (aG [1] (aG [1] (aG [1] (aG [1,1,1,1,1,1] F10.code))))))))))) Q ((12,pgV mQ)::kF) []:=by
 show AWP _ _ _ (.seq (.seq (.region _) _) _) _ _ _
 have e1:=IC mQ (POK.of (by decide)) kn20 kn21
 unfold dH at e1
 unfold kF pgV
 refine AWP.seq ?_
 refine AWP.seq ?_
 refine AWP.region ?_
 refine bI ?_
 refine AWP.condF rfl ?_
 refine AWP.skip ?_
 refine AWP.sub ?_ h
 unfold kF
 exact Sub.w [] []
theorem wR (A:List (List AV)) [PRs A] (n:Nat):aQ Tryz.prog 28 [.hsl 0 0 0 n,.sc (.slice none 0 0)] [[.cells 7 A]] fun res H'=>res=.agg [.sc (.int .i64 1),.hsl 1 0 0 2]∧H'=[[.cells 7 A],[.cells 1 [[.hsl 0 0 0 n],[.list 7 []]]]]:=by
 refine aQ.of tS ?_ (nlB rfl)
 refine aA ?_
 refine lQ (res':=.agg [.sc (.int .i64 1),.hsl 1 0 0 2]) [[(0,0)],[(2,0)]] (.inr rfl) rfl ⟨rfl,rfl⟩ ?_ ?_ rfl rfl rfl
 (all_goals (repeat' (first | exact aB.nil | exact aS.nil | exact aY.nil | exact ToL.nil | exact ToR.nil | refine aB.cons ?_ ?_ | refine aS.cons ?_ ?_ | refine dZ ?_ ?_ | exact To.undef _ | exact To.sc _ | exact To.hslL rfl rfl | exact To.asl _ _ _ _ _ _ rfl | exact To.ptrO rfl rfl rfl | exact To.mrefO rfl | exact To.nil rfl rfl rfl | exact wt1 | exact To.nilL | refine To.int ?_ | refine To.bool ?_ | refine To.hslL rfl ?_ | refine wt2 rfl ?_ ?_ ?_ | refine To.tupL ?_ | refine To.aggL ?_ | refine To.cptrL ?_ | refine To.fzp rfl rfl rfl ?_ | refine To.fzm rfl rfl ?_ | refine To.cloL ?_ ?_ | refine wt3 ?_ | refine wt4 ?_ | exact wt5 | refine wt6 ?_ | refine ToB.one ?_ | exact wt7 | ((with_reducible apply ToL.consE); case e9=>rfl) | refine wt8 ?_ | refine ToL.cons ?_ ?_ | exact wt11 | refine wt9 ?_ ?_ | refine dX ?_ | (with_reducible rfl) | assumption)); all_goals (first | rfl | assumption | (simp; done) | (simp; omega) | (rw[wrap_small (by omega) (by omega)]; done) | (rw[wrap_small (by omega) (by omega)]; omega) | (refine congrArg Nat.cast ?_; assumption) | skip))
 exact ToB.rowsR (ToR.cons (ToL.cons (To.hslL rfl rfl) ToL.nil) (ToR.cons (ToL.cons To.nilL ToL.nil) ToR.nil))
def c1S:St:=jD c1P (bP c1P).2 (st0 c1P 2 1)
def c1V:AV:=.cptr [.list 1 (nN c1P c1S 2),.list 1 (wG 2 c1S),.list 1 (bF [0])]
set_option maxHeartbeats 16000000 in
theorem kn_m (Q:Exit→Fr→Heap→Prop) (h:AWP Tryz.prog F10.n 0 (aG [1] (aG [1] (aG [1] (aG [1] (aG [1] (aG [1] (aG [1] (aG [1] (aG [1] (aG [1] (aG [1] (aG [1] (aG [1,1,1,1,1,1] F10.code))))))))))))) Q ((13,c1V)::(14,.sc (.int .i64 0))::kF) []):AWP Tryz.prog F10.n 0 (aG [1] (aG [1] (aG [1] (aG [1] (aG [1] (aG [1] (aG [1] (aG [1] (aG [1] (aG [1] (aG [1] (aG [1,1,1,1,1,1] F10.code)))))))))))) Q kF []:=by
 show AWP _ _ _ (.seq (.region _) _) _ _ _
 have e1:=KQ c1P (POK.of (by decide)) (seed:=1) (by decide)
 unfold F6 at e1
 rw[if_pos kn22] at e1
 rw[show(bP c1P).2.length=2 by kernel_rfl] at e1
 unfold BO at e1
 rw[kn23] at e1
 unfold dH at e1
 unfold kF
 refine AWP.seq ?_
 refine AWP.region ?_
 refine bI ?_
 refine Reg.c (Nat.zero_le _) rfl ((wR (aU [aF]) 1).mono ?_)
 rintro res H' ⟨rfl,rfl⟩
 refine Reg.sub (fr':=(134,.agg [.sc (.int .i64 c1P.cells),.list 1 (bY c1P.acts)])::kF) (H':=[]) (by
  unfold kF
  refine Sub.to [] [] ?_ trivial rfl rfl rfl
  refine aB.cons ?_ (aB.cons (To.pure (pv (.cptr (aJ aF)))) (aB.cons (To.pure (pv (.cptr (aJ aL)))) (aB.cons (To.pure (pv (.cptr (aJ aSt)))) (aB.cons (To.pure (pv (.cptr (aJ aPo)))) (aB.cons (To.pure (pv (.cptr [.sc (.int .i64 0),.sc (.int .i64 0)]))) (aB.cons (To.pure (pv (.cptr [.sc (.int .i64 0),.sc (.int .i64 1)]))) aB.nil))))))
  exact To.aggL (ToL.cons (.sc _) (ToL.cons (To.fzT rfl rfl rfl (To.listR (ToR.cons (ToL.cons (To.fz rfl rfl rfl rfl (prs _)) ToL.nil) (ToR.cons (ToL.cons (To.pure (pv _)) ToL.nil) ToR.nil)))) ToL.nil))) ?_
 unfold kF
 refine bI ?_
 refine AWP.sub ?_ h
 unfold kF c1V c1S
 exact Sub.w [] []
instance:PV c1V:=by unfold c1V; infer_instance
set_option maxHeartbeats 16000000 in
theorem kn_n (Q:Exit→Fr→Heap→Prop) (h:AWP Tryz.prog F10.n 0 (aG [1] (aG [1] (aG [1] (aG [1] (aG [1] (aG [1] (aG [1] (aG [1] (aG [1] (aG [1] (aG [1] (aG [1] (aG [1] (aG [1,1,1,1,1,1] F10.code)))))))))))))) Q ((15,.cptr [.sc (.int .i64 0),.sc (.int .i64 0)])::(16,.sc (.int .i64 6))::(13,c1V)::(14,.sc (.int .i64 0))::kF) []):AWP Tryz.prog F10.n 0 (aG [1] (aG [1] (aG [1] (aG [1] (aG [1] (aG [1] (aG [1] (aG [1] (aG [1] (aG [1] (aG [1] (aG [1] (aG [1,1,1,1,1,1] F10.code))))))))))))) Q ((13,c1V)::(14,.sc (.int .i64 0))::kF) []:=by
 show AWP _ _ _ (.seq (.region _) _) _ _ _
 have h1:=cP 1 1 0 1
 unfold aJ at h1
 have e1:=mW c2P (POK.of (by decide))
 unfold plA at e1
 rw[kn24] at e1
 unfold dH at e1
 unfold kF
 refine AWP.seq ?_
 refine AWP.region ?_
 refine bI ?_
 refine Reg.c (Nat.zero_le _) rfl ((wR (aU [mA 1 1 0 1]) 1).mono ?_)
 rintro res H' ⟨rfl,rfl⟩
 refine Reg.sub (fr':=(141,.agg [.sc (.int .i64 c2P.cells),.list 1 (bY c2P.acts)])::(13,c1V)::(14,.sc (.int .i64 0))::kF) (H':=[]) (by
  unfold kF
  refine Sub.to [] [] ?_ trivial rfl rfl rfl
  refine aB.cons ?_ (aB.cons (To.pure (pv (c1V))) (aB.cons (To.pure (pv (.sc (.int .i64 0)))) (aB.cons (To.pure (pv (.cptr (aJ aF)))) (aB.cons (To.pure (pv (.cptr (aJ aL)))) (aB.cons (To.pure (pv (.cptr (aJ aSt)))) (aB.cons (To.pure (pv (.cptr (aJ aPo)))) (aB.cons (To.pure (pv (.cptr [.sc (.int .i64 0),.sc (.int .i64 0)]))) (aB.cons (To.pure (pv (.cptr [.sc (.int .i64 0),.sc (.int .i64 1)]))) aB.nil))))))))
  exact To.aggL (ToL.cons (.sc _) (ToL.cons (To.fzT rfl rfl rfl (To.listR (ToR.cons (ToL.cons (To.fz rfl rfl rfl rfl (prs _)) ToL.nil) (ToR.cons (ToL.cons (To.pure (pv _)) ToL.nil) ToR.nil)))) ToL.nil))) ?_
 unfold kF
 refine bI ?_
 refine AWP.sub ?_ h
 unfold kF
 exact Sub.w [] []
set_option maxHeartbeats 16000000 in
theorem kn_p (Q:Exit→Fr→Heap→Prop) (h:AWP Tryz.prog F10.n 0 (aG [1] (aG [1] (aG [1] (aG [1] (aG [1] (aG [1] (aG [1] (aG [1] (aG [1] (aG [1] (aG [1] (aG [1] (aG [1] (aG [1] (aG [1] (aG [1,1,1,1,1,1] F10.code)))))))))))))))) Q ((19,.cptr [.sc (.int .i64 0),.sc (.int .i64 1)])::(20,.sc (.int .i64 6))::(17,.cptr [.sc (.int .i64 0),.sc (.int .i64 1)])::(18,.sc (.int .i64 6))::(15,.cptr [.sc (.int .i64 0),.sc (.int .i64 0)])::(16,.sc (.int .i64 6))::(13,c1V)::(14,.sc (.int .i64 0))::kF) []):AWP Tryz.prog F10.n 0 (aG [1] (aG [1] (aG [1] (aG [1] (aG [1] (aG [1] (aG [1] (aG [1] (aG [1] (aG [1] (aG [1] (aG [1] (aG [1] (aG [1] (aG [1,1,1,1,1,1] F10.code))))))))))))))) Q ((17,.cptr [.sc (.int .i64 0),.sc (.int .i64 1)])::(18,.sc (.int .i64 6))::(15,.cptr [.sc (.int .i64 0),.sc (.int .i64 0)])::(16,.sc (.int .i64 6))::(13,c1V)::(14,.sc (.int .i64 0))::kF) []:=by
 show AWP _ _ _ (.seq (.region _) _) _ _ _
 have e1:=mW c4P (POK.of (by decide))
 unfold plA at e1
 rw[kn26] at e1
 unfold dH at e1
 unfold kF
 refine AWP.seq ?_
 refine AWP.region ?_
 refine bI ?_
 refine Reg.c (Nat.zero_le _) rfl ((wR (aU [aSt,aF]) 2).mono ?_)
 rintro res H' ⟨rfl,rfl⟩
 refine Reg.sub (fr':=(157,.agg [.sc (.int .i64 c4P.cells),.list 1 (bY c4P.acts)])::(17,.cptr [.sc (.int .i64 0),.sc (.int .i64 1)])::(18,.sc (.int .i64 6))::(15,.cptr [.sc (.int .i64 0),.sc (.int .i64 0)])::(16,.sc (.int .i64 6))::(13,c1V)::(14,.sc (.int .i64 0))::kF) (H':=[]) (by
  unfold kF
  refine Sub.to [] [] ?_ trivial rfl rfl rfl
  refine aB.cons ?_ (aB.cons (To.pure (pv (.cptr [.sc (.int .i64 0),.sc (.int .i64 1)]))) (aB.cons (To.pure (pv (.sc (.int .i64 6)))) (aB.cons (To.pure (pv (.cptr [.sc (.int .i64 0),.sc (.int .i64 0)]))) (aB.cons (To.pure (pv (.sc (.int .i64 6)))) (aB.cons (To.pure (pv (c1V))) (aB.cons (To.pure (pv (.sc (.int .i64 0)))) (aB.cons (To.pure (pv (.cptr (aJ aF)))) (aB.cons (To.pure (pv (.cptr (aJ aL)))) (aB.cons (To.pure (pv (.cptr (aJ aSt)))) (aB.cons (To.pure (pv (.cptr (aJ aPo)))) (aB.cons (To.pure (pv (.cptr [.sc (.int .i64 0),.sc (.int .i64 0)]))) (aB.cons (To.pure (pv (.cptr [.sc (.int .i64 0),.sc (.int .i64 1)]))) aB.nil))))))))))))
  exact To.aggL (ToL.cons (.sc _) (ToL.cons (To.fzT rfl rfl rfl (To.listR (ToR.cons (ToL.cons (To.fz rfl rfl rfl rfl (prs _)) ToL.nil) (ToR.cons (ToL.cons (To.pure (pv _)) ToL.nil) ToR.nil)))) ToL.nil))) ?_
 unfold kF
 refine bI ?_
 refine AWP.sub ?_ h
 unfold kF
 exact Sub.w [] []
set_option maxHeartbeats 16000000 in
theorem kn_q (Q:Exit→Fr→Heap→Prop) (h:AWP Tryz.prog F10.n 0 (aG [1] (aG [1] (aG [1] (aG [1] (aG [1] (aG [1] (aG [1] (aG [1] (aG [1] (aG [1] (aG [1] (aG [1] (aG [1] (aG [1] (aG [1] (aG [1] (aG [1,1,1,1,1,1] F10.code))))))))))))))))) Q ((21,.cptr [.sc (.int .i64 0),.sc (.int .i64 1)])::(22,.sc (.int .i64 6))::(19,.cptr [.sc (.int .i64 0),.sc (.int .i64 1)])::(20,.sc (.int .i64 6))::(17,.cptr [.sc (.int .i64 0),.sc (.int .i64 1)])::(18,.sc (.int .i64 6))::(15,.cptr [.sc (.int .i64 0),.sc (.int .i64 0)])::(16,.sc (.int .i64 6))::(13,c1V)::(14,.sc (.int .i64 0))::kF) []):AWP Tryz.prog F10.n 0 (aG [1] (aG [1] (aG [1] (aG [1] (aG [1] (aG [1] (aG [1] (aG [1] (aG [1] (aG [1] (aG [1] (aG [1] (aG [1] (aG [1] (aG [1] (aG [1,1,1,1,1,1] F10.code)))))))))))))))) Q ((19,.cptr [.sc (.int .i64 0),.sc (.int .i64 1)])::(20,.sc (.int .i64 6))::(17,.cptr [.sc (.int .i64 0),.sc (.int .i64 1)])::(18,.sc (.int .i64 6))::(15,.cptr [.sc (.int .i64 0),.sc (.int .i64 0)])::(16,.sc (.int .i64 6))::(13,c1V)::(14,.sc (.int .i64 0))::kF) []:=by
 show AWP _ _ _ (.seq (.region _) _) _ _ _
 have h1:=cP 13 1 0 0
 unfold aJ at h1
 have e1:=mW c5P (POK.of (by decide))
 unfold plA at e1
 rw[kn27] at e1
 unfold dH at e1
 unfold kF
 refine AWP.seq ?_
 refine AWP.region ?_
 refine bI ?_
 refine Reg.c (Nat.zero_le _) rfl ((wR (aU [mA 13 1 0 0]) 1).mono ?_)
 rintro res H' ⟨rfl,rfl⟩
 refine Reg.sub (fr':=(164,.agg [.sc (.int .i64 c5P.cells),.list 1 (bY c5P.acts)])::(19,.cptr [.sc (.int .i64 0),.sc (.int .i64 1)])::(20,.sc (.int .i64 6))::(17,.cptr [.sc (.int .i64 0),.sc (.int .i64 1)])::(18,.sc (.int .i64 6))::(15,.cptr [.sc (.int .i64 0),.sc (.int .i64 0)])::(16,.sc (.int .i64 6))::(13,c1V)::(14,.sc (.int .i64 0))::kF) (H':=[]) (by
  unfold kF
  refine Sub.to [] [] ?_ trivial rfl rfl rfl
  refine aB.cons ?_ (aB.cons (To.pure (pv (.cptr [.sc (.int .i64 0),.sc (.int .i64 1)]))) (aB.cons (To.pure (pv (.sc (.int .i64 6)))) (aB.cons (To.pure (pv (.cptr [.sc (.int .i64 0),.sc (.int .i64 1)]))) (aB.cons (To.pure (pv (.sc (.int .i64 6)))) (aB.cons (To.pure (pv (.cptr [.sc (.int .i64 0),.sc (.int .i64 0)]))) (aB.cons (To.pure (pv (.sc (.int .i64 6)))) (aB.cons (To.pure (pv (c1V))) (aB.cons (To.pure (pv (.sc (.int .i64 0)))) (aB.cons (To.pure (pv (.cptr (aJ aF)))) (aB.cons (To.pure (pv (.cptr (aJ aL)))) (aB.cons (To.pure (pv (.cptr (aJ aSt)))) (aB.cons (To.pure (pv (.cptr (aJ aPo)))) (aB.cons (To.pure (pv (.cptr [.sc (.int .i64 0),.sc (.int .i64 0)]))) (aB.cons (To.pure (pv (.cptr [.sc (.int .i64 0),.sc (.int .i64 1)]))) aB.nil))))))))))))))
  exact To.aggL (ToL.cons (.sc _) (ToL.cons (To.fzT rfl rfl rfl (To.listR (ToR.cons (ToL.cons (To.fz rfl rfl rfl rfl (prs _)) ToL.nil) (ToR.cons (ToL.cons (To.pure (pv _)) ToL.nil) ToR.nil)))) ToL.nil))) ?_
 unfold kF
 refine bI ?_
 refine AWP.sub ?_ h
 unfold kF
 exact Sub.w [] []
theorem one2 (A:List (List AV)) [PRs A] (n:Nat):aQ Tryz.prog 28 [.hsl 0 0 0 n,.sc (.slice none 0 0)] [[.cells 7 A],[.cells 2 [[.sc (.int .i64 0),.sc (.int .i64 0)]]]] fun res H'=>res=.agg [.sc (.int .i64 1),.hsl 2 0 0 2]∧H'=[[.cells 7 A],[.cells 2 [[.sc (.int .i64 0),.sc (.int .i64 0)]]]]++[[.cells 1 [[.hsl 0 0 0 n],[.list 7 []]]]]:=(by refine aQ.of tS ?_ (nlB rfl); refine aA ?_; refine lQ (res':=.agg [.sc (.int .i64 1),.hsl 2 0 0 2]) [[(0,0)],[(1,0)],[(3,0)]] (.inr rfl) rfl ⟨rfl,rfl⟩ ?_ ?_ rfl rfl rfl; (all_goals (repeat' (first | exact aB.nil | exact aS.nil | exact aY.nil | exact ToL.nil | exact ToR.nil | refine aB.cons ?_ ?_ | refine aS.cons ?_ ?_ | refine dZ ?_ ?_ | exact To.undef _ | exact To.sc _ | exact To.hslL rfl rfl | exact To.asl _ _ _ _ _ _ rfl | exact To.ptrO rfl rfl rfl | exact To.mrefO rfl | exact To.nil rfl rfl rfl | exact wt1 | exact To.nilL | refine To.int ?_ | refine To.bool ?_ | refine To.hslL rfl ?_ | refine wt2 rfl ?_ ?_ ?_ | refine To.tupL ?_ | refine To.aggL ?_ | refine To.cptrL ?_ | refine To.fzp rfl rfl rfl ?_ | refine To.fzm rfl rfl ?_ | refine To.cloL ?_ ?_ | refine wt3 ?_ | refine wt4 ?_ | exact wt5 | refine wt6 ?_ | refine ToB.one ?_ | exact wt7 | ((with_reducible apply ToL.consE); case e9=>rfl) | refine wt8 ?_ | refine ToL.cons ?_ ?_ | exact wt11 | refine wt9 ?_ ?_ | refine dX ?_ | (with_reducible rfl) | assumption)); all_goals (first | rfl | assumption | (simp; done) | (simp; omega) | (rw[wrap_small (by omega) (by omega)]; done) | (rw[wrap_small (by omega) (by omega)]; omega) | (refine congrArg Nat.cast ?_; assumption) | skip)); exact ToB.rowsR (ToR.cons (ToL.cons (To.hslL rfl rfl) ToL.nil) (ToR.cons (ToL.cons To.nilL ToL.nil) ToR.nil)))
theorem one3 (A:List (List AV)) [PRs A] (n:Nat):aQ Tryz.prog 28 [.hsl 1 0 0 n,.sc (.slice none 0 0)] [[.cells 2 [[.sc (.int .i64 0),.sc (.int .i64 0)]]],[.cells 7 A]] fun res H'=>res=.agg [.sc (.int .i64 1),.hsl 2 0 0 2]∧H'=[[.cells 2 [[.sc (.int .i64 0),.sc (.int .i64 0)]]],[.cells 7 A]]++[[.cells 1 [[.hsl 1 0 0 n],[.list 7 []]]]]:=(by refine aQ.of tS ?_ (nlB rfl); refine aA ?_; refine lQ (res':=.agg [.sc (.int .i64 1),.hsl 2 0 0 2]) [[(0,0)],[(1,0)],[(3,0)]] (.inr rfl) rfl ⟨rfl,rfl⟩ ?_ ?_ rfl rfl rfl; (all_goals (repeat' (first | exact aB.nil | exact aS.nil | exact aY.nil | exact ToL.nil | exact ToR.nil | refine aB.cons ?_ ?_ | refine aS.cons ?_ ?_ | refine dZ ?_ ?_ | exact To.undef _ | exact To.sc _ | exact To.hslL rfl rfl | exact To.asl _ _ _ _ _ _ rfl | exact To.ptrO rfl rfl rfl | exact To.mrefO rfl | exact To.nil rfl rfl rfl | exact wt1 | exact To.nilL | refine To.int ?_ | refine To.bool ?_ | refine To.hslL rfl ?_ | refine wt2 rfl ?_ ?_ ?_ | refine To.tupL ?_ | refine To.aggL ?_ | refine To.cptrL ?_ | refine To.fzp rfl rfl rfl ?_ | refine To.fzm rfl rfl ?_ | refine To.cloL ?_ ?_ | refine wt3 ?_ | refine wt4 ?_ | exact wt5 | refine wt6 ?_ | refine ToB.one ?_ | exact wt7 | ((with_reducible apply ToL.consE); case e9=>rfl) | refine wt8 ?_ | refine ToL.cons ?_ ?_ | exact wt11 | refine wt9 ?_ ?_ | refine dX ?_ | (with_reducible rfl) | assumption)); all_goals (first | rfl | assumption | (simp; done) | (simp; omega) | (rw[wrap_small (by omega) (by omega)]; done) | (rw[wrap_small (by omega) (by omega)]; omega) | (refine congrArg Nat.cast ?_; assumption) | skip)); exact ToB.rowsR (ToR.cons (ToL.cons (To.hslL rfl rfl) ToL.nil) (ToR.cons (ToL.cons To.nilL ToL.nil) ToR.nil)))
set_option maxHeartbeats 16000000 in
theorem kn_o (Q:Exit→Fr→Heap→Prop) (h:AWP Tryz.prog F10.n 0 (aG [1] (aG [1] (aG [1] (aG [1] (aG [1] (aG [1] (aG [1] (aG [1] (aG [1] (aG [1] (aG [1] (aG [1] (aG [1] (aG [1] (aG [1,1,1,1,1,1] F10.code))))))))))))))) Q ((17,.cptr [.sc (.int .i64 0),.sc (.int .i64 1)])::(18,.sc (.int .i64 6))::(15,.cptr [.sc (.int .i64 0),.sc (.int .i64 0)])::(16,.sc (.int .i64 6))::(13,c1V)::(14,.sc (.int .i64 0))::kF) []):AWP Tryz.prog F10.n 0 (aG [1] (aG [1] (aG [1] (aG [1] (aG [1] (aG [1] (aG [1] (aG [1] (aG [1] (aG [1] (aG [1] (aG [1] (aG [1] (aG [1,1,1,1,1,1] F10.code)))))))))))))) Q ((15,.cptr [.sc (.int .i64 0),.sc (.int .i64 0)])::(16,.sc (.int .i64 6))::(13,c1V)::(14,.sc (.int .i64 0))::kF) []:=by
 show AWP _ _ _ (.seq (.draw _ _) _) _ _ _
 have h1:=cP 1 1 0 1
 unfold aJ at h1
 have e1:=mW c3P (POK.of (by decide))
 unfold plA at e1
 rw[kn25] at e1
 unfold dH at e1
 have hv:pF (.tup [.agg [.sc (.int .i64 0),.sc (.int .i64 1)],.sc (.int .i64 6)]):=.tup _ fun c hc=>by
  simp at hc
  rcases hc with rfl | rfl
  ·exact .agg _ fun c hc=>by
    simp at hc
    rcases hc with rfl | rfl<;>exact .sc _
  ·exact .sc _
 unfold kF
 refine AWP.seq ?_
 refine AWP.lin3 (.take 0 (.pure 1 (.alt 2 (.alt 3 (.alt 4 (.take 5 (.take 6 (.take 7 (.take 10 (.only 8 (.only 9 .nil)))))) (.alt 8 (.only 4 (.take 5 (.take 6 (.take 7 (.take 10 (.only 9 .nil)))))) .no)) (.alt 8 (.only 3 (.only 4 (.take 5 (.take 6 (.take 7 (.take 10 (.only 9 .nil))))))) .no)) (.alt 8 (.only 2 (.only 3 (.only 4 (.take 5 (.take 6 (.take 7 (.take 10 (.only 9 .nil)))))))) .no)))) mixed (by kernel_rfl) (by kernel_rfl) ?_
 refine aN ?_
 refine LP3.a ?_ (LP3.a ?_ LP3.n)
 ·refine aN ?_
  refine LP3.a ?_ (LP3.a ?_ LP3.n)
  ·refine aN ?_
   (refine RT.cc (Nat.zero_le _) rfl (wR (aU [aF,mA 1 1 0 1]) 2) ?_; rintro res H' ⟨rfl,rfl⟩; refine⟨(by repeat (first | exact trivial | exact bD.refl _ _ | refine And.intro rfl ?_)),?_⟩)
   refine aN ?_
   refine LP3.a ?_ (LP3.a ?_ LP3.n)
   ·refine aN ?_
    (refine RT.cc (R:=fun res H'=>res=.tup [.agg [.sc (.int .i64 0),.sc (.int .i64 1)],.sc (.int .i64 6)]∧H'=_) (Nat.zero_le _) rfl (aQ.view e1 hv (ToL.cons (To.aggL (ToL.cons (.sc _) (ToL.cons (To.fzT rfl rfl rfl (To.listR (ToR.cons (ToL.cons (To.fz rfl rfl rfl rfl (prs _)) ToL.nil) (ToR.cons (ToL.cons (To.pure (pv _)) ToL.nil) ToR.nil)))) ToL.nil))) ToL.nil) ⟨rfl,rfl⟩) ?_; rintro res H' ⟨rfl,rfl⟩; refine⟨(by repeat (first | exact trivial | exact bD.refl _ _ | refine And.intro rfl ?_)),?_⟩)
    (refine aN ?_; refine AWP.sub ?_ h; unfold kF; exact Sub.w [] [])
   ·refine aN ?_
    (refine RT.cc (R:=fun res H'=>res=.tup [.agg [.sc (.int .i64 0),.sc (.int .i64 1)],.sc (.int .i64 6)]∧H'=_) (Nat.zero_le _) rfl (aQ.view e1 hv (ToL.cons (To.aggL (ToL.cons (.sc _) (ToL.cons (To.fzT rfl rfl rfl (To.listR (ToR.cons (ToL.cons (To.fz rfl rfl rfl rfl (prs _)) ToL.nil) (ToR.cons (ToL.cons (To.pure (pv _)) ToL.nil) ToR.nil)))) ToL.nil))) ToL.nil) ⟨rfl,rfl⟩) ?_; rintro res H' ⟨rfl,rfl⟩; refine⟨(by repeat (first | exact trivial | exact bD.refl _ _ | refine And.intro rfl ?_)),?_⟩)
    (refine aN ?_; refine AWP.sub ?_ h; unfold kF; exact Sub.w [] [])
  ·refine aN ?_
   (refine RT.cc (Nat.zero_le _) rfl (one2 (aU [aF,mA 1 1 0 1]) 2) ?_; rintro res H' ⟨rfl,rfl⟩; refine⟨(by repeat (first | exact trivial | exact bD.refl _ _ | refine And.intro rfl ?_)),?_⟩)
   refine aN ?_
   (refine RT.cc (R:=fun res H'=>res=.tup [.agg [.sc (.int .i64 0),.sc (.int .i64 1)],.sc (.int .i64 6)]∧H'=_) (Nat.zero_le _) rfl (aQ.view e1 hv (ToL.cons (To.aggL (ToL.cons (.sc _) (ToL.cons (To.fzT rfl rfl rfl (To.listR (ToR.cons (ToL.cons (To.fz rfl rfl rfl rfl (prs _)) ToL.nil) (ToR.cons (ToL.cons (To.pure (pv _)) ToL.nil) ToR.nil)))) ToL.nil))) ToL.nil) ⟨rfl,rfl⟩) ?_; rintro res H' ⟨rfl,rfl⟩; refine⟨(by repeat (first | exact trivial | exact bD.refl _ _ | refine And.intro rfl ?_)),?_⟩)
   (refine aN ?_; refine AWP.sub ?_ h; unfold kF; exact Sub.w [] [])
 ·refine aN ?_
  (refine RT.cc (Nat.zero_le _) rfl (one3 (aU [aF,mA 1 1 0 1]) 2) ?_; rintro res H' ⟨rfl,rfl⟩; refine⟨(by repeat (first | exact trivial | exact bD.refl _ _ | refine And.intro rfl ?_)),?_⟩)
  refine aN ?_
  (refine RT.cc (R:=fun res H'=>res=.tup [.agg [.sc (.int .i64 0),.sc (.int .i64 1)],.sc (.int .i64 6)]∧H'=_) (Nat.zero_le _) rfl (aQ.view e1 hv (ToL.cons (To.aggL (ToL.cons (.sc _) (ToL.cons (To.fzT rfl rfl rfl (To.listR (ToR.cons (ToL.cons (To.fz rfl rfl rfl rfl (prs _)) ToL.nil) (ToR.cons (ToL.cons (To.pure (pv _)) ToL.nil) ToR.nil)))) ToL.nil))) ToL.nil) ⟨rfl,rfl⟩) ?_; rintro res H' ⟨rfl,rfl⟩; refine⟨(by repeat (first | exact trivial | exact bD.refl _ _ | refine And.intro rfl ?_)),?_⟩)
  (refine aN ?_; refine AWP.sub ?_ h; unfold kF; exact Sub.w [] [])
set_option maxHeartbeats 16000000 in
theorem kn_a (Q:Exit→Fr→Heap→Prop) (h:AWP Tryz.prog F10.n 0 (aG [1,1,1,1,1,1] F10.code) Q kF []):AWP Tryz.prog F10.n 0 F10.code Q [] []:=by
 have h1:=cP 8 0 0 0
 have h2:=cP 6 0 0 0
 unfold aJ at h1 h2
 refine AWP.seq ?_
 refine AWP.region ?_
 refine bI ?_
 refine AWP.seq ?_
 refine AWP.region ?_
 refine bI ?_
 refine AWP.seq ?_
 refine AWP.region ?_
 refine bI ?_
 refine AWP.seq ?_
 refine AWP.region ?_
 refine bI ?_
 refine AWP.seq ?_
 refine AWP.region ?_
 refine bI ?_
 refine AWP.seq ?_
 refine AWP.region ?_
 refine bI ?_
 refine AWP.sub ?_ h
 unfold kF aJ aF aL aSt aPo bE
 dsimp only[List.map_cons,List.map_nil]
 exact Sub.w [] []
set_option maxHeartbeats 16000000 in
theorem wJ:aD Tryz.prog 10 [] (.sc (.bool true)):=by
 refine aD.mkI cF10 (nlB rfl) ?_
 refine kn_a _ (kn_b _ (kn_c _ (kn_d _ (kn_e _ (kn_f _ (kn_g _ (kn_h _ (kn_i _ (kn_j _ (kn_k _ (kn_l _ (kn_m _ (kn_n _ (kn_o _ (kn_p _ (kn_q _ ?_))))))))))))))))
 have h1:=works_ok
 have h2:=GA [0] (by decide)
 show AWP _ _ _ (.seq (.region _) _) _ _ _
 unfold kF c1V
 refine AWP.seq ?_
 refine AWP.region ?_
 refine bI ?_
 (refine Reg.pv (by first | exact Nat.zero_le _ | exact Nat.le_refl _ | (simp; done) | (simp; omega)) rfl h2 (by first | exact .sc _ | (exact .agg _ (fun c hc=>by simp at hc; rcases hc with h | h<;>subst h<;>exact .sc _)) | assumption) ?vw9 ?_; case vw9=>(all_goals (repeat' (first | exact aB.nil | exact aS.nil | exact aY.nil | exact ToL.nil | exact ToR.nil | refine aB.cons ?_ ?_ | refine aS.cons ?_ ?_ | refine dZ ?_ ?_ | exact To.undef _ | exact To.sc _ | exact To.hslL rfl rfl | exact To.asl _ _ _ _ _ _ rfl | exact To.ptrO rfl rfl rfl | exact To.mrefO rfl | exact To.nil rfl rfl rfl | exact wt1 | exact To.nilL | refine To.int ?_ | refine To.bool ?_ | refine To.hslL rfl ?_ | refine wt2 rfl ?_ ?_ ?_ | refine To.tupL ?_ | refine To.aggL ?_ | refine To.cptrL ?_ | refine To.fzp rfl rfl rfl ?_ | refine To.fzm rfl rfl ?_ | refine To.cloL ?_ ?_ | refine wt3 ?_ | refine wt4 ?_ | exact wt5 | refine wt6 ?_ | refine ToB.one ?_ | exact wt7 | ((with_reducible apply ToL.consE); case e9=>rfl) | refine wt8 ?_ | refine ToL.cons ?_ ?_ | exact wt11 | refine wt9 ?_ ?_ | refine dX ?_ | (with_reducible rfl) | assumption)); all_goals (first | rfl | assumption | (simp; done) | (simp; omega))))
 refine bI ?_
 refine AWP.ret ?_
 exact aW.w
end Go.Proofs.YtkjoolaahocgdaaGreat
