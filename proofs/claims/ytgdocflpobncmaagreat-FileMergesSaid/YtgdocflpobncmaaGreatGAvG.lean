import Derived.Test.YtgdocflpobncmaaGreatGAvLr
import Derived.Test.YtgdocflpobncmaaGreatGAvK3
import Derived.Test.YtgdocflpobncmaaGreatGAvR
set_option maxHeartbeats 4000000
namespace Go.Av
structure JU (p:Prop):Prop where
 out:p
theorem aA {G G':Prop} (h:G') (t:JU G'→G:=by intro hw9; (repeat (first | refine O5 ?_ | refine PY ?_ | refine QL ?_ | refine wv1 ?_ | refine wv2 ?_ | refine wv3 ?_ | refine wv4 ?_ | refine wv5 ?_ | refine wv6 ?_ | refine wv7 ?_ | refine wv8 ?_ | refine wv9 ?_ | refine QX ?_ | refine wr1 ?_ | refine wr2 ?_ | refine wr3 ?_ | refine wr4 ?_ | refine Reg.nil ?_ | refine wd1 ?_ | refine wd2 ?_ | refine wd3 ?_ | refine wd4 ?_ | refine AWP.seq ?_ | refine AWP.region ?_ | refine AWP.dk mixed ?_ | refine AWP.condT rfl ?_ | refine AWP.condF rfl ?_ | refine AWP.skip ?_ | refine AWP.ret ?_ | refine AWP.exit ?_ | refine AWP.block ?_ | refine wr5 ?_ | refine wr6 ?_ | refine wr7 ?_ | refine wr8 ?_ | refine wr9 ?_ | refine wr10 ?_ | refine wd5 ?_ | refine wd6 ?_ | refine wd7 ?_ | refine wd8 ?_ | refine wd9 ?_ | refine P9 ?_ | refine wr11 ?_ | refine wr12 ?_ | refine wd11 ?_ | refine wd12 ?_ )); exact hw9.out):G:=t ⟨h⟩
theorem vD {G G':Prop} (h:G') (t:JU G'→G:=by intro hw9; (repeat (first | refine O5 ?_ | refine PY ?_ | refine QL ?_ | refine wv1 ?_ | refine wv2 ?_ | refine wv3 ?_ | refine wv4 ?_ | refine wv5 ?_ | refine wv6 ?_ | refine wv7 ?_ | refine wv8 ?_ | refine wv9 ?_ | refine QX ?_ | refine wr1 ?_ | refine wr2 ?_ | refine wr3 ?_ | refine wr4 ?_ | refine Reg.nil ?_ | refine wd1 ?_ | refine wd2 ?_ | refine wd3 ?_ | refine wd4 ?_ | refine wr5 ?_ | refine wr6 ?_ | refine wr7 ?_ | refine wr8 ?_ | refine wr9 ?_ | refine wr10 ?_ | refine wd5 ?_ | refine wd6 ?_ | refine wd7 ?_ | refine wd8 ?_ | refine wd9 ?_ | refine P9 ?_ | refine wr11 ?_ | refine wr12 ?_ | refine wd11 ?_ | refine wd12 ?_ )); exact hw9.out):G:=t ⟨h⟩
theorem cT {G G':Prop} (h:G') (t:JU G'→G:=by intro hw9; (repeat (first | refine O5 ?_ | refine PY ?_ | refine QL ?_ | refine wv1 ?_ | refine wv2 ?_ | refine wv3 ?_ | refine wv4 ?_ | refine wv5 ?_ | refine wv6 ?_ | refine wv7 ?_ | refine wv8 ?_ | refine wv9 ?_ | refine QX ?_ | refine wr1 ?_ | refine wr2 ?_ | refine wr3 ?_ | refine wr4 ?_ | refine Reg.nil ?_ | refine wd1 ?_ | refine wd2 ?_ | refine wd3 ?_ | refine wd4 ?_ | refine AWP.seq ?_ | refine AWP.region ?_ | refine AWP.condT rfl ?_ | refine AWP.condF rfl ?_ | refine AWP.skip ?_ | refine AWP.ret ?_ | refine AWP.exit ?_ | refine AWP.block ?_ | refine wr5 ?_ | refine wr6 ?_ | refine wr7 ?_ | refine wr8 ?_ | refine wr9 ?_ | refine wr10 ?_ | refine wd5 ?_ | refine wd6 ?_ | refine wd7 ?_ | refine wd8 ?_ | refine wd9 ?_ | refine P9 ?_ | refine wr11 ?_ | refine wr12 ?_ | refine wd11 ?_ | refine wd12 ?_ )); exact hw9.out):G:=t ⟨h⟩
theorem g8 {p:Prop} (h:p:=by(all_goals (repeat' (first | exact aY.nil | exact aI.nil | exact bK.nil | exact ToL.nil | exact ToR.nil | refine aY.cons ?_ ?_ | refine aI.cons ?_ ?_ | refine fN ?_ ?_ | exact To.undef _ | exact To.sc _ | exact To.hslL rfl rfl | exact To.asl _ _ _ _ _ _ _ rfl | refine To.ifc _ _ _ ?_ | exact To.ptrO rfl rfl rfl | exact To.mrefO rfl | exact To.nil rfl rfl rfl | exact wt1 | exact To.nilL | refine To.int ?_ | refine To.bool ?_ | refine To.hslL rfl ?_ | refine wt2 rfl ?_ ?_ ?_ | refine To.tupL ?_ | refine To.aggL ?_ | refine To.cptrL ?_ | refine To.fzp rfl rfl rfl ?_ | refine To.fzm rfl rfl ?_ | refine To.cloL ?_ ?_ | refine wt3 ?_ | refine wt4 ?_ | exact wt5 | refine wt6 ?_ | refine ToB.one ?_ | exact wt7 | ((with_reducible apply ToL.consE); case e9=>rfl) | refine wt8 ?_ | refine ToL.cons ?_ ?_ | exact wt11 | refine wt9 ?_ ?_ | refine gM ?_ | exact .yld _ _ _ _ rfl | exact .dead _ | exact hlp _ _ _ _ rfl rfl rfl | exact hlp _ _ _ rfl rfl rfl | exact hlp _ _ _ rfl rfl | exact hlp _ _ _ rfl | (with_reducible rfl) | assumption)); all_goals (first | rfl | assumption | (simp; done) | (simp; omega) | (rw[wrap_small (by omega) (by omega)]; done) | (rw[wrap_small (by omega) (by omega)]; omega) | (refine congrArg Nat.cast ?_; assumption) | omega | (exact Av.wrap_small (by omega) (by omega))))):p:=h
theorem Sub.w {k N:Nat} {fr fr':Fr} {H H':Heap} (szs:List Nat) (ids:List (List (Nat×Nat))) (h4:aI (ToB (ToT (H++gh szs) H.length (cJ ids)) (rho ids)) (H++gh szs) ids H':=by(repeat' (first | exact aY.nil | exact aI.nil | exact bK.nil | exact ToL.nil | exact ToR.nil | refine aY.cons ?_ ?_ | refine aI.cons ?_ ?_ | refine fN ?_ ?_ | exact To.undef _ | exact To.sc _ | exact To.hslL rfl rfl | exact To.asl _ _ _ _ _ _ _ rfl | refine To.ifc _ _ _ ?_ | exact To.ptrO rfl rfl rfl | exact To.mrefO rfl | exact To.nil rfl rfl rfl | exact wt1 | exact To.nilL | refine To.int ?_ | refine To.bool ?_ | refine To.hslL rfl ?_ | refine wt2 rfl ?_ ?_ ?_ | refine To.tupL ?_ | refine To.aggL ?_ | refine To.cptrL ?_ | refine To.fzp rfl rfl rfl ?_ | refine To.fzm rfl rfl ?_ | refine To.cloL ?_ ?_ | refine wt3 ?_ | refine wt4 ?_ | exact wt5 | refine wt6 ?_ | refine ToB.one ?_ | exact wt7 | ((with_reducible apply ToL.consE); case e9=>rfl) | refine wt8 ?_ | refine ToL.cons ?_ ?_ | exact wt11 | refine wt9 ?_ ?_ | refine gM ?_ | (with_reducible rfl) | assumption)); all_goals (first | rfl | assumption | (simp; done) | (simp; omega) | (rw[wrap_small (by omega) (by omega)]; done) | (rw[wrap_small (by omega) (by omega)]; omega) | (refine congrArg Nat.cast ?_; assumption)))
  (h5:aY (ToT (H++gh szs) H.length (cJ ids)) (rho ids) fr fr':=by(repeat' (first | exact aY.nil | exact aI.nil | exact bK.nil | exact ToL.nil | exact ToR.nil | refine aY.cons ?_ ?_ | refine aI.cons ?_ ?_ | refine fN ?_ ?_ | exact To.undef _ | exact To.sc _ | exact To.hslL rfl rfl | exact To.asl _ _ _ _ _ _ _ rfl | refine To.ifc _ _ _ ?_ | exact To.ptrO rfl rfl rfl | exact To.mrefO rfl | exact To.nil rfl rfl rfl | exact wt1 | exact To.nilL | refine To.int ?_ | refine To.bool ?_ | refine To.hslL rfl ?_ | refine wt2 rfl ?_ ?_ ?_ | refine To.tupL ?_ | refine To.aggL ?_ | refine To.cptrL ?_ | refine To.fzp rfl rfl rfl ?_ | refine To.fzm rfl rfl ?_ | refine To.cloL ?_ ?_ | refine wt3 ?_ | refine wt4 ?_ | exact wt5 | refine wt6 ?_ | refine ToB.one ?_ | exact wt7 | ((with_reducible apply ToL.consE); case e9=>rfl) | refine wt8 ?_ | refine ToL.cons ?_ ?_ | exact wt11 | refine wt9 ?_ ?_ | refine gM ?_ | (with_reducible rfl) | assumption)); all_goals (first | rfl | assumption | (simp; done) | (simp; omega) | (rw[wrap_small (by omega) (by omega)]; done) | (rw[wrap_small (by omega) (by omega)]; omega) | (refine congrArg Nat.cast ?_; assumption))) (h1:jK 0 k ids=true:=by rfl) (h2:mN k ids (H++gh szs)=true:=by rfl) (h3:nE ids.flatten=true:=by rfl):Sub k N fr H fr' H':=.to szs ids h5 h4 h1 h2 h3
theorem Sub.wr {k N:Nat} {fr fr':Fr} {H H':Heap} (szs:List Nat) (ids:List (List (Nat×Nat))) (h4:aI (ToB (ToT (H++gh szs) H.length (cJ ids)) (rho ids)) (H++gh szs) ids H':=by(repeat' (first | exact aY.nil | exact aI.nil | exact bK.nil | exact ToL.nil | exact ToR.nil | refine aY.cons ?_ ?_ | refine aI.cons ?_ ?_ | refine fN ?_ ?_ | exact To.undef _ | exact To.sc _ | exact To.hslL rfl rfl | exact To.asl _ _ _ _ _ _ _ rfl | refine To.ifc _ _ _ ?_ | exact To.ptrO rfl rfl rfl | exact To.mrefO rfl | exact To.nil rfl rfl rfl | exact wt1 | exact To.nilL | refine To.int ?_ | refine To.bool ?_ | refine To.hslL rfl ?_ | refine wt2 rfl ?_ ?_ ?_ | refine To.tupL ?_ | refine To.aggL ?_ | refine To.cptrL ?_ | refine To.fzp rfl rfl rfl ?_ | refine To.fzm rfl rfl ?_ | refine To.cloL ?_ ?_ | refine wt3 ?_ | refine wt4 ?_ | refine ToB.one ?_ | exact wt5 | refine ToB.rowsR (ToR.cons ?_ ?_) | refine ToR.cons ?_ ?_ | refine wt6 ?_ | ((with_reducible apply ToL.consE); case e9=>rfl) | refine ToL.cons ?_ ?_ | exact wt7 | refine wt8 ?_ | exact wt11 | refine wt9 ?_ ?_ | refine gM ?_ | (with_reducible rfl) | assumption)); all_goals (first | rfl | assumption | (simp; done) | (simp; omega) | (rw[wrap_small (by omega) (by omega)]; done) | (rw[wrap_small (by omega) (by omega)]; omega) | (refine congrArg Nat.cast ?_; assumption)))
  (h5:aY (ToT (H++gh szs) H.length (cJ ids)) (rho ids) fr fr':=by(repeat' (first | exact aY.nil | exact aI.nil | exact bK.nil | exact ToL.nil | exact ToR.nil | refine aY.cons ?_ ?_ | refine aI.cons ?_ ?_ | refine fN ?_ ?_ | exact To.undef _ | exact To.sc _ | exact To.hslL rfl rfl | exact To.asl _ _ _ _ _ _ _ rfl | refine To.ifc _ _ _ ?_ | exact To.ptrO rfl rfl rfl | exact To.mrefO rfl | exact To.nil rfl rfl rfl | exact wt1 | exact To.nilL | refine To.int ?_ | refine To.bool ?_ | refine To.hslL rfl ?_ | refine wt2 rfl ?_ ?_ ?_ | refine To.tupL ?_ | refine To.aggL ?_ | refine To.cptrL ?_ | refine To.fzp rfl rfl rfl ?_ | refine To.fzm rfl rfl ?_ | refine To.cloL ?_ ?_ | refine wt3 ?_ | refine wt4 ?_ | refine ToB.one ?_ | exact wt5 | refine ToB.rowsR (ToR.cons ?_ ?_) | refine ToR.cons ?_ ?_ | refine wt6 ?_ | ((with_reducible apply ToL.consE); case e9=>rfl) | refine ToL.cons ?_ ?_ | exact wt7 | refine wt8 ?_ | exact wt11 | refine wt9 ?_ ?_ | refine gM ?_ | (with_reducible rfl) | assumption)); all_goals (first | rfl | assumption | (simp; done) | (simp; omega) | (rw[wrap_small (by omega) (by omega)]; done) | (rw[wrap_small (by omega) (by omega)]; omega) | (refine congrArg Nat.cast ?_; assumption))) (h1:jK 0 k ids=true:=by rfl) (h2:mN k ids (H++gh szs)=true:=by rfl) (h3:nE ids.flatten=true:=by rfl):Sub k N fr H fr' H':=.to szs ids h5 h4 h1 h2 h3
theorem Sub.wl {k N:Nat} {fr fr':Fr} {H H':Heap} (szs:List Nat) (ids:List (List (Nat×Nat))) (h4:aI (ToB (ToT (H++gh szs) H.length (cJ ids)) (rho ids)) (H++gh szs) ids H':=by(repeat' (first | exact aY.nil | exact aI.nil | exact bK.nil | exact ToL.nil | exact ToR.nil | refine aY.cons ?_ ?_ | refine aI.cons ?_ ?_ | refine fN ?_ ?_ | exact To.undef _ | exact To.sc _ | exact To.hslL rfl rfl | exact To.asl _ _ _ _ _ _ _ rfl | refine To.ifc _ _ _ ?_ | exact To.ptrO rfl rfl rfl | exact To.mrefO rfl | exact To.nil rfl rfl rfl | exact wt1 | exact To.nilL | refine To.int ?_ | refine To.bool ?_ | refine To.hslL rfl ?_ | refine wt2 rfl ?_ ?_ ?_ | refine To.tupL ?_ | refine To.aggL ?_ | refine To.cptrL ?_ | refine To.fzp rfl rfl rfl ?_ | refine To.fzm rfl rfl ?_ | refine To.cloL ?_ ?_ | refine wt3 ?_ | refine wt4 ?_ | exact wt5 | refine wt6 ?_ | refine ToB.one ?_ | exact wt7 | ((with_reducible apply ToL.consE); case e9=>rfl) | refine wt8 ?_ | refine ToL.cons ?_ ?_ | exact wt11 | refine wt9 ?_ ?_ | refine gM ?_ | exact .yld _ _ _ _ rfl | exact .dead _ | exact hlp _ _ _ _ rfl rfl rfl | exact hlp _ _ _ rfl rfl rfl | exact hlp _ _ _ rfl rfl | exact hlp _ _ _ rfl | (with_reducible rfl) | assumption)); all_goals (first | rfl | assumption | (simp; done) | (simp; omega) | (rw[wrap_small (by omega) (by omega)]; done) | (rw[wrap_small (by omega) (by omega)]; omega) | (refine congrArg Nat.cast ?_; assumption) | omega | (exact Av.wrap_small (by omega) (by omega))))
  (h5:aY (ToT (H++gh szs) H.length (cJ ids)) (rho ids) fr fr':=by(repeat' (first | exact aY.nil | exact aI.nil | exact bK.nil | exact ToL.nil | exact ToR.nil | refine aY.cons ?_ ?_ | refine aI.cons ?_ ?_ | refine fN ?_ ?_ | exact To.undef _ | exact To.sc _ | exact To.hslL rfl rfl | exact To.asl _ _ _ _ _ _ _ rfl | refine To.ifc _ _ _ ?_ | exact To.ptrO rfl rfl rfl | exact To.mrefO rfl | exact To.nil rfl rfl rfl | exact wt1 | exact To.nilL | refine To.int ?_ | refine To.bool ?_ | refine To.hslL rfl ?_ | refine wt2 rfl ?_ ?_ ?_ | refine To.tupL ?_ | refine To.aggL ?_ | refine To.cptrL ?_ | refine To.fzp rfl rfl rfl ?_ | refine To.fzm rfl rfl ?_ | refine To.cloL ?_ ?_ | refine wt3 ?_ | refine wt4 ?_ | exact wt5 | refine wt6 ?_ | refine ToB.one ?_ | exact wt7 | ((with_reducible apply ToL.consE); case e9=>rfl) | refine wt8 ?_ | refine ToL.cons ?_ ?_ | exact wt11 | refine wt9 ?_ ?_ | refine gM ?_ | exact .yld _ _ _ _ rfl | exact .dead _ | exact hlp _ _ _ _ rfl rfl rfl | exact hlp _ _ _ rfl rfl rfl | exact hlp _ _ _ rfl rfl | exact hlp _ _ _ rfl | (with_reducible rfl) | assumption)); all_goals (first | rfl | assumption | (simp; done) | (simp; omega) | (rw[wrap_small (by omega) (by omega)]; done) | (rw[wrap_small (by omega) (by omega)]; omega) | (refine congrArg Nat.cast ?_; assumption) | omega | (exact Av.wrap_small (by omega) (by omega)))) (h1:jK 0 k ids=true:=by rfl) (h2:mN k ids (H++gh szs)=true:=by rfl) (h3:nE ids.flatten=true:=by rfl):Sub k N fr H fr' H':=.to szs ids h5 h4 h1 h2 h3
theorem aG.w {rs:List kH} {X:AV} {e:Exit} {fr:Fr} {H:Heap} {res:AV} (he:e=.normal∨e=.ret:=by first | exact .inr rfl | exact .inl rfl) (h:l5 fr H rs=some res:=by rfl)
  (t:To (ToT (H++gh []) H.length (cJ [])) (rho []) res X:=by(repeat' (first | exact aY.nil | exact aI.nil | exact bK.nil | exact ToL.nil | exact ToR.nil | refine aY.cons ?_ ?_ | refine aI.cons ?_ ?_ | refine fN ?_ ?_ | exact To.undef _ | exact To.sc _ | exact To.hslL rfl rfl | exact To.asl _ _ _ _ _ _ _ rfl | refine To.ifc _ _ _ ?_ | exact To.ptrO rfl rfl rfl | exact To.mrefO rfl | exact To.nil rfl rfl rfl | exact wt1 | exact To.nilL | refine To.int ?_ | refine To.bool ?_ | refine To.hslL rfl ?_ | refine wt2 rfl ?_ ?_ ?_ | refine To.tupL ?_ | refine To.aggL ?_ | refine To.cptrL ?_ | refine To.fzp rfl rfl rfl ?_ | refine To.fzm rfl rfl ?_ | refine To.cloL ?_ ?_ | refine wt3 ?_ | refine wt4 ?_ | exact wt5 | refine wt6 ?_ | refine ToB.one ?_ | exact wt7 | ((with_reducible apply ToL.consE); case e9=>rfl) | refine wt8 ?_ | refine ToL.cons ?_ ?_ | exact wt11 | refine wt9 ?_ ?_ | refine gM ?_ | (with_reducible rfl) | assumption)); all_goals (first | rfl | assumption | (simp; done) | (simp; omega) | (rw[wrap_small (by omega) (by omega)]; done) | (rw[wrap_small (by omega) (by omega)]; omega) | (refine congrArg Nat.cast ?_; assumption))):aG rs X e fr H:=.mk he h rfl t
theorem endW {k:Nat} {rs:List kH} {fr:Fr} {H:Heap} {e:Exit} {R:AV→Heap→Prop} {res res':AV} {H2:Heap} (ids:List (List (Nat×Nat))) (hR:R res' H2) (he:e=.normal∨e=.ret:=by first | exact .inr rfl | exact .inl rfl) (hres:l5 fr H rs=some res:=by rfl)
  (h5:To (ToT (H++gh []) H.length (cJ ids)) (rho ids) res res':=by(repeat' (first | exact aY.nil | exact aI.nil | exact bK.nil | exact ToL.nil | exact ToR.nil | refine aY.cons ?_ ?_ | refine aI.cons ?_ ?_ | refine fN ?_ ?_ | exact To.undef _ | exact To.sc _ | exact To.hslL rfl rfl | exact To.asl _ _ _ _ _ _ _ rfl | refine To.ifc _ _ _ ?_ | exact To.ptrO rfl rfl rfl | exact To.mrefO rfl | exact To.nil rfl rfl rfl | exact wt1 | exact To.nilL | refine To.int ?_ | refine To.bool ?_ | refine To.hslL rfl ?_ | refine wt2 rfl ?_ ?_ ?_ | refine To.tupL ?_ | refine To.aggL ?_ | refine To.cptrL ?_ | refine To.fzp rfl rfl rfl ?_ | refine To.fzm rfl rfl ?_ | refine To.cloL ?_ ?_ | refine wt3 ?_ | refine wt4 ?_ | exact wt5 | refine wt6 ?_ | refine ToB.one ?_ | exact wt7 | ((with_reducible apply ToL.consE); case e9=>rfl) | refine wt8 ?_ | refine ToL.cons ?_ ?_ | exact wt11 | refine wt9 ?_ ?_ | refine gM ?_ | (with_reducible rfl) | assumption)); all_goals (first | rfl | assumption | (simp; done) | (simp; omega) | (rw[wrap_small (by omega) (by omega)]; done) | (rw[wrap_small (by omega) (by omega)]; omega) | (refine congrArg Nat.cast ?_; assumption))) (h4:aI (ToB (ToT (H++gh []) H.length (cJ ids)) (rho ids)) (H++gh []) ids H2:=by(repeat' (first | exact aY.nil | exact aI.nil | exact bK.nil | exact ToL.nil | exact ToR.nil | refine aY.cons ?_ ?_ | refine aI.cons ?_ ?_ | refine fN ?_ ?_ | exact To.undef _ | exact To.sc _ | exact To.hslL rfl rfl | exact To.asl _ _ _ _ _ _ _ rfl | refine To.ifc _ _ _ ?_ | exact To.ptrO rfl rfl rfl | exact To.mrefO rfl | exact To.nil rfl rfl rfl | exact wt1 | exact To.nilL | refine To.int ?_ | refine To.bool ?_ | refine To.hslL rfl ?_ | refine wt2 rfl ?_ ?_ ?_ | refine To.tupL ?_ | refine To.aggL ?_ | refine To.cptrL ?_ | refine To.fzp rfl rfl rfl ?_ | refine To.fzm rfl rfl ?_ | refine To.cloL ?_ ?_ | refine wt3 ?_ | refine wt4 ?_ | exact wt5 | refine wt6 ?_ | refine ToB.one ?_ | exact wt7 | ((with_reducible apply ToL.consE); case e9=>rfl) | refine wt8 ?_ | refine ToL.cons ?_ ?_ | exact wt11 | refine wt9 ?_ ?_ | refine gM ?_ | (with_reducible rfl) | assumption)); all_goals (first | rfl | assumption | (simp; done) | (simp; omega) | (rw[wrap_small (by omega) (by omega)]; done) | (rw[wrap_small (by omega) (by omega)]; omega) | (refine congrArg Nat.cast ?_; assumption))) (h1:jK 0 k ids=true:=by rfl) (h2:mN k ids (H++gh [])=true:=by rfl) (h3:nE ids.flatten=true:=by rfl):
  (e=.normal∨e=.ret)∧∃ res res' H2,l5 fr H rs=some res∧eO k H res H2 res'∧R res' H2:=iY ids he hres hR h5 h4 h1 h2 h3
abbrev oq (d:Nat) (x:IOp):IOper:=⟨some d,none,.op x⟩
abbrev ot (d g:Nat) (x:IOp):IOper:=⟨some d,some (g,true),.op x⟩
abbrev ou (d g:Nat) (x:IOp):IOper:=⟨some d,some (g,false),.op x⟩
abbrev os (x:IOp):IOper:=⟨none,none,.op x⟩
abbrev oc (d f:Nat) (l:List Operand):IOper:=⟨some d,none,.call f l⟩
abbrev oi (n:Int):Operand:=.const (.int .i64 n)
abbrev aB (d t:Nat):IOper:=⟨some d,none,.op (.move (.tmp t))⟩
abbrev aJ (d t:Nat):IOper:=⟨some d,none,.op (.load 1 false (.tmp t))⟩
abbrev aP (d n t:Nat):IOper:=⟨some d,none,.op (.fieldAddr n (.tmp t))⟩
abbrev bC (d:Nat) (n:Int):IOper:=⟨some d,none,.op (.move (.const (.int .i64 n)))⟩
abbrev aW (o:BinOp) (d t a b:Nat):IOper:=⟨some d,none,.op (.bin o t (.tmp a) (.tmp b))⟩
abbrev aX (o:BinOp) (d t a:Nat) (n:Int):IOper:=⟨some d,none,.op (.bin o t (.tmp a) (.const (.int .i64 n)))⟩
abbrev cI (d n a b:Nat):IOper:=⟨some d,none,.op (.idxSl n (.tmp a) (.tmp b))⟩
abbrev bV (d a k:Nat):IOper:=⟨some d,none,.op (.extract (.tmp a) k)⟩
abbrev cU (d a:Nat):IOper:=⟨some d,none,.op (.len (.tmp a))⟩
abbrev cB (d n a:Nat):IOper:=⟨some d,none,.op (.load n true (.tmp a))⟩
abbrev bQ (n a b:Nat):IOper:=⟨none,none,.op (.store n (.tmp a) (.tmp b))⟩
abbrev dB (n d t:Nat) (c:Bool):IOper:=⟨some d,some (n,c),.op (.move (.tmp t))⟩
abbrev sr (l:List IOper) (c:bL):bL:=.seq (.region l) c
abbrev cd (n:Nat) (a b:bL):bL:=.cond (.tmp n) a b
end Go.Av
namespace Go.Av
set_option maxRecDepth 20000
theorem FM {P:Program} {op:Op} {x:Operand} (h:HQ P op=some (.mop .next [x])):op=.next x false:=by
 unfold HQ at h;split at h
 ·revert h; split<;>simp
 ·simp only[oIn,IOp.mop.injEq,List.cons.injEq,and_true,true_and] at h
  subst h;rfl
 all_goals (revert h; (repeat' split)<;>simp; done)
theorem G2 {P:Program} {op:Op} {e:MOp} {xs:List Operand} (h:G5 P op=some (.mop e xs)):False:=by
 unfold G5 at h;split at h
 all_goals (revert h; (repeat' split)<;>simp; done)
theorem NG {P:Program} {op:Op} {e:MOp} {xs:List Operand} (h:cop P op=some (.mop e xs)):False:=by
 unfold cop at h;split at h
 all_goals (revert h; (repeat' split)<;>simp; done)
theorem FH {P:Program} {op:Op} {x:Operand} (h:uD P op=some (.op (.mop .next [x]))):op=.next x false:=by
 unfold uD at h;split at h
 ·rename_i io hx
  simp only[oIn,IAct.op.injEq] at h;subst h;exact FM hx
 split at h
 ·rename_i io hx
  simp only[oIn,IAct.op.injEq] at h;subst h;exact(G2 hx).elim
 ·unfold AE at h
  split at h
  ·cases h
  ·cases h
  ·cases h
  ·simp only[Option.map_eq_some_iff,IAct.op.injEq] at h
   obtain⟨a,ha,rfl⟩:=h;exact(NG ha).elim
theorem Reg.next {P:Program} {N k:Nat} {xs:List IOper} {fr:Fr} {H:Heap} {K:Fr→Heap→Prop} {d:Nat} {gd:Option (Nat×Bool)} {x:Operand} {g i:Nat} {cur:Option (Value×AV)} {es:List (Value×AV)} (hg:gok fr gd=some true)
  (hx:ev fr x=.ptr g i 0 0) (hh:hget H g i=some (.it cur es))
  (h0:es=[]→Reg P N k xs ((d,.tup [.sc (.bool false)])::fr) H K)
  (h1:∀ l1 y l2,es=l1++y::l2→Reg P N k xs ((d,.tup [.sc (.bool true),.sc y.1,y.2])::fr) (aK H g i (.it (some y) (l1++l2))) K):
  Reg P N k (⟨some d,gd,.op (.mop .next [x])⟩::xs) fr H K:=by
 intro ops l hm M J tmps w hF hH hM Q hQ
 cases l with
 | nil=>exact hm.elim
 | cons i0 l=>
  obtain⟨⟨o0,ho,hc⟩,hm'⟩:=hm;obtain⟨c1,c2,c3⟩:=d7 hc;have hw:=dW hF c2 hg;have hop:=FH c3;have rx:=aH (ds:=[]) hF x;rw[hx] at rx;simp only[wpOps,ho,hw,if_true];left;generalize hcv:Act.eval ⟨tmps,[]⟩ x=cv at rx
  cases rx with
  | ptr _ _ _ _ β lc hJ hb=>
   rw[Nat.zero_mul] at hcv;obtain⟨ob,e1,e2⟩:=hH.its hh hJ hb
   rcases DV (P:=P) hM e1 e2 o0.type with⟨e3,hrun⟩ | ⟨l1,l2,y,e,w1,ob',e3,hw1,hrun,e4,e5,e6,e7⟩
   ·have hrun2:(execOp (Act.eval ⟨tmps,[]⟩) o0).run P w=.ok (.value (.tuple #[.bool false])) w:=by simp[execOp,hop,hcv,hrun]
    simp only[Oper.wp,hrun2,Oper.upon];rw[dP]
    exact h0 e3 ops l hm' M J _ w (hF.put c1 (.tup _ _ rfl fun j c v a b=>by
     cases j with
     | zero=>simp at a b; subst a; subst b; exact .sc _
     | succ j=>simp at a)) hH hM Q hQ
   ·have hrun2:(execOp (Act.eval ⟨tmps,[]⟩) o0).run P w=.ok (.value (.tuple #[.bool true,e.key,e.val])) (ChangeMaps.setBlock w1 β ob'):=by simp[execOp,hop,hcv,hrun]
    have s1:aS k M J H w M J H w1:=by
     rcases hw1 with rfl | rfl
     ·exact .refl k hH hM
     ·exact aS.drew k hH hM rfl rfl rfl rfl
    have hw1h:w1.heap[β]?=some ob:=by rcases hw1 with rfl | rfl<;>exact e1
    have s2:aS k M J H w1 M J (aK H g i (.it (some y) (l1++l2))) (ChangeMaps.setBlock w1 β ob'):=by
     refine aS.write k s1.hrep s1.mrep g i lc β _ hh rfl hJ hb ob' _ (fun _=>⟨β,ob',hb,?_,e7⟩) rfl rfl rfl rfl;show(w1.heap.setIfInBounds β ob')[β]?=some ob';simp[bN hw1h]
    simp only[Oper.wp,hrun2,Oper.upon];rw[dP];have st:=s1.trans s2
    refine h1 l1 y l2 e3 ops l hm' M J _ _ (hF.put c1 (.tup _ _ rfl fun j c v a b=>?_)) st.hrep st.mrep Q fun a' w'' hp=>hQ a' w'' ?_
    ·match j with
     | 0=>simp at a b; subst a; subst b; exact .sc _
     | 1=>simp at a b; subst a; subst b; rw[← e4]; exact .sc _
     | 2=>simp at a b; subst a; subst b; exact e5
     | j+3=>simp at a
    ·obtain⟨M2,J2,fr2,H2,q1,q2,q3,q4⟩:=hp
     exact⟨M2,J2,fr2,H2,st.trans q1,q2,q3,q4⟩
end Go.Av
namespace Go.Av
inductive rJ:AV→Prop
 | undef:rJ .undef
 | sc (v:Value):rJ (.sc v)
 | agg (cs:List AV) (h:∀ c∈cs,rJ c):rJ (.agg cs)
 | tup (cs:List AV) (h:∀ c∈cs,rJ c):rJ (.tup cs)
 | ptr (g i r o:Nat):rJ (.ptr g i r o)
 | hsl (g i s l:Nat):rJ (.hsl g i s l)
 | mref (g i:Nat):rJ (.mref g i)
theorem Rep.anyM {M J} {a:AV} {v:Value} (h:Rep M J a v) (hb:rJ a) (M':Mem):Rep M' J a v:=by
 induction hb generalizing v with
 | undef=>cases h; exact .undef _
 | sc v=>cases h; exact .sc _
 | agg cs _ ih=>
  cases h with
  | agg _ cvs hl hr=>exact .agg _ cvs hl fun j c v a b=>ih c (mOg a) (hr j c v a b)
 | tup cs _ ih=>
  cases h with
  | tup _ cvs hl hr=>exact .tup _ cvs hl fun j c v a b=>ih c (mOg a) (hr j c v a b)
 | ptr g i r o=>cases h with | ptr _ _ _ _ β l hJ hb=>exact .ptr _ _ _ _ β l hJ hb
 | hsl g i s l=>
  cases h with
  | hsl _ _ _ _ cap β l hJ hb hc hlc=>exact .hsl _ _ _ _ cap β l hJ hb hc hlc
  | hslNil _ _ a l hJ hb=>exact .hslNil _ _ a l hJ hb
 | mref g i=>cases h with | mref _ _ β l hJ hb=>exact .mref _ _ β l hJ hb
def N6:Blk→Prop
 | .dead=>True
 | .cells _ rows=>∀ r∈rows,∀ c∈r,rJ c
 | _=>False
theorem eQ.anyM {M J} {l:Loc} {h:Array Obj} {x:Blk} (hb:eQ M J l h x) (hx:N6 x) (M':Mem):eQ M' J l h x:=by
 cases x with
 | dead=>trivial
 | cells sz rows=>
  obtain⟨h1,h2,h3⟩:=hb;refine⟨h1,h2,?_⟩
  cases e:l.blk with
  | none=>rw[e] at h3; exact h3
  | some β=>
   rw[e] at h3;obtain⟨cs,t,a,b,c,o,d⟩:=h3;exact⟨cs,t,a,b,c,o,fun i r j c v x y z=>(d i r j c v x y z).anyM (hx r (mOg x) c (mOg y)) M'⟩
 | _=>exact hx.elim
theorem aE.viewF {P:Program} {f:FuncId} {args args':List AV} {R R':AV→Heap→Prop} {H:Heap} (h:aE P f args' [] R) (ha:ToL (ToT (H++gh []) H.length (cJ [])) (rho []) args args')
  (hR:∀ res H0,R res H0→rJ res∧(∀ g i x,hget H0 g i=some x→N6 x)∧∃ res' H0',Ren (beh H.length) res res'∧(∀ g i x',hget H0' g i=some x'→x'.live=true→∃ x,hget H0 g i=some x∧eY (beh H.length) x x')∧(∀ g i,(hget H0 g i).isSome→(hget H0' g i).isSome)∧R' res' (H++H0')):aE P f args H R':=by
 refine⟨h.1,fun M J w cargs hl hr hH hM=>?_⟩;obtain⟨h1,h2⟩:=ha.spec;obtain⟨M1,J1,s1,t1⟩:=rS (k:=0) (szs:=[]) (ids:=[]) (H':=[]) hH hM rfl rfl rfl trivial;refine(h.2 M1 J1 w cargs (by omega) (fun j c x a b=>?_) s1.hrep s1.mrep).mono ?_
 ·obtain⟨c0,hc0⟩:=aT h1 a
  exact t1 _ _ _ (h2 j c0 c hc0 a) (hr j c0 x hc0 b)
 rintro e w' ⟨cv,M',J',res,H0,rfl,hs,hrep,hr0⟩;obtain⟨b1,b2,res',H0',r1,r2,r3,r4⟩:=hR res H0 hr0
 have hno:∀ g i,¬ aQ [] g i:=by
  rintro g i ⟨x,hx,_⟩;simp[hget] at hx
 have hsame:∀(β:Nat) o,w.heap[β]?=some o→w'.heap[β]?=some o:=fun β o ho=>hs.frame β o ho fun g i l hl _=>absurd hl (hno g i)
 let J2:Inj:=fun a b=>if a < H.length then J a b else J' (a - H.length) b
 have hJlt:∀ g i l,J g i=some l→g < H.length:=fun g i l hJ=>fT ((hH.dom g i l hJ).1)
 have x1:Ext M J M J2:=⟨fun _ _ h=>h,fun g i l hJ=>by
  show(if g < H.length then J g i else J' (g - H.length) i)=some l
  rw[if_pos (hJlt g i l hJ)]; exact hJ⟩
 have x2:Ext M (J'.via (beh H.length)) M J2:=⟨fun _ _ h=>h,fun a b l hJ=>by
  show(if a < H.length then J a b else J' (a - H.length) b)=some l
  by_cases hlt:a < H.length
  ·unfold Inj.via at hJ
   rw[IP hlt] at hJ
   cases hJ
  ·rw[if_neg hlt]
   unfold Inj.via at hJ;rw[uM (by omega)] at hJ
   exact hJ⟩
 have hl1:∀ a b,a < H.length→aQ (H++H0') a b→aQ H a b:=by
  rintro a b hlt ⟨x,hx,hxl⟩;rw[fL hlt] at hx;exact⟨x,hx,hxl⟩
 have hl2:∀ a b,H.length≤a→aQ (H++H0') a b→aQ H0 (a - H.length) b:=by
  rintro a b hge ⟨x,hx,hxl⟩;rw[fJ hge] at hx;obtain⟨y,hy,hb⟩:=r2 _ _ x hx hxl;exact⟨y,hy,hb.live hxl⟩
 have j1:∀ {a b:Nat} {l:Loc},a < H.length→J2 a b=some l→J a b=some l:=fun {a b l} hlt hJ=>by
  have:(if a < H.length then J a b else J' (a - H.length) b)=some l:=hJ
  rwa[if_pos hlt] at this
 have j2:∀ {a b:Nat} {l:Loc},H.length≤a→J2 a b=some l→J' (a - H.length) b=some l:=fun {a b l} hge hJ=>by
  have:(if a < H.length then J a b else J' (a - H.length) b)=some l:=hJ
  rwa[if_neg (by omega)] at this
 have hnew:∀ g i l β,aQ H0 g i→J' g i=some l→l.blk=some β→w.heap.size≤β:=fun g i l β a b c=>by
  rcases hs.live g i l β a b c with⟨g0,i0,l0,q,_⟩ | q
  ·exact absurd q (hno g0 i0)
  ·exact q
 refine⟨cv,M,J2,res',H++H0',rfl,⟨fun _ _ h=>h,fun g i l hg hJ=>x1.j g i l hJ,⟨?_,?_,?_,?_⟩,fun β o ho=>hsame β o (hM β o ho),hs.os,hs.tape,hs.output,hs.size,fun β o ho _=>hsame β o ho,fun β o ho=>.inl ho,?_,hs.bk⟩,((hrep.anyM b1 M).ren r1).ext x2,r4⟩
 ·intro a b x hx hxl
  by_cases hlt:a < H.length
  ·rw[fL hlt] at hx
   obtain⟨l,p,q⟩:=hH.blk a b x hx hxl;refine⟨l,x1.j a b l p,q.ext x1 fun β hβ=>?_⟩;have hb:=(hH.dom a b l p).2 β hβ;rw[Array.getElem?_eq_getElem hb];exact hsame β _ (Array.getElem?_eq_getElem hb)
  ·rw[fJ (by omega)] at hx
   obtain⟨y,hy,hb⟩:=r2 _ _ x hx hxl;obtain⟨l,p,q⟩:=hs.hrep.blk _ _ y hy (hb.live hxl);refine⟨l,x2.j a b l ?_,((q.anyM (b2 _ _ y hy) M).ren hb).ext x2 fun β _=>rfl⟩;unfold Inj.via;rw[uM (by omega)];exact p
 ·intro a b a' b' l l' β la lb ja jb ba bb
  by_cases h1:a < H.length
  ·by_cases h2:a' < H.length
   ·exact hH.inj a b a' b' l l' β (hl1 a b h1 la) (hl1 a' b' h2 lb) (j1 h1 ja) (j1 h2 jb) ba bb
   ·have q1:=(hH.dom a b l (j1 h1 ja)).2 β ba
    have q2:=hnew _ _ l' β (hl2 a' b' (by omega) lb) (j2 (by omega) jb) bb;omega
  ·by_cases h2:a' < H.length
   ·have q1:=(hH.dom a' b' l' (j1 h2 jb)).2 β bb
    have q2:=hnew _ _ l β (hl2 a b (by omega) la) (j2 (by omega) ja) ba;omega
   ·have:=hs.hrep.inj _ _ _ _ l l' β (hl2 a b (by omega) la) (hl2 a' b' (by omega) lb) (j2 (by omega) ja) (j2 (by omega) jb) ba bb
    exact⟨by omega,this.2⟩
 ·intro a b l β la ja ba
  by_cases h1:a < H.length
  ·exact hH.out a b l β (hl1 a b h1 la) (j1 h1 ja) ba
  ·exact hM.lt (hnew _ _ l β (hl2 a b (by omega) la) (j2 (by omega) ja) ba)
 ·intro a b l ja
  by_cases h1:a < H.length
  ·have:=hH.dom a b l (j1 h1 ja)
   exact⟨by rw[fL h1]; exact this.1,fun β hβ=>Nat.lt_of_lt_of_le (this.2 β hβ) hs.size⟩
  ·have:=hs.hrep.dom _ _ l (j2 (by omega) ja)
   exact⟨by rw[fJ (by omega)]; exact r3 _ _ this.1,this.2⟩
 ·intro a b l β la ja ba
  by_cases h1:a < H.length
  ·exact .inl ⟨a,b,l,hl1 a b h1 la,j1 h1 ja,ba⟩
  ·exact .inr (hnew _ _ l β (hl2 a b (by omega) la) (j2 (by omega) ja) ba)
theorem aE.viewL {P:Program} {f:FuncId} {args args':List AV} {n sz:Nat} {rows:List (List AV)} {H:Heap} (hb:∀ r∈rows,∀ c∈r,∃ v,c=.sc v) (h:aE P f args' [] fun res H'=>res=.hsl 0 0 0 n∧H'=[[.cells sz rows]]) (ha:ToL (ToT (H++gh []) H.length (cJ [])) (rho []) args args'):
  aE P f args H fun res H'=>res=.hsl H.length 0 0 n∧H'=H++[[.cells sz rows]]:=by
 refine h.viewF ha ?_;rintro res H0 ⟨rfl,rfl⟩;refine⟨.hsl ..,fun g i x hx=>?_,.hsl H.length 0 0 n,[[.cells sz rows]],.hsl _ _ _ _ _ _ (by rw[uM (Nat.le_refl _),Nat.sub_self]),fun g i x' hx hl=>⟨x',hx,?_⟩,fun _ _ h=>h,rfl,rfl⟩
 ·match g,i with
  | 0,0=>
   injection hx with hx
   subst hx;intro r hr c hc;obtain⟨v,rfl⟩:=hb r hr c hc;exact .sc v
  | 0,i+1=>simp[hget] at hx
  | g+1,i=>simp[hget] at hx
 ·match g,i with
  | 0,0=>
   injection hx with hx
   subst hx
   exact .pure _ _ fun r hr c hc=>by
    obtain⟨v,rfl⟩:=hb r hr c hc;exact .sc v
  | 0,i+1=>simp[hget] at hx
  | g+1,i=>simp[hget] at hx
end Go.Av
namespace Go.Av
def eqV (a b:Value):Bool:=
 match a with
 | .int k n=>match b with
  | .int k' n'=>decide (k=k') && decide (n=n')
  | _=>false
 | .bool x=>match b with
  | .bool y=>match x with
   | true=>y
   | false=>!y
  | _=>false
 | .slice none 0 0=>match b with
  | .slice none 0 0=>true
  | _=>false
 | .pointer none=>match b with
  | .pointer none=>true
  | _=>false
 | .map none=>match b with
  | .map none=>true
  | _=>false
 | _=>false
theorem vH {a b:Value} (h:eqV a b=true):a=b:=by
 unfold eqV at h;split at h
 ·split at h
  ·simp only[bAe,decide_eq_true_eq] at h
   rw[h.1,h.2]
  ·cases h
 ·split at h
  ·rename_i x _ y
   cases x<;>cases y<;>first | rfl | cases h
  ·cases h
 ·split at h
  ·rfl
  ·cases h
 ·split at h
  ·rfl
  ·cases h
 ·split at h
  ·rfl
  ·cases h
 ·cases h
def eqN (a b:Nat):Bool:=Nat.beq a b
theorem cR {a b:Nat} (h:eqN a b=true):a=b:=nEb h
mutual
def eqA:AV→AV→Bool
 | .undef,b=>match b with
  | .undef=>true
  | _=>false
 | .sc u,b=>match b with
  | .sc v=>eqV u v
  | _=>false
 | .agg l,b=>match b with
  | .agg m=>eqL l m
  | _=>false
 | .tup _,_=>false
 | .list s r,b=>match b with
  | .list s' r'=>eqN s s' && eqR r r'
  | _=>false
 | .cptr l,b=>match b with
  | .cptr m=>eqL l m
  | _=>false
 | .tmap _,_=>false
 | .ptr g i r o,b=>match b with
  | .ptr g' i' r' o'=>(eqN g g' && eqN i i') && (eqN r r' && eqN o o')
  | _=>false
 | .hsl g i r o,b=>match b with
  | .hsl g' i' r' o'=>(eqN g g' && eqN i i') && (eqN r r' && eqN o o')
  | _=>false
 | .mref g i,b=>match b with
  | .mref g' i'=>eqN g g' && eqN i i'
  | _=>false
 | .clo _ _ _,_=>false
 | .yld _ _,_=>false
 | .asl _ _ _ _ _,_=>false
 | .ifc t a,b=>match b with
  | .ifc t' b'=>eqN t t' && eqA a b'
  | _=>false
 | .one,_=>false
def eqL:List AV→List AV→Bool
 | [],m=>match m with
  | []=>true
  | _=>false
 | a::l,m=>match m with
  | b::m=>eqA a b && eqL l m
  | []=>false
def eqR:List (List AV)→List (List AV)→Bool
 | [],m=>match m with
  | []=>true
  | _=>false
 | a::l,m=>match m with
  | b::m=>eqL a b && eqR l m
  | []=>false
end
mutual
theorem pJ:∀(a b:AV),eqA a b=true→a=b
 | .undef,b,h=>by
  simp only[eqA] at h;split at h
  ·rfl
  ·cases h
 | .sc u,b,h=>by
  simp only[eqA] at h;split at h
  ·rw[vH h]
  ·cases h
 | .agg l,b,h=>by
  simp only[eqA] at h;split at h
  ·rw[mL l _ h]
  ·cases h
 | .tup _,_,h=>by simp only[eqA] at h; cases h
 | .list s r,b,h=>by
  simp only[eqA] at h;split at h
  ·simp only[bAe] at h
   rw[cR h.1,pF r _ h.2]
  ·cases h
 | .cptr l,b,h=>by
  simp only[eqA] at h;split at h
  ·rw[mL l _ h]
  ·cases h
 | .tmap _,_,h=>by simp only[eqA] at h; cases h
 | .ptr g i r o,b,h=>by
  simp only[eqA] at h;split at h
  ·simp only[bAe] at h
   rw[cR h.1.1,cR h.1.2,cR h.2.1,cR h.2.2]
  ·cases h
 | .hsl g i r o,b,h=>by
  simp only[eqA] at h;split at h
  ·simp only[bAe] at h
   rw[cR h.1.1,cR h.1.2,cR h.2.1,cR h.2.2]
  ·cases h
 | .mref g i,b,h=>by
  simp only[eqA] at h;split at h
  ·simp only[bAe] at h
   rw[cR h.1,cR h.2]
  ·cases h
 | .clo _ _ _,_,h=>by simp only[eqA] at h; cases h
 | .yld _ _,_,h=>by simp only[eqA] at h; cases h
 | .asl _ _ _ _ _,_,h=>by simp only[eqA] at h; cases h
 | .ifc t a,b,h=>by
  simp only[eqA] at h;split at h
  ·simp only[bAe] at h
   rw[cR h.1,pJ a _ h.2]
  ·cases h
 | .one,_,h=>by simp only[eqA] at h; cases h
theorem mL:∀(a b:List AV),eqL a b=true→a=b
 | [],b,h=>by
  simp only[eqL] at h;split at h
  ·rfl
  ·cases h
 | a::l,m,h=>by
  simp only[eqL] at h;split at h
  ·simp only[bAe] at h
   rw[pJ a _ h.1,mL l _ h.2]
  ·cases h
theorem pF:∀(a b:List (List AV)),eqR a b=true→a=b
 | [],b,h=>by
  simp only[eqR] at h;split at h
  ·rfl
  ·cases h
 | a::l,m,h=>by
  simp only[eqR] at h;split at h
  ·simp only[bAe] at h
   rw[mL a _ h.1,pF l _ h.2]
  ·cases h
end
def eqM:List (Value×AV)→List (Value×AV)→Bool
 | [],m=>match m with
  | []=>true
  | _=>false
 | (k,a)::l,m=>match m with
  | (k',b)::m=>(eqV k k' && eqA a b) && eqM l m
  | []=>false
theorem wA:∀(a b:List (Value×AV)),eqM a b=true→a=b
 | [],b,h=>by
  simp only[eqM] at h;split at h
  ·rfl
  ·cases h
 | (k,a)::l,m,h=>by
  simp only[eqM] at h;split at h
  ·simp only[bAe] at h
   rw[vH h.1.1,pJ a _ h.1.2,wA l _ h.2]
  ·cases h
def eqB:Option Blk→Option Blk→Bool
 | none,y=>match y with
  | none=>true
  | _=>false
 | some x,y=>match y with
  | none=>false
  | some y=>match x with
   | .dead=>match y with
    | .dead=>true
    | _=>false
   | .cells s r=>match y with
    | .cells s' r'=>eqN s s' && eqR r r'
    | _=>false
   | .map es=>match y with
    | .map es'=>eqM es es'
    | _=>false
   | _=>false
theorem FI {a b:Option Blk} (h:eqB a b=true):a=b:=by
 unfold eqB at h;split at h
 ·split at h
  ·rfl
  ·cases h
 ·split at h
  ·cases h
  ·split at h
   ·split at h
    ·rfl
    ·cases h
   ·split at h
    ·simp only[bAe] at h
     rw[cR h.1,pF _ _ h.2]
    ·cases h
   ·split at h
    ·rw[wA _ _ h]
    ·cases h
   ·cases h
def xR:List (Nat×Nat)→Heap→Heap→Bool
 | [],_,_=>true
 | q::r,H,H'=>eqB (hget H' q.1 q.2) (hget H q.1 q.2) && xR r H H'
theorem nR {H H':Heap}:∀(l:List (Nat×Nat)),xR l H H'=true→eZ l H H'
 | [],_=>trivial
 | q::r,h=>by
  simp only[xR,bAe] at h;exact⟨FI h.1,nR r h.2⟩
def N9 (cl:List Nat) (zs:List IOper):List Nat→List Nat→Option (Nat×List Nat)
 | _,[]=>none
 | A,i::B=>match zs[i]? with
  | some x=>match BH x && (A.all (fun j=>!bef cl i j && pA zs x j) && B.all (fun j=>bef cl i j || pA zs x j)) with
   | true=>some (i,A++B)
   | false=>N9 cl zs (A++[i]) B
  | none=>none
def HA (cl:List Nat) (zs:List IOper):Nat→List Nat→List (Bool×Nat)
 | 0,_=>[]
 | f+1,rem=>match rem with
  | []=>[]
  | a::r=>match N9 cl zs [] (a::r) with
   | some (i,rem')=>(true,i)::HA cl zs f rem'
   | none=>(false,a)::HA cl zs f r
noncomputable def QA (T:FT) (x:IOper):List (Nat×Nat):=
 match x.act with
 | .op o=>NF T.evK o
 | _=>[]
theorem L6 {fr:Fr} {T:FT} (h:AgT fr T) (x:IOper):rdX fr x=QA T x:=by
 obtain⟨d,g,a⟩:=x
 cases a with
 | op o=>
  show drd fr o=NF T.evK o;rw[EL,h.evK]
 | _=>rfl
section
variable {P:Program} {N k:Nat} {call:bT}
theorem OO (hcall:cN P call) {x:IOper} {pr:List (Nat×Nat)} {T:FT} {H:Heap} {T':FT} {H':Heap} (h:iV call k [x] T H=.out T' H') (hp:eZ pr H H') {fr:Fr} (ha:AgT fr T):RT P k [(x,pr)] fr H fun fr' H2=>AgT fr' T'∧H2=H':=by
 obtain⟨d,gd,a⟩:=x;replace h:IS call k d a (iV call k []) gd T H=.out T' H':=h
 have fin:∀ {T1:FT} {H1:Heap} {fr1:Fr},iV call k [] T1 H1=.out T' H'→AgT fr1 T1→RT P k [] fr1 H1 fun fr' H2=>AgT fr' T'∧H2=H':=fun h ha=>by
  injection h with h1 h2
  subst h1; subst h2;exact .nil ⟨ha,rfl⟩
 have hH:∀ {T1:FT} {H1:Heap},iV call k [] T1 H1=.out T' H'→H1=H':=fun h=>by injection h
 have act:∀ {gd:Option (Nat×Bool)},gok fr gd=some true→jR call k d (iV call k []) a T H=.out T' H'→RT P k [(⟨d,gd,a⟩,pr)] fr H fun fr' H2=>AgT fr' T'∧H2=H':=by
  intro gd hg h
  cases a with
  | op o=>
   simp only[jR] at h;unfold CM at h;split at h
   ·rename_i v H1 e
    rw[← ha.evK,bS] at e;obtain⟨T1,h1,h2⟩:=dE h ha;have:=hH h2;subst this;exact .op (x:=⟨d,gd,.op o⟩) hg rfl (kJ e) hp (fin h2 h1)
   ·cases h
  | call f args=>
   simp only[jR] at h
   cases hb:Nat.ble k (cV H) with
   | false=>rw[hb] at h; cases h
   | true=>
    rw[hb] at h
    have hk:k≤H.length:=by rw[← bS]; exact nlB hb
    replace h:eB d T (iV call k []) (call.run f (mapK T args) H)=.out T' H':=h;unfold eB at h;split at h
    ·rename_i v H1 e
     obtain⟨T1,h1,h2⟩:=dE h ha;have:=hH h2;subst this;refine .call (x:=⟨d,gd,.call f args⟩) (R:=fun r H2=>r=v∧H2=H1) hk hg rfl ?_ (fun res H2 hr=>by rw[hr.2]; exact hp) ?_
     ·rw[ha.mapK]
      exact hcall.run f _ H v _ e
     ·rintro res H2 ⟨rfl,rfl⟩
      exact fin h2 h1
    ·cases h
  | callV f args=>
   simp only[jR] at h
   cases hb:Nat.ble k (cV H) with
   | false=>rw[hb] at h; cases h
   | true=>
    rw[hb] at h
    have hk:k≤H.length:=by rw[← bS]; exact nlB hb
    replace h:oJ call d (mapK T args) T H (iV call k []) (lE T f)=.out T' H':=h
    have fin2:∀ {g:FuncId} {fs cs:List AV},eB d T (iV call k []) (call.run g (fs++mapK T args++cs) H)=.out T' H'→evC P fr f=.clo (.func g) fs cs→RT P k [(⟨d,gd,.callV f args⟩,pr)] fr H fun fr' H2=>AgT fr' T'∧H2=H':=by
     intro g fs cs h ef;unfold eB at h;split at h
     ·rename_i v H1 e
      obtain⟨T1,h1,h2⟩:=dE h ha;have:=hH h2;subst this;refine .callV (x:=⟨d,gd,.callV f args⟩) (f:=f) (g:=g) (fs:=fs) (cs:=cs) (R:=fun r H2=>r=v∧H2=H1) hk hg rfl ef ?_ (fun res H2 hr=>by rw[hr.2]; exact hp) ?_
      ·rw[ha.mapK]
       exact hcall.run g _ H v _ e
      ·rintro res H2 ⟨rfl,rfl⟩
       exact fin h2 h1
     ·cases h
    unfold oJ at h;split at h
    ·rename_i g fs cs ef
     exact fin2 h (xC ha ef)
    ·rename_i name fs cs ef
     unfold wT at h;split at h
     ·rename_i t a
      split at h
      ·rename_i g hm
       exact fin2 (fs:=[a]) (cs:=[]) h (vG ha ef (hcall.mth _ _ _ hm))
      ·cases h
     ·cases h
    ·cases h
 cases gd with
 | none=>exact act rfl h
 | some p=>
  obtain⟨t,b⟩:=p
  rcases DP ha h with⟨h1,h2⟩ | ⟨h1,h2⟩
  ·exact act h1 h2
  ·obtain⟨T1,h3,h4⟩:=dE h2 ha
   exact .skip (x:=⟨d,some (t,b),a⟩) h1 (fin h4 h3)
noncomputable def kV (call:bT) (k:Nat) (cl:List Nat) (zs:List IOper):List (Bool×Nat)→List (Nat×List (Nat×Nat))→FT→Heap→RR
 | [],_,T,H=>.out T H
 | (true,i)::pl,pend,T,H=>match zs[i]? with
  | some x=>match iV call k [x] T H with
   | .out T' H'=>kV call k cl zs pl (PP i (QA T x) pend) T' H'
   | .stuck=>.stuck
  | none=>.stuck
 | (false,i)::pl,pend,T,H=>match zs[i]? with
  | some x=>match iV call k [x] T H with
   | .out T' H'=>match xR (fF cl pend i) H H' with
    | true=>kV call k cl zs pl pend T' H'
    | false=>.stuck
   | .stuck=>.stuck
  | none=>.stuck
theorem nA (hcall:cN P call) {cl:List Nat} {zs:List IOper} {T':FT} {H':Heap} {K:Fr→Heap→Prop} (hK:∀ fr',AgT fr' T'→K fr' H'):∀(pl:List (Bool×Nat)) (pend:List (Nat×List (Nat×Nat))) (T:FT) (H:Heap) (fr:Fr),kV call k cl zs pl pend T H=.out T' H'→AgT fr T →
  LP P k cl zs pl pend fr H K
 | [],pend,T,H,fr,h,ha=>by
  injection h with h1 h2
  subst h1; subst h2;exact hK fr ha
 | (true,i)::pl,pend,T,H,fr,h,ha=>by
  simp only[kV] at h;split at h
  ·rename_i x hx
   split at h
   ·rename_i T1 H1 hr
    refine⟨x,QA T x,hx,fun q hq=>by rw[← L6 ha]; exact hq,(OO (pr:=[]) hcall hr trivial ha).mono ?_⟩;rintro fr1 H2 ⟨ha1,rfl⟩;exact nA hcall hK pl _ T1 _ fr1 h ha1
   ·cases h
  ·cases h
 | (false,i)::pl,pend,T,H,fr,h,ha=>by
  simp only[kV] at h;split at h
  ·rename_i x hx
   split at h
   ·rename_i T1 H1 hr
    split at h
    ·rename_i hk
     refine⟨x,hx,(OO hcall hr (nR _ hk) ha).mono ?_⟩;rintro fr1 H2 ⟨ha1,rfl⟩;exact nA hcall hK pl _ T1 _ fr1 h ha1
    ·cases h
   ·cases h
  ·cases h
noncomputable def PC (call:bT) (k:Nat) (cl:List Nat) (zs:List IOper) (af:List (List Nat)) (pl:List (Bool×Nat)) (T:FT) (H:Heap):XR:=
 match qA 0 af && okP cl zs pl (List.range zs.length) with
 | true=>(kV call k cl zs pl [] T H).x
 | false=>.stuck
theorem CT (hp:P.follows .mixedOrders=true) (hcall:cN P call) {zs:List IOper} {af:List (List Nat)} {pl:List (Bool×Nat)} {T:FT} {H:Heap} {e:Exit} {T':FT} {H':Heap} (h:PC call k (clo af) zs af pl T H=.out e T' H') {fr:Fr} (ha:AgT fr T)
  {Q:Exit→Fr→Heap→Prop} (hQ:∀ fr',AgT fr' T'→Q e fr' H'):AWP P N k (.draw zs af) Q fr H:=by
 unfold PC at h;split at h
 ·rename_i hb
  simp only[bAe] at hb;obtain⟨rfl,hr⟩:=RR.x_out h;refine AWP.lin pl hp hb.1 hb.2 ?_;exact nA hcall hQ pl [] T H fr hr ha
 ·cases h
noncomputable def EG (call:bT) (k:Nat) (zs:List IOper) (af:List (List Nat)) (T:FT) (H:Heap):XR:=
 match KB call k zs af T H with
 | .out e T' H'=>.out e T' H'
 | .stuck=>PC call k (clo af) zs af (HA (clo af) zs zs.length (List.range zs.length)) T H
theorem jE (hp:P.follows .mixedOrders=true) (hcall:cN P call) {zs:List IOper} {af:List (List Nat)} {T:FT} {H:Heap} {e:Exit} {T':FT} {H':Heap} (h:EG call k zs af T H=.out e T' H') {fr:Fr} (ha:AgT fr T)
  {Q:Exit→Fr→Heap→Prop} (hQ:∀ fr',AgT fr' T'→Q e fr' H'):AWP P N k (.draw zs af) Q fr H:=by
 unfold EG at h;split at h
 ·rename_i e1 T1 H1 hd
  injection h with h1 h2 h3
  subst h1; subst h2; subst h3;exact zM hp hcall hd ha hQ
 ·exact CT hp hcall h ha hQ
end
section
variable {P:Program} {N k fuel:Nat} {call:bT}
end
def fn1 (a:AV):AV:=
 match a with
 | .sc (.func (.func f) ⟨[]⟩ ⟨[]⟩)=>.clo (.func f) [] []
 | a=>a
noncomputable def fnA (l:List AV):List AV:=List.rec (motive:=fun _=>List AV) [] (fun a _ ih=>fn1 a::ih) l
theorem PL (l:List AV):fnA l=l.map fn1:=by
 induction l with
 | nil=>rfl
 | cons a l ih=>
  show fn1 a::fnA l=_;rw[ih];rfl
theorem QD (a:AV):Le a (fn1 a):=by
 unfold fn1;split
 ·exact Le.func _
 ·exact fun _ _ _ h=>h
theorem aE.fnA {P:Program} {f:FuncId} {args:List AV} {H:Heap} {R:AV→Heap→Prop} (h:aE P f (fnA args) H R):aE P f args H R:=by
 rw[PL] at h
 refine h.args (by simp) fun j a b ha hb=>?_
 rw[List.getElem?_map,ha] at hb
 injection hb with hb
 subst hb;exact QD a
end Go.Av
namespace Go.Av
inductive FK where
 | c (ps:List (Nat×Nat))
 | w (g n:Nat) (ps:List (Nat×Nat))
 | r (g n k:Nat) (p:Nat×Nat)
def FK.l:FK→List (Nat×Nat)
 | .c ps=>ps
 | .w g n ps=>(List.range n).map (fun i=>(g,i))++ps
 | .r g n k p=>(List.range n).map fun i=>if i=k then p else(g,i)
def FK.ps:FK→List (Nat×Nat)
 | .c ps=>ps
 | .w _ _ ps=>ps
 | .r _ _ _ p=>[p]
def FK.gs:FK→List Nat
 | .c _=>[]
 | .w g _ _=>[g]
 | .r g _ _ _=>[g]
def idK (ks:List FK):List (List (Nat×Nat)):=ks.map FK.l
def o6 (ks:List FK) (g i:Nat):Bool:=!(FL (g,i) (ks.map FK.ps).flatten || (ks.map FK.gs).flatten.any fun x=>Nat.beq g x)
def C4:List Nat→Bool
 | []=>true
 | x::l=>!(l.any fun y=>Nat.beq x y) && C4 l
def okK (ks:List FK):Bool:=nE (ks.map FK.ps).flatten && (C4 (ks.map FK.gs).flatten && (ks.map FK.ps).flatten.all fun p=>!((ks.map FK.gs).flatten.any fun x=>Nat.beq p.1 x))
theorem r9:∀ {l:List Nat},C4 l=true→l.Nodup
 | [],_=>List.nodup_nil
 | x::l,h=>by
  simp only[C4,bAe,Bool.not_eq_true'] at h;refine List.nodup_cons.2 ⟨fun hm=>?_,r9 h.2⟩;have:(l.any fun y=>Nat.beq x y)=true:=List.any_eq_true.2 ⟨x,hm,by simp⟩;rw[this] at h
  cases h.1
theorem FK.mem {k:FK} {p:Nat×Nat} (h:p∈k.l):p∈k.ps∨p.1∈k.gs:=by
 cases k with
 | c ps=>exact .inl h
 | w g n ps=>
  rcases List.mem_append.1 h with h | h
  ·obtain⟨i,_,rfl⟩:=List.mem_map.1 h
   exact .inr (by simp[FK.gs])
  ·exact .inl h
 | r g n k p=>
  obtain⟨i,_,e⟩:=List.mem_map.1 h;split at e
  ·exact .inl (by rw[← e]; simp[FK.ps])
  ·exact .inr (by rw[← e]; simp[FK.gs])
theorem vY {ks:List FK} (h:okK ks=true):(idK ks).flatten.Nodup:=by
 unfold okK at h;simp only[bAe] at h;obtain⟨g1,g2,g3⟩:=h;have h1:=mH g1;have h2:=r9 g2;rw[List.all_eq_true] at g3
 have h3:∀ p∈(ks.map FK.ps).flatten,p.1∉(ks.map FK.gs).flatten:=fun p hp hg=>by
  have:=g3 p hp;rw[show((ks.map FK.gs).flatten.any fun x=>Nat.beq p.1 x)=true from List.any_eq_true.2 ⟨p.1,hg,by simp⟩] at this
  cases this
 clear g1 g2 g3;unfold idK
 induction ks with
 | nil=>exact List.nodup_nil
 | cons k ks ih=>
  simp only[List.map_cons,List.flatten_cons] at h1 h2 h3 ⊢;obtain⟨a1,a2,a3⟩:=List.nodup_append.1 h1;obtain⟨b1,b2,b3⟩:=List.nodup_append.1 h2;refine List.nodup_append.2 ⟨?_,ih a2 b2 fun p hp hg=>h3 p (List.mem_append_right _ hp) (List.mem_append_right _ hg),?_⟩
  ·cases k with
   | c ps=>exact a1
   | w g n ps=>
    refine List.nodup_append.2 ⟨?_,a1,?_⟩
    ·refine List.pairwise_map.2 (List.nodup_range.imp fun hne e=>hne ?_)
     exact(Prod.mk.inj e).2
    ·rintro p hp q hq rfl
     obtain⟨i,_,rfl⟩:=List.mem_map.1 hp;exact h3 (g,i) (List.mem_append_left _ hq) (List.mem_append_left _ (by simp[FK.gs]))
   | r g n j p=>
    have h4:=h3 p (List.mem_append_left _ (by simp[FK.ps]))
    have h5:p.1≠g:=fun e=>h4 (List.mem_append_left _ (by rw[e]; simp[FK.gs]))
    refine List.pairwise_map.2 (List.nodup_range.imp fun {a b} hne e=>hne ?_);split at e
    ·rename_i e1
     split at e
     ·rename_i e2
      rw[e1,e2]
     ·exact absurd (congrArg Prod.fst e) h5
    ·split at e
     ·exact absurd (congrArg Prod.fst e).symm h5
     ·exact(Prod.mk.inj e).2
  ·rintro p hp q hq rfl
   obtain⟨f,hf,hpf⟩:=List.mem_flatten.1 hq;obtain⟨k',hk',rfl⟩:=List.mem_map.1 hf
   rcases FK.mem hp with h | h<;>rcases FK.mem hpf with h' | h'
   ·exact a3 p h p (List.mem_flatten.2 ⟨_,List.mem_map.2 ⟨k',hk',rfl⟩,h'⟩) rfl
   ·exact h3 p (List.mem_append_left _ h) (List.mem_append_right _ (List.mem_flatten.2 ⟨_,List.mem_map.2 ⟨k',hk',rfl⟩,h'⟩))
   ·exact h3 p (List.mem_append_right _ (List.mem_flatten.2 ⟨_,List.mem_map.2 ⟨k',hk',rfl⟩,h'⟩)) (List.mem_append_left _ h)
   ·exact b3 p.1 h p.1 (List.mem_flatten.2 ⟨_,List.mem_map.2 ⟨k',hk',rfl⟩,h'⟩) rfl
theorem L5 {ks:List FK} {p:Nat×Nat} (h:p∈(idK ks).flatten):o6 ks p.1 p.2=false:=by
 obtain⟨f,hf,hpf⟩:=List.mem_flatten.1 h;obtain⟨k,hk,rfl⟩:=List.mem_map.1 hf;unfold o6
 rcases FK.mem hpf with h | h
 ·rw[AZ.2 (List.mem_flatten.2 ⟨_,List.mem_map.2 ⟨k,hk,rfl⟩,h⟩)]
  rfl
 ·rw[show((ks.map FK.gs).flatten.any fun x=>Nat.beq p.1 x)=true from List.any_eq_true.2 ⟨p.1,List.mem_flatten.2 ⟨_,List.mem_map.2 ⟨k,hk,rfl⟩,h⟩,by simp⟩]
  simp
inductive LN (j:Nat) (F:List Blk):FK→Prop
 | c (ps:List (Nat×Nat)) (h:(ps.zipIdx.all fun x=>Nat.beq x.1.1 j && Nat.beq x.1.2 x.2)=true) (h':Nat.ble F.length ps.length=true):LN j F (.c ps)
 | w (n:Nat) (ps:List (Nat×Nat)) (h:F.length≤n):LN j F (.w j n ps)
def CF:Nat→Nat→List FK→Heap→Prop
 | _,0,_,_=>True
 | j,k+1,f::r,F::H=>LN j F f∧CF (j+1) k r H
 | _,_+1,_,_=>False
theorem pV:∀(k j:Nat) {ks:List FK} {H:Heap},CF j k ks H→∀ g i,g < k→(hget H g i).isSome→rho (idK ks) g i=some (j+g,i)
 | 0,_,_,_,_,g,_,hg,_=>by omega
 | k+1,j,[],_,h,_,_,_,_=>h.elim
 | k+1,j,_::_,[],h,_,_,_,_=>h.elim
 | k+1,j,f::r,F::H,⟨h1,h2⟩,0,i,_,hs=>by
  have hi:i < F.length:=by
   have:(F[i]?).isSome:=hs;exact(gEs.1 (Option.isSome_iff_exists.1 this).choose_spec).1
  show f.l[i]?=some (j+0,i)
  cases h1 with
  | c ps h h'=>
   have hip:i < ps.length:=Nat.lt_of_lt_of_le hi (nlB h');rw[List.all_eq_true] at h;have:=h (ps[i],i) (by rw[List.mem_zipIdx_iff_getElem?]; exact gEg hip);simp only[bAe] at this;show ps[i]?=_;rw[gEg hip];exact congrArg some (Prod.ext (nEb this.1) (nEb this.2))
  | w n ps h=>
   show((List.range n).map (fun i=>(j,i))++ps)[i]?=_;rw[List.getElem?_append_left (by simp; omega),List.getElem?_map,List.getElem?_range (by omega)];rfl
 | k+1,j,f::r,F::H,⟨h1,h2⟩,g+1,i,hg,hs=>by
  have:=pV k (j+1) h2 g i (by omega) hs;rw[show j+(g+1)=j+1+g by omega];exact this
theorem mR.listK {T:AV→AV→Prop} {k:Nat} {H H2 H':Heap} {ks:List FK} (h1:CF 0 k ks H) (h3:okK ks=true) (h4:aI (ToB T (rho (idK ks))) H (idK ks) H')
  (hk:∀ g i,(hget H2 g i).isSome=(hget H g i).isSome) (hs:∀ p∈(idK ks).flatten,hget H2 p.1 p.2=hget H p.1 p.2):mR T (rho (idK ks)) k H2 H':=by
 obtain⟨hl,hf⟩:=kR h4;have hnd:=vY h3;generalize hids:idK ks=ids at *;refine⟨fun g i hg hi=>?_,fun g i g' i' p hp hp'=>?_,fun g i x hx _=>?_,fun g i p hp _=>?_⟩
 ·rw[hk] at hi
  have:=pV k 0 h1 g i hg hi;rw[Nat.zero_add,hids] at this;exact this
 ·unfold rho at hp hp'
  split at hp
  ·rename_i f e
   split at hp'
   ·rename_i f' e'
    unfold List.Nodup at hnd;rw[List.pairwise_flatten] at hnd
    by_cases hgg:g=g'
    ·subst hgg
     rw[e] at e'
     injection e' with e'
     subst e';refine⟨rfl,?_⟩;have hn:=hnd.1 f (mOg e);have hi:=(gEs.1 hp).1;exact(List.getElem?_inj hi hn).1 (hp.trans hp'.symm)
    ·exfalso
     have hpw:=hnd.2;rw[List.pairwise_iff_getElem] at hpw;have hg1:=(gEs.1 e).1;have hg2:=(gEs.1 e').1;have v1:=(gEs.1 e).2;have v2:=(gEs.1 e').2
     rcases Nat.lt_or_gt_of_ne hgg with hlt | hgt
     ·have:=hpw g g' hg1 hg2 hlt
      rw[v1,v2] at this;exact this p (mOg hp) p (mOg hp') rfl
     ·have:=hpw g' g hg2 hg1 hgt
      rw[v1,v2] at this;exact this p (mOg hp') p (mOg hp) rfl
   ·cases hp'
  ·cases hp
 ·unfold hget at hx
  split at hx
  ·rename_i f e
   have hg:=(gEs.1 e).1;have e':ids[g]?=some ids[g]:=gEg (by omega);obtain⟨q1,q2⟩:=gK (hf g _ _ e' e);have hi:=(gEs.1 hx).1;have e2:ids[g][i]?=some ids[g][i]:=gEg (by omega);obtain⟨y,r1,r2⟩:=q2 i _ x e2 hx
   have hr:rho ids g i=some ids[g][i]:=by simp only[rho,e']; exact e2
   exact⟨ids[g][i].1,ids[g][i].2,y,hr,(hs _ (xX hr)).trans r1,r2⟩
  ·cases hx
 ·unfold rho at hp
  split at hp
  ·rename_i f e
   have hg:=(gEs.1 e).1;have e':H'[g]?=some H'[g]:=gEg (by omega);obtain⟨q1,_⟩:=gK (hf g _ _ e e');have hi:=(gEs.1 hp).1;simp only[hget,e',gEg (show i < H'[g].length by omega)];rfl
  ·cases hp
section
variable {k N:Nat} {fr fr':Fr} {H H':Heap} {ks:List FK} {szs:List Nat}
end
section
variable {R:Blk→Blk→Prop} {H:Heap}
theorem bK.range {g n:Nat} {f:Nat→Blk} {ps:List (Nat×Nat)} {xs:List Blk} (h:∀ i,i < n→∃ y,hget H g i=some y∧R y (f i)) (h':bK R H ps xs):bK R H ((List.range n).map (fun i=>(g,i))++ps) (fam n f++xs):=by
 unfold fam
 have key:∀(l:List Nat),(∀ i∈l,∃ y,hget H g i=some y∧R y (f i))→bK R H (l.map (fun i=>(g,i))++ps) (l.map f++xs):=by
  intro l
  induction l with
  | nil=>exact fun _=>h'
  | cons i l ih=>exact fun h=>⟨h i (by simp),ih fun j hj=>h j (by simp[hj])⟩
 exact key _ fun i hi=>h i (List.mem_range.1 hi)
theorem bK.ofR {g n k:Nat} {p:Nat×Nat} {f:Nat→Blk} (h:∀ i,i < n→i≠k→∃ y,hget H g i=some y∧R y (f i)) (h':k < n→∃ y,hget H p.1 p.2=some y∧R y (f k)):bK R H (FK.r g n k p).l (fam n f):=by
 unfold FK.l fam
 have key:∀(l:List Nat),(∀ i∈l,i < n)→bK R H (l.map fun i=>if i=k then p else(g,i)) (l.map f):=by
  intro l
  induction l with
  | nil=>exact fun _=>trivial
  | cons i l ih=>
   intro hl;refine⟨?_,ih fun j hj=>hl j (by simp[hj])⟩;have hi:=hl i (by simp);show ∃ y,hget H (if i=k then p else(g,i)).1 (if i=k then p else(g,i)).2=some y∧R y (f i)
   by_cases e:i=k
   ·subst e
    rw[if_pos rfl];exact h' hi
   ·rw[if_neg e]
    exact h i hi e
 exact key _ fun i hi=>List.mem_range.1 hi
end
end Go.Av
namespace Go.Av
structure tO (T:AV→AV→Prop) (ρ:Nat→Nat→Option (Nat×Nat)) (k:Nat) (H H':Heap):Prop where
 low:∀ g i,g < k→(hget H g i).isSome→ρ g i=some (g,i)
 inj:∀ g i g' i' p,aQ H' g i→aQ H' g' i'→ρ g i=some p→ρ g' i'=some p→g=g'∧i=i'
 blk:∀ g i x,hget H' g i=some x→x.live=true→∃ g0 i0 y,ρ g i=some (g0,i0)∧hget H g0 i0=some y∧ToB T ρ y x
 dom:∀ g i p,ρ g i=some p→(hget H p.1 p.2).isSome→(hget H' g i).isSome
theorem tO.live {T:AV→AV→Prop} {ρ:Nat→Nat→Option (Nat×Nat)} {k H H'} (hn:tO T ρ k H H') {J:Inj} {g i:Nat} {l:Loc} (h:aQ H' g i) (hJ:J.via ρ g i=some l):∃ g0 i0,ρ g i=some (g0,i0)∧aQ H g0 i0∧J g0 i0=some l:=by
 obtain⟨x,hx,hxl⟩:=h;obtain⟨g0,i0,y,h1,h2,h3⟩:=hn.blk g i x hx hxl;exact⟨g0,i0,h1,⟨y,h2,h3.live hxl⟩,by rw[← hJ,Inj.via_some h1]⟩
theorem aS.toM {T:AV→AV→Prop} {ρ:Nat→Nat→Option (Nat×Nat)} {k M J H w M' J' H' w' H''} (hT:∀ a b v,T a b→Rep M' J' a v→Rep M' J' b v) (a:aS k M J H w M' J' H' w') (hn:tO T ρ k H' H''):aS k M J H w M' (J'.via ρ) H'' w' where
 m:=a.m
 j g i l hk h:=by
  have h1:=a.j g i l hk h;rw[Inj.via_some (hn.low g i hk (a.hrep.dom g i l h1).1)];exact h1
 hrep:=by
  refine⟨fun g i x hx hl=>?_,fun g i g' i' l l' β a1 b c d e f=>?_,fun g i l β a1 b c=>?_,fun g i l a1=>?_⟩
  ·obtain⟨g0,i0,y,h1,h2,h3⟩:=hn.blk g i x hx hl
   obtain⟨l,h4,h5⟩:=a.hrep.blk g0 i0 y h2 (h3.live hl);exact⟨l,by rw[Inj.via_some h1,h4],ToB.rep hT h5 h3⟩
  ·obtain⟨g0,i0,p1,p2,p3⟩:=hn.live a1 c
   obtain⟨g1,i1,q1,q2,q3⟩:=hn.live b d;obtain⟨rfl,rfl⟩:=a.hrep.inj g0 i0 g1 i1 l l' β p2 q2 p3 q3 e f;exact hn.inj _ _ _ _ _ a1 b p1 q1
  ·obtain⟨g0,i0,p1,p2,p3⟩:=hn.live a1 b
   exact a.hrep.out g0 i0 l β p2 p3 c
  ·unfold Inj.via at a1
   split at a1
   ·rename_i g' i' e
    have:=a.hrep.dom g' i' l a1;exact⟨hn.dom g i _ e this.1,this.2⟩
   ·cases a1
 mrep:=a.mrep
 os:=a.os
 tape:=a.tape
 output:=a.output
 size:=a.size
 frame:=a.frame
 fresh:=a.fresh
 live g i l β h1 h2 h3:=by
  obtain⟨g0,i0,p1,p2,p3⟩:=hn.live h1 h2;exact a.live g0 i0 l β p2 p3 h3
 bk:=a.bk
def i9 (ds:List Nat):Nat→List FK→List FK
 | _,[]=>[]
 | j,f::r=>(match ds.any fun d=>Nat.beq d j with | true=>.c [] | false=>f)::i9 ds (j+1) r
def mI (H:Heap):List Nat→Prop
 | []=>True
 | d::ds=>H[d]?=some [.dead]∧mI H ds
theorem rA (ds:List Nat):∀(ks:List FK) (j g:Nat),(ds.any fun d=>Nat.beq d (j+g))=false→(i9 ds j ks)[g]?=ks[g]?
 | [],_,_,_=>rfl
 | f::r,j,0,h=>by
  show some (match ds.any fun d=>Nat.beq d j with | true=>FK.c [] | false=>f)=some f;rw[show(ds.any fun d=>Nat.beq d j)=false from h]
 | f::r,j,g+1,h=>by
  show(i9 ds (j+1) r)[g]?=r[g]?;exact rA ds r (j+1) g (by rw[show j+1+g=j+(g+1) by omega]; exact h)
theorem oS {H:Heap}:∀ {ds:List Nat} {g i:Nat},mI H ds→aQ H g i→(ds.any fun d=>Nat.beq d g)=false
 | [],_,_,_,_=>rfl
 | d::ds,g,i,⟨h1,h2⟩,hl=>by
  rw[List.any_cons,oS h2 hl,Bool.or_false];apply Bool.eq_false_iff.2;intro e;obtain rfl:=nEb e;obtain⟨x,hx,hxl⟩:=hl;unfold hget at hx;rw[h1] at hx
  cases i with
  | zero=>
   injection hx with hx
   subst hx
   cases hxl
  | succ i=>cases hx
theorem L0 {ids:List (List (Nat×Nat))} (hnd:ids.flatten.Nodup) {g i g' i':Nat} {p:Nat×Nat} (hp:rho ids g i=some p) (hp':rho ids g' i'=some p):g=g'∧i=i':=by
 unfold rho at hp hp';split at hp
 ·rename_i f e
  split at hp'
  ·rename_i f' e'
   unfold List.Nodup at hnd;rw[List.pairwise_flatten] at hnd
   by_cases hgg:g=g'
   ·subst hgg
    rw[e] at e'
    injection e' with e'
    subst e';refine⟨rfl,?_⟩;have hn:=hnd.1 f (mOg e);have hi:=(gEs.1 hp).1;exact(List.getElem?_inj hi hn).1 (hp.trans hp'.symm)
   ·exfalso
    have hpw:=hnd.2;rw[List.pairwise_iff_getElem] at hpw;have hg1:=(gEs.1 e).1;have hg2:=(gEs.1 e').1;have v1:=(gEs.1 e).2;have v2:=(gEs.1 e').2
    rcases Nat.lt_or_gt_of_ne hgg with hlt | hgt
    ·have:=hpw g g' hg1 hg2 hlt
     rw[v1,v2] at this;exact this p (mOg hp) p (mOg hp') rfl
    ·have:=hpw g' g hg2 hg1 hgt
     rw[v1,v2] at this;exact this p (mOg hp') p (mOg hp) rfl
  ·cases hp'
 ·cases hp
theorem tO.listK {T:AV→AV→Prop} {k:Nat} {H H2 H':Heap} {ks:List FK} (ds:List Nat) (h1:CF 0 k ks H) (h3:okK (i9 ds 0 ks)=true) (h4:aI (ToB T (rho (idK ks))) H (idK ks) H') (hd:mI H' ds)
  (hk:∀ g i,(hget H2 g i).isSome=(hget H g i).isSome) (hs:∀ p∈(idK ks).flatten,hget H2 p.1 p.2=hget H p.1 p.2):tO T (rho (idK ks)) k H2 H':=by
 obtain⟨hl,hf⟩:=kR h4;have hnd:=vY h3
 have hrho:∀ g i,aQ H' g i→rho (idK ks) g i=rho (idK (i9 ds 0 ks)) g i:=fun g i hlv=>by
  have:=rA ds ks 0 g (by rw[Nat.zero_add]; exact oS hd hlv);unfold rho idK;rw[List.getElem?_map,List.getElem?_map,this]
 refine⟨fun g i hg hi=>?_,fun g i g' i' p l1 l2 hp hp'=>?_,fun g i x hx _=>?_,fun g i p hp _=>?_⟩
 ·rw[hk] at hi
  have:=pV k 0 h1 g i hg hi;rw[Nat.zero_add] at this;exact this
 ·rw[hrho _ _ l1] at hp
  rw[hrho _ _ l2] at hp';exact L0 hnd hp hp'
 ·generalize hids:idK ks=ids at *
  unfold hget at hx;split at hx
  ·rename_i f e
   have hg:=(gEs.1 e).1;have e':ids[g]?=some ids[g]:=gEg (by omega);obtain⟨q1,q2⟩:=gK (hf g _ _ e' e);have hi:=(gEs.1 hx).1;have e2:ids[g][i]?=some ids[g][i]:=gEg (by omega);obtain⟨y,r1,r2⟩:=q2 i _ x e2 hx
   have hr:rho ids g i=some ids[g][i]:=by simp only[rho,e']; exact e2
   exact⟨ids[g][i].1,ids[g][i].2,y,hr,(hs _ (xX hr)).trans r1,r2⟩
  ·cases hx
 ·generalize hids:idK ks=ids at *
  unfold rho at hp;split at hp
  ·rename_i f e
   have hg:=(gEs.1 e).1;have e':H'[g]?=some H'[g]:=gEg (by omega);obtain⟨q1,_⟩:=gK (hf g _ _ e e');have hi:=(gEs.1 hp).1;simp only[hget,e',gEg (show i < H'[g].length by omega)];rfl
  ·cases hp
section
variable {k N:Nat} {fr fr':Fr} {H H':Heap} {ks:List FK} {szs:List Nat}
theorem yZ {M J} {w:World} (ds:List Nat) (hH:aN M J H w.heap) (hM:a8 M w.heap) (h1:CF 0 k ks (H++gh szs)) (h3:okK (i9 ds 0 ks)=true) (hd:mI H' ds)
  (h4:aI (ToB (ToT (H++gh szs) H.length (o6 ks)) (rho (idK ks))) (H++gh szs) (idK ks) H'):
  ∃ M' J',aS k M J H w M' J' H' w∧∀ a b v,To (ToT (H++gh szs) H.length (o6 ks)) (rho (idK ks)) a b→Rep M J a v→Rep M' J' b v:=by
 obtain⟨s1,x1,t1⟩:=aS.ghost (k:=k) hH hM (rI.gh H szs);obtain⟨s2,x2,t2⟩:=aS.frz (k:=k) s1.hrep s1.mrep (kL.killS (o6 ks) (H++gh szs))
 have hT:∀ a b v,ToT (H++gh szs) H.length (o6 ks) a b→Rep (M.freeze (J.ghost H (H++gh szs)) (H++gh szs) (o6 ks) w.heap) (J.ghost H (H++gh szs)) a v →
   Rep (M.freeze (J.ghost H (H++gh szs)) (H++gh szs) (o6 ks) w.heap) (J.ghost H (H++gh szs)) b v:=by
  intro a b v h hv
  cases h with
  | fz h=>
   refine t2 a b v h ?_
   cases h with
   | hsl g i start len sz rows hS h hl=>
    cases hv with
    | hsl _ _ _ _ cap β l hJ hb hc hlc=>exact .hsl _ _ _ _ cap β l hJ hb hc hlc
    | hslNil _ _ a0 l hJ hb=>exact .hslNil _ _ a0 l hJ hb
   | ptr g i row off sz rows r hS h hr=>
    cases hv with
    | ptr _ _ _ _ β l hJ hb=>exact .ptr _ _ _ _ β l hJ hb
   | mref g i es hS h=>
    cases hv with
    | mref _ _ β l hJ hb=>exact .mref _ _ β l hJ hb
  | gh g sz hg h'=>
   cases hv
   refine .hslNil g 0 _ ⟨none,sz,0⟩ ?_ rfl
   have:hget H g 0=none:=by
    cases e:hget H g 0 with
    | none=>rfl
    | some y=>
     have:=fT (by rw[e]; rfl:(hget H g 0).isSome);have:=nlB hg;omega
   unfold Inj.ghost;rw[this,h']
  | nil sz=>cases hv; exact .nilList sz none 0
 have hn:tO (ToT (H++gh szs) H.length (o6 ks)) (rho (idK ks)) k (killS (o6 ks) (H++gh szs)) H':=by
  refine tO.listK ds h1 h3 h4 hd (fun g i=>by rw[gE,Option.isSome_map]) fun p hp=>?_
  rw[gE,L5 hp]
  cases hget (H++gh szs) p.1 p.2<;>rfl
 refine⟨_,_,aS.toM hT (s1.trans s2) hn,fun a b v h hv=>To.rep hT h ?_⟩;exact(hv.ext x1).ext x2
theorem Sub.toM (szs:List Nat) (ks:List FK) (ds:List Nat) (h5:aY (ToT (H++gh szs) H.length (o6 ks)) (rho (idK ks)) fr fr')
  (h4:aI (ToB (ToT (H++gh szs) H.length (o6 ks)) (rho (idK ks))) (H++gh szs) (idK ks) H') (hd:mI H' ds) (h1:CF 0 k ks (H++gh szs)) (h3:okK (i9 ds 0 ks)=true:=by rfl):Sub k N fr H fr' H':=by
 intro M J tmps w hF hH hM;obtain⟨M',J',q1,q2⟩:=yZ (szs:=szs) ds hH hM h1 h3 hd h4;exact⟨M',J',q1,hF.1,fun t=>q2 _ _ _ (h5.get t) (hF.2 t)⟩
theorem eO.toM {a b:AV} (szs:List Nat) (ks:List FK) (ds:List Nat) (h5:To (ToT (H++gh szs) H.length (o6 ks)) (rho (idK ks)) a b)
  (h4:aI (ToB (ToT (H++gh szs) H.length (o6 ks)) (rho (idK ks))) (H++gh szs) (idK ks) H') (hd:mI H' ds) (h1:CF 0 k ks (H++gh szs)) (h3:okK (i9 ds 0 ks)=true:=by rfl):eO k H a H' b:=by
 intro M J v w hv hH hM;obtain⟨M',J',q1,q2⟩:=yZ (szs:=szs) ds hH hM h1 h3 hd h4;exact⟨M',J',q1,q2 _ _ _ h5 hv⟩
end
end Go.Av
namespace Go.Av
section
variable {g i:Nat} {fr:Fr} {H:Heap}
theorem jI {z:AV} {k:IntKind} {x ix:Operand} {n:Int} {es:List (Value×AV)} {ok:Bool} {r:Option AV} (hx:ev fr x=.tmap es) (hi:ev fr ix=.sc (.int k n)) (hm:dM k n es=some r):
  aD g i (.lookup z k x ix ok) fr H=lM z ok H (some r):=by
 simp only[aD,hi,hx,l7,hm,decide_true]
theorem lZ {z:AV} {k:IntKind} {x ix:Operand} {g' i':Nat} {n:Int} {es:List (Value×AV)} {ok:Bool} {r:Option AV} (hx:ev fr x=.mref g' i') (hi:ev fr ix=.sc (.int k n)) (hh:hget H g' i'=some (.map es)) (hm:dM k n es=some r):
  aD g i (.lookup z k x ix ok) fr H=lM z ok H (some r):=by
 simp only[aD,hi,hx,l7,hh,hm,decide_true]
theorem BI {k:IntKind} {m ix x:Operand} {g' i':Nat} {n:Int} {es:List (Value×AV)} {v:AV} (hx:ev fr m=.mref g' i') (hi:ev fr ix=.sc (.int k n)) (hv:ev fr x=v) (hh:hget H g' i'=some (.map es)) (hm:dM k n es=some none):
  aD g i (.mapUpdate k m ix x) fr H=some (.undef,aK H g' i' (.map (es++[(.int k n,v)]))):=by
 rw[← hv];exact yA hx hi hh hm
theorem BF {k:IntKind} {m ix x:Operand} {g' i':Nat} {n:Int} {es:List (Value×AV)} {o v:AV} (hm:ev fr m=.mref g' i') (hi:ev fr ix=.sc (.int k n)) (hv:ev fr x=v) (hh:hget H g' i'=some (.map es)) (hf:dM k n es=some (some o)):
  aD g i (.mapUpdate k m ix x) fr H=some (.undef,aK H g' i' (.map (rL n v es))):=by
 subst hv;simp only[aD,hm,hi,decide_true,hh,hf]
theorem CY {x:Operand} {cs:List AV} {n:Nat} (hx:(ev fr x).cs=some cs) (h1:cs.all AV.cell1=true) (hn:cs.length=n):aD g i (.box x) fr H=some (.ptr g i 0 0,aK H g i (.cells n [cs])):=by
 subst hn;simp only[aD,hx,h1]
end
theorem Sub.put {k N:Nat} {fr:Fr} {H:Heap} {t:Nat} {v:AV} (h:Le (fr.get t) v):Sub k N fr H ((t,v)::fr) H:=by
 intro M J tmps w hF hH hM;refine⟨M,J,.refl k hH hM,hF.1,fun u=>?_⟩
 have key:Le (fr.get u) (Fr.get ((t,v)::fr) u):=by
  show Le (fr.get u) (match Nat.beq t u with | true=>v | false=>Fr.get fr u);split
  ·rename_i e
   have:t=u:=nEb e;subst this;exact h
  ·exact Le.refl _
 exact key M J _ (hF.2 u)
theorem Reg.fn {P:Program} {N k:Nat} {xs:List IOper} {fr:Fr} {H:Heap} {K:Fr→Heap→Prop} {f:FuncId} (t:Nat) (h1:fr.get t=.sc (.func (.func f) #[] #[])) (h:Reg P N k xs ((t,.clo (.func f) [] [])::fr) H K):Reg P N k xs fr H K:=
 Reg.sub (Sub.put (by rw[h1]; exact Le.func f)) h
def i6:List Nat→bL→bL
 | [],c=>c
 | 0::l,.seq a _=>i6 l a
 | _::l,.seq _ b=>i6 l b
 | 0::l,.cond _ a _=>i6 l a
 | _::l,.cond _ _ b=>i6 l b
 | _::l,.block _ a=>i6 l a
 | _::l,.loop a=>i6 l a
 | _,c=>c
end Go.Av
