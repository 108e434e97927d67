import Derived.Test.YtgdocflpobncmaaGreatGAvZ
import Derived.Test.YtgdocflpobncmaaGreatGAvK3
import Derived.Test.YtgdocflpobncmaaGreatGAvQ
namespace Go.Av
theorem jQ (n:Nat):(OfNat.ofNat n:Int)=((OfNat.ofNat n:Nat):Int):=rfl
structure iO (op:BinOp) (k k':IntKind) (a b:Nat) (v:Value):Prop where
 out:∀ t,Sem.pure? (binOp op t (.int k (a:Int)) (.int k' (b:Int)))=some v
theorem wM {n:Nat} (h:n≤9223372036854775807):IntKind.i64.wrap (n:Int)=(n:Int):=wrap_small (by omega) (by omega)
theorem LH (n:Nat):IntKind.u64.wrap (n:Int)=((n % 18446744073709551616:Nat):Int):=by
 have hb:IntKind.u64.bits=64:=rfl;have hs:IntKind.u64.signed=false:=rfl;simp only[IntKind.wrap,hb,hs];simp
theorem jU {n:Nat} (h:n < 18446744073709551616):IntKind.u64.wrap (n:Int)=(n:Int):=by rw[LH,Nat.mod_eq_of_lt h]
theorem wrapB (n:Nat):IntKind.u8.wrap (n:Int)=((n % 256:Nat):Int):=by
 have hb:IntKind.u8.bits=8:=rfl;have hs:IntKind.u8.signed=false:=rfl;simp only[IntKind.wrap,hb,hs];simp
theorem LQ {a b:Nat} (h:a+b≤9223372036854775807):iO .add .i64 .i64 a b (.int .i64 ((a+b:Nat):Int)):=.mk fun t=>by
 show some (Value.int .i64 (IntKind.i64.wrap ((a:Int)+(b:Int))))=_;rw[show(a:Int)+(b:Int)=((a+b:Nat):Int) by omega,wM h]
theorem J7 {a b:Nat} (h:b≤a) (h2:a≤9223372036854775807):iO .sub .i64 .i64 a b (.int .i64 ((a - b:Nat):Int)):=.mk fun t=>by
 show some (Value.int .i64 (IntKind.i64.wrap ((a:Int) - (b:Int))))=_;rw[show(a:Int) - (b:Int)=((a - b:Nat):Int) by omega,wM (by omega)]
theorem L7 {a b:Nat} (h:a * b≤9223372036854775807):iO .mul .i64 .i64 a b (.int .i64 ((a * b:Nat):Int)):=.mk fun t=>by
 show some (Value.int .i64 (IntKind.i64.wrap ((a:Int) * (b:Int))))=_;rw[show(a:Int) * (b:Int)=((a * b:Nat):Int) by rw[Int.natCast_mul],wM h]
theorem N7 {a b:Nat} (h:0 < b) (h2:a≤9223372036854775807):iO .quo .i64 .i64 a b (.int .i64 ((a / b:Nat):Int)):=.mk fun t=>by
 show Sem.pure? (Op.intDiv .quo .i64 (a:Int) (b:Int))=_;unfold Op.intDiv;rw[if_neg (by omega)];show some (Value.int .i64 (IntKind.i64.wrap ((a:Int).tdiv (b:Int))))=_;rw[show(a:Int).tdiv (b:Int)=((a / b:Nat):Int) from rfl,wM (Nat.le_trans (Nat.div_le_self _ _) h2)]
theorem HP {a b:Nat} (h:0 < b) (h2:a < 18446744073709551616):iO .quo .u64 .u64 a b (.int .u64 ((a / b:Nat):Int)):=.mk fun t=>by
 show Sem.pure? (Op.intDiv .quo .u64 (a:Int) (b:Int))=_;unfold Op.intDiv;rw[if_neg (by omega)];show some (Value.int .u64 (IntKind.u64.wrap ((a:Int).tdiv (b:Int))))=_;rw[show(a:Int).tdiv (b:Int)=((a / b:Nat):Int) from rfl,jU (Nat.lt_of_le_of_lt (Nat.div_le_self _ _) h2)]
theorem NH {k:IntKind} {a b:Nat} (h:0 < b):iO .rem k k a b (.int k ((a % b:Nat):Int)):=.mk fun t=>by
 have e:binOp .rem t (.int k (a:Int)) (.int k (b:Int))=Op.intDiv .rem k (a:Int) (b:Int):=by
  show(if k≠k then _ else _)=_;rw[if_neg (by simp)]
 rw[e];unfold Op.intDiv;rw[if_neg (by omega)];rfl
theorem AU {a b:Nat}:iO .add .u64 .u64 a b (.int .u64 (((a+b) % 18446744073709551616:Nat):Int)):=.mk fun t=>by
 show some (Value.int .u64 (IntKind.u64.wrap ((a:Int)+(b:Int))))=_;rw[show(a:Int)+(b:Int)=((a+b:Nat):Int) by omega,LH]
theorem CA {a b:Nat} (h:a+b < 18446744073709551616):iO .add .u64 .u64 a b (.int .u64 ((a+b:Nat):Int)):=.mk fun t=>by
 rw[AU.out t,Nat.mod_eq_of_lt h]
theorem F3 {a b:Nat} (h:b≤a) (h2:a < 18446744073709551616):iO .sub .u64 .u64 a b (.int .u64 ((a - b:Nat):Int)):=.mk fun t=>by
 show some (Value.int .u64 (IntKind.u64.wrap ((a:Int) - (b:Int))))=_;rw[show(a:Int) - (b:Int)=((a - b:Nat):Int) by omega,jU (by omega)]
theorem AK {a b:Nat}:iO .mul .u64 .u64 a b (.int .u64 (((a * b) % 18446744073709551616:Nat):Int)):=.mk fun t=>by
 show some (Value.int .u64 (IntKind.u64.wrap ((a:Int) * (b:Int))))=_;rw[show(a:Int) * (b:Int)=((a * b:Nat):Int) by rw[Int.natCast_mul],LH]
theorem BQ {a b:Nat} (h:a * b < 18446744073709551616):iO .mul .u64 .u64 a b (.int .u64 ((a * b:Nat):Int)):=.mk fun t=>by
 rw[AK.out t,Nat.mod_eq_of_lt h]
theorem gR {n:Nat} (h:n < 18446744073709551616):(BitVec.ofInt 64 (n:Int)).toNat=n:=by
 rw[BitVec.toNat_ofInt];omega
theorem HO {a b:Nat} (ha:a < 18446744073709551616) (hb:b < 18446744073709551616):iO .and .u64 .u64 a b (.int .u64 ((a &&& b:Nat):Int)):=.mk fun t=>by
 show some (Value.int .u64 (IntKind.u64.wrap ((BitVec.ofInt 64 (a:Int) &&& BitVec.ofInt 64 (b:Int)).toNat:Int)))=_;rw[BitVec.toNat_and,gR ha,gR hb,jU (Nat.lt_of_le_of_lt Nat.and_le_left ha)]
theorem KV {a b:Nat} (ha:a < 18446744073709551616) (hb:b < 18446744073709551616):iO .or .u64 .u64 a b (.int .u64 ((a ||| b:Nat):Int)):=.mk fun t=>by
 show some (Value.int .u64 (IntKind.u64.wrap ((BitVec.ofInt 64 (a:Int) ||| BitVec.ofInt 64 (b:Int)).toNat:Int)))=_;rw[BitVec.toNat_or,gR ha,gR hb,jU (Nat.or_lt_two_pow (n:=64) ha hb)]
theorem HD {a b:Nat} (ha:a < 18446744073709551616) (hb:b < 18446744073709551616):iO .xor .u64 .u64 a b (.int .u64 ((a ^^^ b:Nat):Int)):=.mk fun t=>by
 show some (Value.int .u64 (IntKind.u64.wrap ((BitVec.ofInt 64 (a:Int) ^^^ BitVec.ofInt 64 (b:Int)).toNat:Int)))=_;rw[BitVec.toNat_xor,gR ha,gR hb,jU (Nat.xor_lt_two_pow (n:=64) ha hb)]
theorem BE {a b:Nat} (ha:a < 18446744073709551616) (hb:b < 18446744073709551616):iO .andNot .u64 .u64 a b (.int .u64 ((a &&& (18446744073709551615 - b):Nat):Int)):=.mk fun t=>by
 show some (Value.int .u64 (IntKind.u64.wrap ((BitVec.ofInt 64 (a:Int) &&& ~~~ BitVec.ofInt 64 (b:Int)).toNat:Int)))=_;rw[BitVec.toNat_and,BitVec.toNat_not,gR ha,gR hb,jU (Nat.lt_of_le_of_lt Nat.and_le_left ha)]
theorem FR {k':IntKind} {a b:Nat} (ha:a < 18446744073709551616):iO .shr .u64 k' a b (.int .u64 ((a / 2 ^ b:Nat):Int)):=.mk fun t=>by
 show Sem.pure? (Op.shift .shr .u64 (a:Int) k' (b:Int))=_;unfold Op.shift;rw[if_neg (by omega)];show some (Value.int .u64 ((a:Int).fdiv (2 ^ min ((b:Int).toNat) 64)))=_;rw[Int.toNat_natCast,show(2:Int) ^ min b 64=((2 ^ min b 64:Nat):Int) by rw[Int.natCast_pow]; rfl,Int.fdiv_eq_ediv_of_nonneg _ (Int.natCast_nonneg _),← Int.natCast_ediv];congr 3
 rcases Nat.le_total b 64 with h | h
 ·rw[Nat.min_eq_left h]
 ·rw[Nat.min_eq_right h,Nat.div_eq_of_lt ha,Nat.div_eq_of_lt]
  exact Nat.lt_of_lt_of_le ha (Nat.pow_le_pow_right (n:=2) (by decide) h)
theorem GO {a b:Nat} (ha:a≤9223372036854775807):iO .shr .i64 .i64 a b (.int .i64 ((a / 2 ^ b:Nat):Int)):=.mk fun t=>by
 show Sem.pure? (Op.shift .shr .i64 (a:Int) .i64 (b:Int))=_;unfold Op.shift;rw[if_neg (by omega)];show some (Value.int .i64 ((a:Int).fdiv (2 ^ min ((b:Int).toNat) 64)))=_;rw[Int.toNat_natCast,show(2:Int) ^ min b 64=((2 ^ min b 64:Nat):Int) by rw[Int.natCast_pow]; rfl,Int.fdiv_eq_ediv_of_nonneg _ (Int.natCast_nonneg _),← Int.natCast_ediv];congr 3
 rcases Nat.le_total b 64 with h | h
 ·rw[Nat.min_eq_left h]
 ·rw[Nat.min_eq_right h,Nat.div_eq_of_lt (by omega),Nat.div_eq_of_lt]
  exact Nat.lt_of_lt_of_le (show a < 2 ^ 64 by omega) (Nat.pow_le_pow_right (n:=2) (by decide) h)
theorem r7 {op:BinOp} {k:IntKind} {a b:Nat} {c:Bool} (ho:op≠.shl∧op≠.shr∧op≠.add∧op≠.sub∧op≠.mul∧op≠.quo∧op≠.rem∧op≠.and∧op≠.or∧op≠.xor∧op≠.andNot)
  (h:Sem.pure? (Op.intCmp op (a:Int) (b:Int))=some (.bool c)):iO op k k a b (.bool c):=.mk fun t=>by
 rw[← h]
 cases op<;>first | (exfalso; simp at ho; done) | (show Sem.pure? (if k≠k then _ else _)=_; rw[if_neg (by simp)])
theorem NQ {k:IntKind} {a b:Nat}:iO .lss k k a b (.bool (decide (a < b))):=r7 (by simp) (by simp[Op.intCmp,Sem.pure?,pure])
theorem LZ {k:IntKind} {a b:Nat}:iO .leq k k a b (.bool (decide (a≤b))):=r7 (by simp) (by simp[Op.intCmp,Sem.pure?,pure])
theorem NV {k:IntKind} {a b:Nat}:iO .gtr k k a b (.bool (decide (b < a))):=r7 (by simp) (by simp[Op.intCmp,Sem.pure?,pure])
theorem N5 {k:IntKind} {a b:Nat}:iO .geq k k a b (.bool (decide (b≤a))):=r7 (by simp) (by simp[Op.intCmp,Sem.pure?,pure])
theorem F1 (a b:Nat):((a:Int) == (b:Int))=decide (a=b):=by rw[Bool.eq_iff_iff]; simp; omega
theorem NX {k:IntKind} {a b:Nat}:iO .eql k k a b (.bool (decide (a=b))):=r7 (by simp) (by show some (Value.bool ((a:Int) == (b:Int)))=_; rw[F1])
theorem LV {k:IntKind} {a b:Nat}:iO .neq k k a b (.bool (!decide (a=b))):=r7 (by simp) (by show some (Value.bool (!((a:Int) == (b:Int))))=_; rw[F1])
theorem B7 {g i:Nat} {fr:Fr} {H:Heap} {op:BinOp} {t:TypeId} {x y:Operand} {kd kd':IntKind} {a b:Nat} {v:Value} (hx:ev fr x=.sc (.int kd (a:Int))) (hy:ev fr y=.sc (.int kd' (b:Int))) (hv:iO op kd kd' a b v):
  aD g i (.bin op t x y) fr H=some (.sc v,H):=by
 simp only[aD,hx,hy]
 have e:(do eqGuard op t x y (.int kd (a:Int)) (.int kd' (b:Int)); binOp op t (.int kd (a:Int)) (.int kd' (b:Int)):Sem Value)=binOp op t (.int kd (a:Int)) (.int kd' (b:Int)):=by cases op<;>rfl
 rw[e,hv.out t]
structure CE (k:IntKind) (a:Nat) (b:Nat):Prop where
 out:k.wrap (a:Int)=(b:Int)
theorem T6 {a:Nat} (h:a≤9223372036854775807):CE .i64 a a:=.mk (wM h)
theorem OK {a:Nat} (h:a < 18446744073709551616):CE .u64 a a:=.mk (jU h)
theorem TV {a:Nat} (h:a < 256):CE .u8 a a:=.mk (by rw[wrapB,Nat.mod_eq_of_lt h])
theorem NM {g i:Nat} {fr:Fr} {H:Heap} {k k':IntKind} {x:Operand} {a b:Nat} (hx:ev fr x=.sc (.int k' (a:Int))) (hv:CE k a b):aD g i (.conv k x) fr H=some (.sc (.int k (b:Int)),H):=by
 simp only[aD,hx];rw[hv.out]
theorem FG {g i:Nat} {fr:Fr} {H:Heap} {x y:Operand} {kd kd':IntKind} {a b:Nat} (hx:ev fr x=.sc (.int kd (a:Int))) (hy:ev fr y=.sc (.int kd' (b:Int))):aD g i (.max [x,y]) fr H=some (.sc (.int kd ((max a b:Nat):Int)),H):=by
 simp only[aD,avals,List.map_cons,List.map_nil,hx,hy,scs];show some (AV.sc (.int kd (if (b:Int) > (a:Int) then(b:Int) else(a:Int))),H)=_;congr 4
 split<;>omega
theorem wO {g i:Nat} {fr:Fr} {H:Heap} {x y:Operand} {kd kd':IntKind} {a b:Nat} (hx:ev fr x=.sc (.int kd (a:Int))) (hy:ev fr y=.sc (.int kd' (b:Int))):aD g i (.min [x,y]) fr H=some (.sc (.int kd ((min a b:Nat):Int)),H):=by
 simp only[aD,avals,List.map_cons,List.map_nil,hx,hy,scs];show some (AV.sc (.int kd (if (b:Int) < (a:Int) then(b:Int) else(a:Int))),H)=_;congr 4
 split<;>omega
section
variable {P:Program} {N k:Nat} {xs:List IOper} {fr:Fr} {H:Heap} {K:Fr→Heap→Prop} {d:Nat} {gd:Option (Nat×Bool)}
theorem wv1 {op:BinOp} {t:TypeId} {x y:Operand} {kd kd':IntKind} {a b:Nat} {v:Value} (h:Reg P N k xs ((d,.sc v)::fr) H K) (hg:gok fr gd=some true:=by rfl) {na nb:Int} (hx:ev fr x=.sc (.int kd na):=by rfl)
  (hy:ev fr y=.sc (.int kd' nb):=by rfl) (ha:na=(a:Int):=by first | with_reducible rfl | exact jQ _) (hb:nb=(b:Int):=by first | with_reducible rfl | exact jQ _)
  (hv:iO op kd kd' a b v:=by first | exact NQ | exact NX | exact LV | exact N5 | exact NV | exact LZ | (refine LQ ?_<;>first | with_reducible assumption | omega) | (refine J7 ?_ ?_<;>first | with_reducible assumption | omega) | (refine L7 ?_<;>first | with_reducible assumption | omega) | (refine N7 ?_ ?_<;>first | with_reducible assumption | omega) | (refine HP ?_ ?_<;>first | with_reducible assumption | omega) | (refine NH ?_<;>first | with_reducible assumption | omega) | (refine CA ?_<;>first | with_reducible assumption | omega) | exact AU | (refine F3 ?_ ?_<;>first | with_reducible assumption | omega) | (refine BQ ?_<;>first | with_reducible assumption | omega) | exact AK | (refine HO ?_ ?_<;>first | with_reducible assumption | omega) | (refine KV ?_ ?_<;>first | with_reducible assumption | omega) | (refine HD ?_ ?_<;>first | with_reducible assumption | omega) | (refine BE ?_ ?_<;>first | with_reducible assumption | omega) | exact nb_ushl | (refine FR ?_<;>first | with_reducible assumption | omega) | (refine GO ?_<;>first | with_reducible assumption | omega)):Reg P N k (⟨some d,gd,.op (.bin op t x y)⟩::xs) fr H K:=.o hg (B7 (by rw[hx,ha]) (by rw[hy,hb]) hv) h
theorem wv2 {c:IntKind} {x:Operand} {kd:IntKind} {a b:Nat} (h:Reg P N k xs ((d,.sc (.int c (b:Int)))::fr) H K) (hg:gok fr gd=some true:=by rfl) {na:Int} (hx:ev fr x=.sc (.int kd na):=by rfl) (ha:na=(a:Int):=by first | with_reducible rfl | exact jQ _)
  (hv:CE c a b:=by first | (refine T6 ?_<;>first | with_reducible assumption | omega) | (refine OK ?_<;>first | with_reducible assumption | omega) | exact nc_u64 | (refine TV ?_<;>first | with_reducible assumption | omega) | exact nc_u8):Reg P N k (⟨some d,gd,.op (.conv c x)⟩::xs) fr H K:=.o hg (NM (by rw[hx,ha]) hv) h
theorem wv5 {x y:Operand} {kd kd':IntKind} {a b:Nat} (h:Reg P N k xs ((d,(.sc (.int kd ((max a b:Nat):Int))))::fr) H K) (hg:gok fr gd=some true:=by rfl) {na nb:Int} (hx:ev fr x=.sc (.int kd na):=by rfl) (hy:ev fr y=.sc (.int kd' nb):=by rfl) (ha:na=(a:Int):=by first | with_reducible rfl | exact jQ _) (hb:nb=(b:Int):=by first | with_reducible rfl | exact jQ _):Reg P N k (⟨some d,gd,.op (.max [x,y])⟩::xs) fr H K:=.o hg (FG (by rw[hx,ha]) (by rw[hy,hb])) h
theorem wv6 {x y:Operand} {kd kd':IntKind} {a b:Nat} (h:Reg P N k xs ((d,(.sc (.int kd ((min a b:Nat):Int))))::fr) H K) (hg:gok fr gd=some true:=by rfl) {na nb:Int} (hx:ev fr x=.sc (.int kd na):=by rfl) (hy:ev fr y=.sc (.int kd' nb):=by rfl) (ha:na=(a:Int):=by first | with_reducible rfl | exact jQ _) (hb:nb=(b:Int):=by first | with_reducible rfl | exact jQ _):Reg P N k (⟨some d,gd,.op (.min [x,y])⟩::xs) fr H K:=.o hg (wO (by rw[hx,ha]) (by rw[hy,hb])) h
theorem wv9 {f:FuncId} {args:List Operand} {v:AV} (h:Reg P N k xs ((d,v)::fr) H K) (hk:k≤H.length:=by first | exact nZl _ | exact nlB rfl) (hg:gok fr gd=some true:=by rfl) (hp:aB P f (avals fr args) v:=by assumption):
  Reg P N k (⟨some d,gd,.call f args⟩::xs) fr H K:=.p hk hg hp h
theorem DU {f:Cal} {g:FuncId} {fs cs:List AV} {args:List Operand} {v:AV} (h:Reg P N k xs ((d,v)::fr) H K) (hk:k≤H.length:=by first | exact nZl _ | exact nlB rfl) (hg:gok fr gd=some true:=by rfl) (hf:evC P fr f=.clo (.func g) fs cs:=by rfl)
  (hp:aB P g (fs++avals fr args++cs) v:=by assumption):Reg P N k (⟨some d,gd,.callV f args⟩::xs) fr H K:=.callV hk hg rfl hf (.ofPure hp H h)
variable {base j:Nat} {acc:List bT} {KD:List bT→Fr→Heap→Prop}
theorem wv3 {op:BinOp} {t:TypeId} {x y:Operand} {kd kd':IntKind} {a b:Nat} {v:Value}
  (h:DK P base (j+1) xs ((d,.sc v)::fr) H (⟨⟨some d,gd,.op (.bin op t x y)⟩,(base,j),.sc v,drd fr (.bin op t x y),dwr base j fr (.bin op t x y)⟩::acc) KD) (hg:gok fr gd=some true:=by rfl) {na nb:Int} (hx:ev fr x=.sc (.int kd na):=by rfl)
  (hy:ev fr y=.sc (.int kd' nb):=by rfl) (ha:na=(a:Int):=by first | with_reducible rfl | exact jQ _) (hb:nb=(b:Int):=by first | with_reducible rfl | exact jQ _)
  (hv:iO op kd kd' a b v:=by first | exact NQ | exact NX | exact LV | exact N5 | exact NV | exact LZ | (refine LQ ?_<;>first | with_reducible assumption | omega) | (refine J7 ?_ ?_<;>first | with_reducible assumption | omega) | (refine L7 ?_<;>first | with_reducible assumption | omega) | (refine N7 ?_ ?_<;>first | with_reducible assumption | omega) | (refine HP ?_ ?_<;>first | with_reducible assumption | omega) | (refine NH ?_<;>first | with_reducible assumption | omega) | (refine CA ?_<;>first | with_reducible assumption | omega) | exact AU | (refine F3 ?_ ?_<;>first | with_reducible assumption | omega) | (refine BQ ?_<;>first | with_reducible assumption | omega) | exact AK | (refine HO ?_ ?_<;>first | with_reducible assumption | omega) | (refine KV ?_ ?_<;>first | with_reducible assumption | omega) | (refine HD ?_ ?_<;>first | with_reducible assumption | omega) | (refine BE ?_ ?_<;>first | with_reducible assumption | omega) | exact nb_ushl | (refine FR ?_<;>first | with_reducible assumption | omega) | (refine GO ?_<;>first | with_reducible assumption | omega)):DK P base j (⟨some d,gd,.op (.bin op t x y)⟩::xs) fr H acc KD:=.o hg (B7 (by rw[hx,ha]) (by rw[hy,hb]) hv) h
theorem wv8 {x y:Operand} {kd kd':IntKind} {a b:Nat} (h:DK P base (j+1) xs ((d,(.sc (.int kd ((min a b:Nat):Int))))::fr) H (⟨⟨some d,gd,.op (.min [x,y])⟩,(base,j),(.sc (.int kd ((min a b:Nat):Int))),drd fr (.min [x,y]),dwr base j fr (.min [x,y])⟩::acc) KD) (hg:gok fr gd=some true:=by rfl) {na nb:Int} (hx:ev fr x=.sc (.int kd na):=by rfl) (hy:ev fr y=.sc (.int kd' nb):=by rfl) (ha:na=(a:Int):=by first | with_reducible rfl | exact jQ _) (hb:nb=(b:Int):=by first | with_reducible rfl | exact jQ _):DK P base j (⟨some d,gd,.op (.min [x,y])⟩::xs) fr H acc KD:=.o hg (wO (by rw[hx,ha]) (by rw[hy,hb])) h
end
theorem AWP.condD {P:Program} {N k:Nat} {fr:Fr} {H:Heap} {Q:Exit→Fr→Heap→Prop} {c:Operand} {x y:cA} {p:Prop} [Decidable p] (hb:ev fr c=.sc (.bool (decide p))) (h1:p→AWP P N k x Q fr H) (h2:¬ p→AWP P N k y Q fr H):
  AWP P N k (.cond c x y) Q fr H:=AWP.cond hb (fun h=>h1 (of_decide_eq_true h)) (fun h=>h2 (of_decide_eq_false h))
theorem AWP.loop2 {P:Program} {N k:Nat} {fr:Fr} {H:Heap} {Q:Exit→Fr→Heap→Prop} {α β:Type} (F:α→β→Fr) (G:α→β→Heap) (I:α→β→Prop) (μ:α→β→Nat) {p:cA} (s0:α) (t0:β) (h0:I s0 t0) (hs:Sub k N fr H (F s0 t0) (G s0 t0))
  (round:∀ s t,I s t→AWP P N k p (yV (fun fr' H'=>∃ s' t',I s' t'∧μ s' t' < μ s t∧Sub k N fr' H' (F s' t') (G s' t')) Q) (F s t) (G s t)):AWP P N k (.loop p) Q fr H:=
 AWP.loop (σ:=α×β) (fun s=>F s.1 s.2) (fun s=>G s.1 s.2) (fun s=>I s.1 s.2) (fun s=>μ s.1 s.2) (s0,t0) h0 hs fun s hi=>AWP.mono (round s.1 s.2 hi) fun e fr H h=>by
  cases e<;>first | exact h | (obtain⟨s',t',h⟩:=h; exact⟨(s',t'),h⟩)
theorem AWP.loop3 {P:Program} {N k:Nat} {fr:Fr} {H:Heap} {Q:Exit→Fr→Heap→Prop} {α β γ:Type} (F:α→β→γ→Fr) (G:α→β→γ→Heap) (I:α→β→γ→Prop) (μ:α→β→γ→Nat) {p:cA} (s0:α) (t0:β) (u0:γ) (h0:I s0 t0 u0)
  (hs:Sub k N fr H (F s0 t0 u0) (G s0 t0 u0))
  (round:∀ s t u,I s t u→AWP P N k p (yV (fun fr' H'=>∃ s' t' u',I s' t' u'∧μ s' t' u' < μ s t u∧Sub k N fr' H' (F s' t' u') (G s' t' u')) Q) (F s t u) (G s t u)):AWP P N k (.loop p) Q fr H:=
 AWP.loop (σ:=α×β×γ) (fun s=>F s.1 s.2.1 s.2.2) (fun s=>G s.1 s.2.1 s.2.2) (fun s=>I s.1 s.2.1 s.2.2) (fun s=>μ s.1 s.2.1 s.2.2) (s0,t0,u0) h0 hs fun s hi=>AWP.mono (round s.1 s.2.1 s.2.2 hi) fun e fr H h=>by
  cases e<;>first | exact h | (obtain⟨s',t',u',h⟩:=h; exact⟨(s',t',u'),h⟩)
theorem AWP.joinB0 {P:Program} {N k:Nat} {a b:cA} {fr:Fr} {H:Heap} {Q Q':Exit→Fr→Heap→Prop} (F':Fr) (H':Heap) (h1:AWP P N k a (yV (fun fr2 H2=>Sub k N fr2 H2 F' H') Q) fr H)
  (h2:AWP P N k b Q' F' H') (hq:∀ fr H,AWP P N k b Q' fr H→Q .normal fr H:=by intro _ _ h; exact h):AWP P N k a Q fr H:=
 AWP.mono h1 fun e fr H h=>by
  cases e<;>first | exact h | exact hq _ _ (AWP.sub h h2)
theorem j4 {k:Nat} {rs:List kX} {fr:Fr} {H:Heap} {e:Exit} {R:AV→Heap→Prop} {res res':AV} {H2:Heap} (ids:List (List (Nat×Nat))) (he:e=.normal∨e=.ret) (hres:mG fr H rs=some res) (hR:R res' H2)
  (h5:To (ToT (H++gh []) H.length (dG ids)) (rho ids) res res') (h4:aI (ToB (ToT (H++gh []) H.length (dG ids)) (rho ids)) (H++gh []) ids H2) (h1:kA 0 k ids=true) (h2:oG k ids (H++gh [])=true) (h3:pJ ids.flatten=true):
  (e=.normal∨e=.ret)∧∃ res res' H2,mG fr H rs=some res∧f8 k H res H2 res'∧R res' H2:=⟨he,res,res',H2,hres,f8.to [] ids h5 h4 h1 h2 h3,hR⟩
def C3 (af:List (List Nat)) (s b:Nat) (rb:bT):Nat→List bT→Bool
 | _,[]=>true
 | a,ra::l=>(Nat.ble b a || (j5 af af.length (s+a) (s+b) || gA ra rb)) && C3 af s b rb (a+1) l
def tF (af:List (List Nat)) (s:Nat) (R:List bT):Nat→List bT→Bool
 | _,[]=>true
 | b,rb::l=>C3 af s b rb 0 R && tF af s R (b+1) l
theorem wP {af s b rb}:∀ {l:List bT} {a0:Nat},C3 af s b rb a0 l=true→∀(j:Nat) ra,l[j]?=some ra→a0+j < b→j5 af af.length (s+(a0+j)) (s+b)=true∨gA ra rb=true
 | [],_,_,j,_,h,_=>by simp at h
 | r::l,a0,h,j,ra,hj,hb=>by
  simp only[C3,bAe,Bool.or_eq_true] at h
  cases j with
  | zero=>
   simp only[List.getElem?_cons_zero,oIn] at hj;subst hj
   rcases h.1 with h1 | h1
   ·have:=nlB h1; omega
   ·exact h1
  | succ j=>
   have:=wP h.2 j ra (by simpa using hj) (by omega);rw[show a0+(j+1)=a0+1+j by omega];exact this
theorem vW {af s R}:∀ {l:List bT} {b0:Nat},tF af s R b0 l=true→∀(j:Nat) rb,l[j]?=some rb→C3 af s (b0+j) rb 0 R=true
 | [],_,_,j,_,h=>by simp at h
 | r::l,b0,h,j,rb,hj=>by
  simp only[tF,bAe] at h
  cases j with
  | zero=>
   simp only[List.getElem?_cons_zero,oIn] at hj;subst hj;exact h.1
  | succ j=>
   have:=vW h.2 j rb (by simpa using hj);rw[show b0+(j+1)=b0+1+j by omega];exact this
theorem oS.of {af s R} (h:tF af s R 0 R=true):oS af s R:=fun a b ra rb hab ha hb=>by
 have:=vW h b rb hb;rw[Nat.zero_add] at this;have:=wP this a ra ha (by omega)
 rwa[Nat.zero_add] at this
theorem AWP.dkm {P:Program} {N k:Nat} {fr:Fr} {H:Heap} {Q:Exit→Fr→Heap→Prop} {zs:List IOper} {af:List (List Nat)} (n:Nat) (y:IOper) (hp:P.follows .mixedOrders=true) (hz:zs=zs.take n++y::zs.drop (n+1)) (hl:(zs.take n).length=n)
  (hlow:rV 0 af=true) (h1:((List.range n).all fun j=>j5 af af.length j n)=true) (h2:((List.range (zs.drop (n+1)).length).all fun j=>j5 af af.length n (n+1+j))=true)
  (h:DK P H.length 0 (zs.take n) fr (H++[List.replicate (zs.take n).length .dead]) [] fun R1 fr1 H1=>tF af 0 R1 0 R1=true∧Reg P N k [y] fr1 H1 fun fr2 H2=>
   DK P H2.length 0 (zs.drop (n+1)) fr2 (H2++[List.replicate (zs.drop (n+1)).length .dead]) [] fun R2 fr3 H3=>tF af (n+1) R2 0 R2=true∧Q .normal fr3 H3):AWP P N k (.draw zs af) Q fr H:=by
 obtain⟨R1,fr1,H1,hr,hs,hreg⟩:=h;rw[List.reverse_nil,List.nil_append] at hs;refine AWP.drawMid (R1:=R1) (fr1:=fr1) (H1:=H1) hz hp hlow (fun j hj=>?_) (fun j hj=>?_) hr (.of hs) (hreg.mono fun fr2 H2 hk=>?_)
 ·rw[hl] at hj ⊢
  exact List.all_eq_true.1 h1 j (List.mem_range.2 hj)
 ·rw[hl]
  exact List.all_eq_true.1 h2 j (List.mem_range.2 hj)
 ·obtain⟨R2,fr3,H3,hr2,hs2,hq⟩:=hk
  rw[List.reverse_nil,List.nil_append] at hs2;exact⟨R2,fr3,H3,hr2,by rw[hl]; exact .of hs2,hq⟩
theorem aB.args {P:Program} {f:FuncId} {args args':List AV} {v:AV} (h:aB P f args' v) (hl:args.length=args'.length) (hle:∀(j:Nat) a b,args[j]?=some a→args'[j]?=some b→Le a b):aB P f args v:=by
 refine⟨h.1,fun M J w cargs h1 h2 h3=>h.2 M J w cargs (by omega) (fun j c v hc hv=>?_) h3⟩;have hj:=(gEs.1 hc).1;have e:args[j]?=some args[j]:=gEg (by omega);exact hle j _ c e hc M J v (h2 j _ v e hv)
theorem Le.func (f:FuncId):Le (.sc (.func (.func f) #[] #[])) (.clo (.func f) [] []):=fun M J v h=>by
 cases h
 exact .clo _ _ _ _ _ rfl rfl (fun j c v h _=>by simp at h) (fun j c v h _=>by simp at h)
end Go.Av
namespace Go.Av
def beh (n a b:Nat):Option (Nat×Nat):=match Nat.blt a n with
 | true=>none
 | false=>some (a - n,b)
theorem KY {n a b:Nat} (h:a < n):beh n a b=none:=by
 have e:Nat.blt a n=true:=by simpa[Nat.blt_eq] using h
 simp only[beh,e]
theorem vX {n a b:Nat} (h:n≤a):beh n a b=some (a - n,b):=by
 have e:Nat.blt a n=false:=by
  apply Bool.eq_false_iff.2;intro q
  have:a < n:=by simpa[Nat.blt_eq] using q
  omega
 simp only[beh,e]
theorem cJ {H X:Heap} {a b:Nat} (h:a < H.length):hget (H++X) a b=hget H a b:=by
 unfold hget;rw[List.getElem?_append_left h]
theorem cK {H X:Heap} {a b:Nat} (h:H.length≤a):hget (H++X) a b=hget X (a - H.length) b:=by
 unfold hget;rw[List.getElem?_append_right h]
theorem aH.frame {P:Program} {f:FuncId} {args:List AV} {R R':AV→Heap→Prop} (h:aH P f args [] R) (ha:∀ a∈args,bL a) (H:Heap)
  (hR:∀ res H0,R res H0→∃ res' H0',Ren (beh H.length) res res'∧(∀ g i x',hget H0' g i=some x'→x'.live=true→∃ x,hget H0 g i=some x∧fC (beh H.length) x x')∧(∀ g i,(hget H0 g i).isSome→(hget H0' g i).isSome)∧R' res' (H++H0')):aH P f args H R':=by
 refine⟨h.1,fun M J w cargs hl hr hH hM=>?_⟩
 have hH0:aU M (fun _ _=>none) [] w.heap:=
  ⟨fun g i x hx=>(by simp[hget] at hx),fun g i g' i' l l' β _ _ hJ=>(by cases hJ),fun g i l β _ hJ=>(by cases hJ),fun g i l hJ=>(by cases hJ)⟩
 refine(h.2 M (fun _ _=>none) w cargs hl (fun j c x hc hx=>(hr j c x hc hx).anyJ (ha c (mOg hc)) _) hH0 hM).mono ?_;rintro e w' ⟨cv,M',J',res,H0,rfl,hs,hrep,hr0⟩;obtain⟨res',H0',r1,r2,r3,r4⟩:=hR res H0 hr0
 have hno:∀ g i,¬ aT [] g i:=by
  rintro g i ⟨x,hx,_⟩;simp[hget] at hx
 have hsame:∀(β:Nat) o,w.heap[β]?=some o→w'.heap[β]?=some o:=fun β o ho=>hs.frame β o ho fun g i l hl _=>absurd hl (hno g i)
 let J2:Inj:=fun a b=>if a < H.length then J a b else J' (a - H.length) b
 have hJlt:∀ g i l,J g i=some l→g < H.length:=fun g i l hJ=>g8 ((hH.dom g i l hJ).1)
 have x1:Ext M J M' J2:=⟨hs.m,fun g i l hJ=>by
  show(if g < H.length then J g i else J' (g - H.length) i)=some l
  rw[if_pos (hJlt g i l hJ)]; exact hJ⟩
 have x2:Ext M' (J'.via (beh H.length)) M' J2:=⟨fun _ _ h=>h,fun a b l hJ=>by
  show(if a < H.length then J a b else J' (a - H.length) b)=some l
  by_cases hlt:a < H.length
  ·unfold Inj.via at hJ
   rw[KY hlt] at hJ
   cases hJ
  ·rw[if_neg hlt]
   unfold Inj.via at hJ;rw[vX (by omega)] at hJ
   exact hJ⟩
 have hl1:∀ a b,a < H.length→aT (H++H0') a b→aT H a b:=by
  rintro a b hlt ⟨x,hx,hxl⟩;rw[cJ hlt] at hx;exact⟨x,hx,hxl⟩
 have hl2:∀ a b,H.length≤a→aT (H++H0') a b→aT H0 (a - H.length) b:=by
  rintro a b hge ⟨x,hx,hxl⟩;rw[cK hge] at hx;obtain⟨y,hy,hb⟩:=r2 _ _ x hx hxl;exact⟨y,hy,hb.live hxl⟩
 have j1:∀ {a b:Nat} {l:Loc},a < H.length→J2 a b=some l→J a b=some l:=fun {a b l} hlt hJ=>by
  have:(if a < H.length then J a b else J' (a - H.length) b)=some l:=hJ
  rwa[if_pos hlt] at this
 have j2:∀ {a b:Nat} {l:Loc},H.length≤a→J2 a b=some l→J' (a - H.length) b=some l:=fun {a b l} hge hJ=>by
  have:(if a < H.length then J a b else J' (a - H.length) b)=some l:=hJ
  rwa[if_neg (by omega)] at this
 have hnew:∀ g i l β,aT H0 g i→J' g i=some l→l.blk=some β→w.heap.size≤β:=fun g i l β a b c=>by
  rcases hs.live g i l β a b c with⟨g0,i0,l0,q,_⟩ | q
  ·exact absurd q (hno g0 i0)
  ·exact q
 have hfresh:∀ β o,M' β=some o→M β=some o∨w.heap.size≤β:=fun β o ho=>by
  rcases hs.fresh β o ho with q | q | ⟨g,i,l,q,_⟩
  ·exact .inl q
  ·exact .inr q
  ·exact absurd q (hno g i)
 refine⟨cv,M',J2,res',H++H0',rfl,⟨hs.m,fun g i l hg hJ=>x1.j g i l hJ,⟨?_,?_,?_,?_⟩,hs.mrep,hs.os,hs.tape,hs.output,hs.size,fun β o ho _=>hsame β o ho,?_,?_,hs.bk⟩,(hrep.ren r1).ext x2,r4⟩
 ·intro a b x hx hxl
  by_cases hlt:a < H.length
  ·rw[cJ hlt] at hx
   obtain⟨l,p,q⟩:=hH.blk a b x hx hxl;refine⟨l,x1.j a b l p,q.ext x1 fun β hβ=>?_⟩;have hb:=(hH.dom a b l p).2 β hβ;rw[Array.getElem?_eq_getElem hb];exact hsame β _ (Array.getElem?_eq_getElem hb)
  ·rw[cK (by omega)] at hx
   obtain⟨y,hy,hb⟩:=r2 _ _ x hx hxl;obtain⟨l,p,q⟩:=hs.hrep.blk _ _ y hy (hb.live hxl);refine⟨l,x2.j a b l ?_,(q.ren hb).ext x2 fun β _=>rfl⟩;unfold Inj.via;rw[vX (by omega)];exact p
 ·intro a b a' b' l l' β la lb ja jb ba bb
  by_cases h1:a < H.length
  ·by_cases h2:a' < H.length
   ·exact hH.inj a b a' b' l l' β (hl1 a b h1 la) (hl1 a' b' h2 lb) (j1 h1 ja) (j1 h2 jb) ba bb
   ·have q1:=(hH.dom a b l (j1 h1 ja)).2 β ba
    have q2:=hnew _ _ l' β (hl2 a' b' (by omega) lb) (j2 (by omega) jb) bb;omega
  ·by_cases h2:a' < H.length
   ·have q1:=(hH.dom a' b' l' (j1 h2 jb)).2 β bb
    have q2:=hnew _ _ l β (hl2 a b (by omega) la) (j2 (by omega) ja) ba;omega
   ·have:=hs.hrep.inj _ _ _ _ l l' β (hl2 a b (by omega) la) (hl2 a' b' (by omega) lb) (j2 (by omega) ja) (j2 (by omega) jb) ba bb
    exact⟨by omega,this.2⟩
 ·intro a b l β la ja ba
  by_cases h1:a < H.length
  ·cases e:M' β with
   | none=>rfl
   | some o=>
    rcases hfresh β o e with q | q
    ·rw[hH.out a b l β (hl1 a b h1 la) (j1 h1 ja) ba] at q; cases q
    ·have:=(hH.dom a b l (j1 h1 ja)).2 β ba; omega
  ·exact hs.hrep.out _ _ l β (hl2 a b (by omega) la) (j2 (by omega) ja) ba
 ·intro a b l ja
  by_cases h1:a < H.length
  ·have:=hH.dom a b l (j1 h1 ja)
   exact⟨by rw[cJ h1]; exact this.1,fun β hβ=>Nat.lt_of_lt_of_le (this.2 β hβ) hs.size⟩
  ·have:=hs.hrep.dom _ _ l (j2 (by omega) ja)
   exact⟨by rw[cK (by omega)]; exact r3 _ _ this.1,this.2⟩
 ·intro β o ho
  rcases hfresh β o ho with q | q
  ·exact .inl q
  ·exact .inr (.inl q)
 ·intro a b l β la ja ba
  by_cases h1:a < H.length
  ·exact .inl ⟨a,b,l,hl1 a b h1 la,j1 h1 ja,ba⟩
  ·exact .inr (hnew _ _ l β (hl2 a b (by omega) la) (j2 (by omega) ja) ba)
end Go.Av
namespace Go.Av
open Go.RowKit Go.WideShapes Go.ChangeShapes Go.ChangeAt
inductive ASh
 | one (s:Sh)
 | agg (r:List Sh)
inductive A9:ASh→AV→Prop
 | one {s:Sh} {c:AV} (h:Fit s c):A9 (.one s) c
 | agg {r:List Sh} {cs:List AV} (hl:cs.length=r.length) (h:∀(j:Nat) s c,r[j]?=some s→cs[j]?=some c→Fit s c):A9 (.agg r) (.agg cs)
section
variable {H:Type} {enc:TypeId×Value→H} {P:Program}
def lP (P:Program) (d:Nat):List TypeId→Option (List ASh)
 | []=>some []
 | t::ts=>match shp P d t,lP P d ts with
  | some q,some r=>match P.underlying t with
   | some (.struct _)=>some (.agg q::r)
   | some (.array _ _)=>none
   | _=>match q with
    | [s]=>some (.one s::r)
    | _=>none
  | _,_=>none
theorem tN {w:World} {base d:Nat}:∀(ts:List TypeId) (row:List ASh) (vs:List Value) (ds:List (DataW H)) (ps:List MemPlace),DataW.TrodAll enc P w 0 (fun _=>true) true ts vs ds ps→lP P d ts=some row →
  (∀(j:Nat) t v,ts[j]?=some t→vs[j]?=some v→Value.okWide P w .any base t v) →
  vs.length=row.length∧∃ avs:List AV,avs.length=row.length∧(∀(j:Nat) s c,row[j]?=some s→avs[j]?=some c→A9 s c)∧∀(j:Nat) c v,avs[j]?=some c→vs[j]?=some v→Rep (oM w) noJ c v
 | [],row,[],_,_,_,hs,_=>by
  simp only[lP,oIn] at hs;subst hs;exact⟨rfl,[],rfl,fun j s c h=>by simp at h,fun j c v h=>by simp at h⟩
 | t::ts,row,v::vs,d0::ds,ps,h,hs,hc=>by
  obtain⟨p,q,⟨fuel,h1⟩,h2,_⟩:=h;simp only[lP] at hs;have hv:=hc 0 t v rfl rfl;split at hs
  ·rename_i q0 r e1 e2
   obtain⟨l2,avs,k1,k2,k3⟩:=tN ts r vs ds q h2 e2 fun j t v a b=>hc (j+1) t v (by simpa using a) (by simpa using b)
   have hk:=uK d fuel t _ _ _ h1 e1
   have fin:∀(s:ASh) (c:AV),A9 s c→Rep (oM w) noJ c v→(v::vs).length=(s::r).length∧∃ avs:List AV,avs.length=(s::r).length∧(∀(j:Nat) s' c,(s::r)[j]?=some s'→avs[j]?=some c→A9 s' c)∧∀(j:Nat) c v',avs[j]?=some c→(v::vs)[j]?=some v'→Rep (oM w) noJ c v':=by
    intro s c hf hr;refine⟨by simp[l2],c::avs,by simp[k1],fun j s' c' a b=>?_,fun j c' v' a b=>?_⟩
    ·cases j with
     | zero=>simp at a b; subst a; subst b; exact hf
     | succ j=>exact k2 j s' c' (by simpa using a) (by simpa using b)
    ·cases j with
     | zero=>simp at a b; subst a; subst b; exact hr
     | succ j=>exact k3 j c' v' (by simpa using a) (by simpa using b)
   split at hs
   ·rename_i fs ht
    injection hs with hs; subst hs
    cases v with
    | agg cells=>
     obtain⟨m1,cs,m2,m3,m4⟩:=hk;refine fin _ (.agg cs) (.agg m2 m3) (.agg cs cells ?_ fun j c u a b=>(m4 j c u a (by simpa[Value.cells] using b)).1);simp[Value.cells] at m1;omega
    | _=>simp[Value.okWide,ht] at hv
   ·cases hs
   ·rename_i hne hne2
    split at hs
    ·injection hs with hs; subst hs
     rw[QQ e1 (fun fs hf=>hne fs hf) (fun n e hf=>hne2 n e hf) hv] at hk;obtain⟨m1,cs,m2,m3,m4⟩:=hk
     match cs,m2 with
     | [c],_=>exact fin _ c (.one (m3 0 _ c rfl rfl)) (m4 0 c v rfl rfl).1
    ·cases hs
  ·cases hs
theorem EJ {f:FuncId} {fn:Func} {s:ChangeSpec} {row:List ASh} {d:Nat} {tb:TypeId} (hs:lP P d fn.params.toList=some row) (hvars:s.vars=[])
  (hl:laidOutB P=true) (hm:mapsRowed P=true) (hz:∀ t e,t < P.types.size→P.underlying t=some (.slice e)→0 < P.cellsOf e) (hts:∀ t∈fn.params.toList,t < P.types.size)
  (hr:fn.resultTypes=#[tb]) (htb:P.underlying tb=some .bool)
  (hspec:∀ ds:List (DataW H),ds.length=fn.params.size→(s.fn H ds).results=[.lit (.bool true)]∧(s.fn H ds).args=ds∧(s.fn H ds).vars=[])
  (hc:∀ avs:List AV,avs.length=row.length→(∀(j:Nat) t c,row[j]?=some t→avs[j]?=some c→A9 t c)→aH P f avs [] fun res _=>res=.sc (.bool true))
  {W:World} {base:Nat} {args:Array Value} {ds gs:List (DataW H)} {before:List MemPlace}
  (hval:∀(j:Nat) t v,fn.params[j]?=some t→args[j]?=some v→Value.okWide P W .any base t v) (hW:DataW.Whole enc P fn.params.toList s.vars false W args.toList ds gs before):
  Calls P f args W fun e W'=>∃ v,e=.returned v∧s.post enc P fn false true false false W args v W':=by
 have hW0:=hW;obtain⟨p,q,h1,h2,e,hzf,hn⟩:=hW;obtain⟨l1,l2⟩:=trodAll_length h1
 have hgs:gs=[]:=by
  rw[hvars] at h2
  cases gs with
  | nil=>rfl
  | cons=>exact h2.elim
 subst hgs;obtain⟨hlen,avs,e1,e2,e3⟩:=tN (base:=base) fn.params.toList row args.toList ds p h1 hs (fun j t v a b=>hval j t v (by simpa using a) (by simpa using b));refine((hc avs e1 e2).2 (oM W) noJ W args (by simp at hlen; omega) (fun j c v a b=>e3 j c v a (by simpa using b)) (OZ _ _) (IR W)).mono ?_;rintro e W' ⟨v,M',J',res,H',rfl,hst,hrep,rfl⟩
 cases hrep
 obtain⟨r1,r2,r3⟩:=hspec ds (by simp at l1 l2 ⊢; omega);refine⟨.bool true,rfl,xC hW0 hvars hl hm hz hts hr htb (by rw[List.append_nil]; exact r1) (by rw[List.append_nil]; exact r2) (by rw[List.append_nil]; exact r3) ?_⟩;exact Below.same (fun β o h=>hst.mrep β o (hst.m β o h)) hst.os hst.tape.1 hst.output hst.size
end
end Go.Av
namespace Go.Av
theorem CW {g i g' i':Nat} {fr:Fr} {o:IOp} {H H':Heap} {v:AV} (hd:dwr g i fr o=[]) (h:aD g i o fr H=some (v,H')):H'=H∧aD g' i' o fr H=some (v,H):=by
 have fin:∀ {x:Option (AV×Heap)},aD g i o fr H=x→aD g' i' o fr H=x→H'=H→H'=H∧aD g' i' o fr H=some (v,H):=fun {x} h1 h2 h3=>⟨h3,by rw[h2,← h1,h,h3]⟩
 cases o with
 | alloc | box | buildSlice | makeMap | makeSlice | append=>simp[dwr] at hd
 | store sz a x=>
  simp only[dwr] at hd;simp only[aD] at h;split at h
  ·rename_i e
   rw[e] at hd;simp[bO] at hd
  ·cases h
 | mapUpdate k m ix x=>
  simp only[dwr] at hd;simp only[aD] at h;split at h
  ·rename_i e _
   rw[e] at hd;simp[bO] at hd
  ·cases h
 | mop e xs=>
  simp only[dwr] at hd;simp only[aD] at h
  have hm:∀ r,eC g i H e (avals fr xs)=some r→eC g' i' H e (avals fr xs)=some r∧r.2=H:=by
   intro r hr;generalize avals fr xs=as at *;unfold eC at hr ⊢
   cases e with
   | range=>simp[mwr] at hd
   | slice0=>simp[mwr] at hd
   | sliceA=>
    refine⟨hr,?_⟩;simp only at hr
    (repeat' split at hr)<;>(try (cases hr; done))<;>(injection hr with hr; rw[← hr])
   | next=>
    refine⟨hr,?_⟩;simp only at hr
    (repeat' split at hr)<;>(try (cases hr; done))<;>(injection hr with hr; rw[← hr])
   | entry=>
    refine⟨hr,?_⟩;simp only at hr
    (repeat' split at hr)<;>(try (cases hr; done))<;>(injection hr with hr; rw[← hr])
   | cap=>
    refine⟨hr,?_⟩;simp only at hr
    (repeat' split at hr)<;>(try (cases hr; done))<;>(injection hr with hr; rw[← hr])
   | stop=>cases hr
   | appN=>simp[mwr] at hd
   | strB=>simp[mwr] at hd
   | iface t=>
    refine⟨hr,?_⟩;simp only[i7] at hr
    (repeat' split at hr)<;>(try (cases hr; done))<;>(injection hr with hr; rw[← hr])
   | s2a n=>
    refine⟨hr,?_⟩;simp only at hr
    (repeat' split at hr)<;>(try (cases hr; done))<;>(injection hr with hr; rw[← hr])
   | sliceP n lo hi=>
    refine⟨hr,?_⟩;obtain⟨u,H1⟩:=r;simp only at hr
    (repeat' split at hr)<;>(try (cases hr; done))<;>exact(yO (H2:=H) hr).2
   | nilM T=>
    refine⟨hr,?_⟩;simp only at hr
    (repeat' split at hr)<;>(try (cases hr; done))<;>(injection hr with hr; rw[← hr])
   | markS=>
    simp only at hr;split at hr
    ·simp[mwr,bO] at hd
    ·cases hr
   | clearM=>
    simp only at hr;split at hr
    ·simp[mwr,bO] at hd
    ·cases hr
   | del k=>
    simp only at hr;split at hr
    ·simp[mwr,bO] at hd
    ·cases hr
   | clear z=>
    simp only at hr;split at hr
    ·exact⟨hr,by injection hr with hr; rw[← hr]⟩
    ·simp[mwr,bO] at hd
    ·cases hr
   | copy sz=>
    simp only at hr;split at hr
    ·simp[mwr,bO] at hd
    ·cases hr
  obtain⟨h1,h2⟩:=hm _ h;simp only at h2;subst h2;exact⟨rfl,by simp only[aD]; exact h1⟩
 | insF ks m ix x=>
  simp only[dwr] at hd;simp only[aD] at h;split at h
  ·rename_i e _
   rw[e] at hd;simp[bO] at hd
  ·cases h
 | lookup z k x ix ok=>
  refine fin rfl rfl ?_;simp only[aD] at h;split at h
  ·split at h
   ·generalize mZ H _ _ _=r at h
    cases r with
    | none=>cases h
    | some r=>cases r<;>cases ok<;>simp only[mR,oIn,pIn] at h<;>exact h.2.symm
   ·cases h
  ·cases h
 | move x=>exact fin rfl rfl (by simp only[aD,i7,oIn,pIn] at h; exact h.2.symm)
 | makeFunc fn a b=>exact fin rfl rfl (by simp only[aD,AQ,oIn,pIn] at h; exact h.2.symm)
 | _=>
  refine fin rfl rfl ?_;simp only[aD] at h
  try simp only[i7] at h
  (repeat' split at h)<;>(try (cases h; done))<;>(simp only[oIn,pIn] at h; exact h.2.symm)
def gD:List (Nat×Nat)→Heap→Heap→Prop
 | [],_,_=>True
 | q::r,H,H'=>hget H' q.1 q.2=hget H q.1 q.2∧gD r H H'
theorem gD.mem {H H':Heap}:∀ {pr:List (Nat×Nat)},gD pr H H'→∀ q∈pr,hget H' q.1 q.2=hget H q.1 q.2
 | _::_,h,q,hq=>by
  rcases List.mem_cons.1 hq with rfl | hq
  ·exact h.1
  ·exact h.2.mem q hq
theorem gD.refl (H:Heap):∀ pr:List (Nat×Nat),gD pr H H
 | []=>trivial
 | _::r=>⟨rfl,gD.refl H r⟩
inductive RT (P:Program) (k:Nat):List (IOper×List (Nat×Nat))→Fr→Heap→(Fr→Heap→Prop)→Prop
 | nil {fr:Fr} {H:Heap} {K:Fr→Heap→Prop} (h:K fr H):RT P k [] fr H K
 | op {x:IOper} {pr:List (Nat×Nat)} {xs:List (IOper×List (Nat×Nat))} {fr:Fr} {H:Heap} {K:Fr→Heap→Prop} {o:IOp} {v:AV} {H':Heap} (hg:gok fr x.guard=some true) (hx:x.act=.op o) (hs:aD H.length 0 o fr H=some (v,H'))
   (hp:gD pr H H') (h:RT P k xs (fr.put x.dst v) H' K):RT P k ((x,pr)::xs) fr H K
 | skip {x:IOper} {pr:List (Nat×Nat)} {xs:List (IOper×List (Nat×Nat))} {fr:Fr} {H:Heap} {K:Fr→Heap→Prop} (hg:gok fr x.guard=some false) (h:RT P k xs (fr.put x.dst (.sc Go.undef)) H K):RT P k ((x,pr)::xs) fr H K
 | call {x:IOper} {pr:List (Nat×Nat)} {xs:List (IOper×List (Nat×Nat))} {fr:Fr} {H:Heap} {K:Fr→Heap→Prop} {f:FuncId} {args:List Operand} {R:AV→Heap→Prop} (hk:k≤H.length) (hg:gok fr x.guard=some true) (hx:x.act=.call f args)
   (hc:aH P f (avals fr args) H R) (hp:∀ res H',R res H'→gD pr H H') (h:∀ res H',R res H'→RT P k xs (fr.put x.dst res) H' K):RT P k ((x,pr)::xs) fr H K
 | callV {x:IOper} {pr:List (Nat×Nat)} {xs:List (IOper×List (Nat×Nat))} {fr:Fr} {H:Heap} {K:Fr→Heap→Prop} {f:Cal} {g:FuncId} {fs cs:List AV} {args:List Operand} {R:AV→Heap→Prop} (hk:k≤H.length) (hg:gok fr x.guard=some true)
   (hx:x.act=.callV f args) (hf:evC P fr f=.clo (.func g) fs cs) (hc:aH P g (fs++avals fr args++cs) H R) (hp:∀ res H',R res H'→gD pr H H') (h:∀ res H',R res H'→RT P k xs (fr.put x.dst res) H' K):RT P k ((x,pr)::xs) fr H K
section
variable {P:Program} {N k:Nat} {xs:List (IOper×List (Nat×Nat))} {fr:Fr} {H:Heap} {K:Fr→Heap→Prop}
theorem RT.reg (h:RT P k xs fr H K):Reg P N k (xs.map (·.1)) fr H K:=by
 induction h with
 | nil h=>exact Reg.nil h
 | op hg hx hs _ _ ih=>exact Reg.op hg hx hs ih
 | skip hg _ ih=>exact Reg.skip hg ih
 | call hk hg hx hc _ _ ih=>exact Reg.call hk hg hx (hc.mono fun res H' hr=>ih res H' hr)
 | callV hk hg hx hf hc _ _ ih=>exact Reg.callV hk hg hx hf (hc.mono fun res H' hr=>ih res H' hr)
theorem RT.mono {K':Fr→Heap→Prop} (h:RT P k xs fr H K) (hk:∀ fr H,K fr H→K' fr H):RT P k xs fr H K':=by
 induction h with
 | nil h=>exact .nil (hk _ _ h)
 | op hg hx hs hp _ ih=>exact .op hg hx hs hp (ih hk)
 | skip hg _ ih=>exact .skip hg (ih hk)
 | call hk' hg hx hc hp _ ih=>exact .call hk' hg hx hc hp fun res H' hr=>ih res H' hr hk
 | callV hk' hg hx hf hc hp _ ih=>exact .callV hk' hg hx hf hc hp fun res H' hr=>ih res H' hr hk
theorem RT.cons {x:IOper} {pr:List (Nat×Nat)} (h:RT P k [(x,pr)] fr H fun fr' H'=>RT P k xs fr' H' K):RT P k ((x,pr)::xs) fr H K:=by
 have inv:∀ {fr:Fr} {H:Heap},RT P k [] fr H (fun fr' H'=>RT P k xs fr' H' K)→RT P k xs fr H K:=fun h=>by
  cases h with
  | nil h=>exact h
 cases h with
 | op hg hx hs hp h=>exact .op hg hx hs hp (inv h)
 | skip hg h=>exact .skip hg (inv h)
 | call hk' hg hx hc hp h=>exact .call hk' hg hx hc hp fun res H' hr=>inv (h res H' hr)
 | callV hk' hg hx hf hc hp h=>exact .callV hk' hg hx hf hc hp fun res H' hr=>inv (h res H' hr)
def Kc (K:Fr→Heap→Prop) (fr:Fr) (H:Heap):Prop:=∃ fr0:Fr,(∀ t,fr0.get t=fr.get t)∧K fr0 H
theorem Kc.of {K:Fr→Heap→Prop} {fr:Fr} {H:Heap} (h:K fr H):Kc K fr H:=⟨fr,fun _=>rfl,h⟩
theorem Kc.kc {K:Fr→Heap→Prop} {fr:Fr} {H:Heap} (h:Kc (Kc K) fr H):Kc K fr H:=by
 obtain⟨a,h1,b,h2,h3⟩:=h;exact⟨b,fun t=>(h2 t).trans (h1 t),h3⟩
theorem pS {fr fr2:Fr} (h:∀ t,fr.get t=fr2.get t) (d:Option Nat) (v:AV):∀ t,(fr.put d v).get t=(fr2.put d v).get t:=fun t=>by rw[iW,iW,h]
theorem RT.feq (h:RT P k xs fr H K):∀ {fr2:Fr},(∀ t,fr.get t=fr2.get t)→RT P k xs fr2 H (Kc K):=by
 induction h with
 | nil h=>exact fun he=>.nil ⟨_,he,h⟩
 | @op x pr xs fr H K o v H' hg hx hs hp _ ih=>
  intro fr2 he
  obtain⟨ha,hgk⟩:=jT (x:=x) (fr:=fr) (fr2:=fr2) fun t _=>(he t).symm
  refine .op (o:=o) (by rw[hgk,hg]) hx ?_ hp (ih (pS he _ _));rw[kH fun y hy=>ha y (by rw[hx]; exact hy)];exact hs
 | @skip x pr xs fr H K hg _ ih=>
  intro fr2 he
  obtain⟨ha,hgk⟩:=jT (x:=x) (fr:=fr) (fr2:=fr2) fun t _=>(he t).symm
  exact .skip (by rw[hgk,hg]) (ih (pS he _ _))
 | @call x pr xs fr H K f args R hk hg hx hc hp _ ih=>
  intro fr2 he
  obtain⟨ha,hgk⟩:=jT (x:=x) (fr:=fr) (fr2:=fr2) fun t _=>(he t).symm
  have hav:avals fr2 args=avals fr args:=List.map_congr_left fun y hy=>ha y (by rw[hx]; exact hy)
  exact .call (f:=f) (args:=args) hk (by rw[hgk,hg]) hx (by rw[hav]; exact hc) hp fun res H' hr=>ih res H' hr (pS he _ _)
 | @callV x pr xs fr H K f g fs cs args R hk hg hx hf hc hp _ ih=>
  intro fr2 he
  obtain⟨ha,hgk⟩:=jT (x:=x) (fr:=fr) (fr2:=fr2) fun t _=>(he t).symm
  have hav:avals fr2 args=avals fr args:=List.map_congr_left fun y hy=>ha y (by rw[hx]; exact mCm _ hy)
  exact .callV (f:=f) (args:=args) hk (by rw[hgk,hg]) hx (by unfold evC; rw[ha f.opd (by rw[hx]; exact List.mem_cons_self ..)]; exact hf) (by rw[hav]; exact hc) hp fun res H' hr=>ih res H' hr (pS he _ _)
def FM:IOp→Bool
 | .alloc _=>false
 | .box _=>false
 | .buildSlice _ _ _ _=>false
 | .makeMap=>false
 | .makeSlice _ _ _ _=>false
 | .store _ _ _=>false
 | .mapUpdate _ _ _ _=>false
 | .insF _ _ _ _=>false
 | .append _ _ _ _=>false
 | .mop e _=>E2 e
 | _=>true
theorem yA {o:IOp} (h:FM o=true) (g i:Nat) (fr:Fr):dwr g i fr o=[]:=by cases o<;>first | rfl | exact xG h _ _ _ | cases h
def EQ (x y:IOper):Bool:=nD x.dst y.tmps && (nD y.dst x.tmps && mE x.dst y.dst)
theorem uW {d:Option Nat} {l:List Nat} (h:nD d l=true) (fr:Fr) (v:AV):∀ t∈l,(fr.put d v).get t=fr.get t:=fun t ht=>by
 rw[iW]
 cases d with
 | none=>simp
 | some d=>
  have:=List.all_eq_true.1 h t ht;rw[if_neg];intro e
  injection e with e
  subst e;simp at this
theorem NF {o:IOp} {fr fr2:Fr} (ho:∀ x∈o.opds,ev fr2 x=ev fr x):drd fr2 o=drd fr o:=by
 cases o with
 | xop e xs=>simp only[drd,show avals fr2 xs=avals fr xs from List.map_congr_left ho]
 | mop e xs=>simp only[drd,show avals fr2 xs=avals fr xs from List.map_congr_left ho]
 | _=>simp only[drd]<;>simp only[IOp.opds,List.mem_cons,List.not_mem_nil,or_false,forall_eq_or_imp,forall_eq] at ho<;>simp[ho]
def BB (x:IOper) (fr:Fr) (H:Heap) (v:AV) (B:List (Nat×Nat)):Prop:=
 (gok fr x.guard=some true∧∃ o,x.act=.op o∧FM o=true∧aD H.length 0 o fr H=some (v,H)∧∀ q∈drd fr o,q∈B)∨(gok fr x.guard=some false∧v=.sc Go.undef)
theorem BB.at {x:IOper} {fr fr2:Fr} {H H2:Heap} {v:AV} {B:List (Nat×Nat)} (h:BB x fr H v B) (hf:∀ t∈x.tmps,fr2.get t=fr.get t) (hB:∀ q∈B,hget H2 q.1 q.2=hget H q.1 q.2):BB x fr2 H2 v B:=by
 obtain⟨ha,hgk⟩:=jT (x:=x) (fr:=fr) (fr2:=fr2) hf
 rcases h with⟨h1,o,h2,h3,h4,h5⟩ | ⟨h1,h2⟩
 ·have ho:∀ y∈o.opds,ev fr2 y=ev fr y:=fun y hy=>ha y (by rw[h2]; exact hy)
  refine .inl ⟨by rw[hgk,h1],o,h2,h3,?_,by rw[NF ho]; exact h5⟩;have hw:=yA h3
  obtain⟨H2',q1,_⟩:=wA (H2:=H2) h4 (fun hm=>by rw[hw] at hm; cases hm) (fun hm=>by rw[hw] at hm; cases hm) fun p hp=>hB p (h5 p hp)
  rw[kH ho];have:=(CW (g':=H2.length) (i':=0) (hw _ _ _) q1).2;exact this
 ·exact .inr ⟨by rw[hgk,h1],h2⟩
theorem BB.rt {x:IOper} {px:List (Nat×Nat)} {v:AV} {B:List (Nat×Nat)} (h:BB x fr H v B) (hr:RT P k xs (fr.put x.dst v) H K):RT P k ((x,px)::xs) fr H K:=by
 rcases h with⟨h1,o,h2,h3,h4,h5⟩ | ⟨h1,rfl⟩
 ·exact .op h1 h2 h4 (gD.refl _ _) hr
 ·exact .skip h1 hr
theorem JJ {fr:Fr} {d e:Option Nat} (h:mE d e=true) (v u:AV):∀ t,((fr.put d v).put e u).get t=((fr.put e u).put d v).get t:=fun t=>by
 rw[iW,iW,iW,iW]
 by_cases h1:e=some t<;>by_cases h2:d=some t
 ·subst h1; subst h2; simp[mE] at h
 ·rw[if_pos h1,if_neg h2,if_pos h1]
 ·rw[if_neg h1,if_pos h2,if_pos h2]
 ·rw[if_neg h1,if_neg h2,if_neg h2,if_neg h1]
theorem RT.insert {x:IOper} {px B:List (Nat×Nat)} {v:AV} {l2:List (IOper×List (Nat×Nat))}:∀(l1:List (IOper×List (Nat×Nat))) {fr:Fr} {H:Heap} {K:Fr→Heap→Prop},RT P k (l1++l2) (fr.put x.dst v) H K→BB x fr H v B →
  (∀ a∈l1,EQ x a.1=true∧∀ q∈B,q∈a.2)→RT P k (l1++(x,px)::l2) fr H (Kc K)
 | [],fr,H,K,h,ht,_=>ht.rt (h.mono fun _ _=>Kc.of)
 | (y,py)::l1,fr,H,K,h,ht,hl=>by
  obtain⟨hap,hB⟩:=hl _ (List.mem_cons_self ..);simp only[EQ,bAe] at hap;obtain⟨e1,e2,e3⟩:=hap
  have hl':=fun a ha=>hl a (mCm _ ha)
  obtain⟨ha,hgk⟩:=jT (x:=y) (fr:=fr) (fr2:=fr.put x.dst v) (uW e1 fr v)
  have next:∀(u:AV) (H':Heap),gD py H H'→RT P k (l1++l2) ((fr.put x.dst v).put y.dst u) H' K→RT P k (l1++(x,px)::l2) (fr.put y.dst u) H' (Kc K):=fun u H' hp h=>by
   have h1:=h.feq (JJ e3 v u);have h2:=RT.insert (px:=px) (B:=B) l1 h1 (ht.at (uW e2 fr u) fun q hq=>hp.mem q (hB q hq)) hl'
   exact h2.mono fun _ _=>Kc.kc
  cases h with
  | op hg hx hs hp h=>
   refine .op (by rw[← hgk,hg]) hx ?_ hp (next _ _ hp h);rw[← kH fun y hy=>ha y (by rw[hx]; exact hy)];exact hs
  | skip hg h=>exact .skip (by rw[← hgk,hg]) (next _ _ (gD.refl _ _) h)
  | @call _ _ _ _ _ _ f args R hk hg hx hc hp h=>
   have hav:avals (fr.put x.dst v) args=avals fr args:=List.map_congr_left fun y hy=>ha y (by rw[hx]; exact hy)
   exact .call hk (by rw[← hgk,hg]) hx (by rw[← hav]; exact hc) hp fun res H' hr=>next _ _ (hp res H' hr) (h res H' hr)
  | @callV _ _ _ _ _ _ f g fs cs args R hk hg hx hf hc hp h=>
   have hav:avals (fr.put x.dst v) args=avals fr args:=List.map_congr_left fun y hy=>ha y (by rw[hx]; exact mCm _ hy)
   exact .callV hk (by rw[← hgk,hg]) hx (by unfold evC; rw[← ha f.opd (by rw[hx]; exact List.mem_cons_self ..)]; exact hf) (by rw[← hav]; exact hc) hp fun res H' hr=>next _ _ (hp res H' hr) (h res H' hr)
end
theorem cY.pull {I:Nat→Nat→Prop} {rem l:List Nat} (h:cY I rem l):∀(A:List Nat) (i:Nat) (B:List Nat),rem=A++i::B→∃ l1 l2,l=l1++i::l2∧cY I (A++B) (l1++l2)∧∀ j∈l1,j∈A∨(j∈B∧I i j):=by
 induction h with
 | nil=>intro A i B e; simp at e
 | cons A0 i0 B0 l hA hs ih=>
  intro A i B e
  rcases List.append_eq_append_iff.1 e with⟨A2,e1,e2⟩ | ⟨A2,e1,e2⟩
  ·cases A2 with
   | nil=>
    simp only[List.append_nil] at e1;subst e1;simp only[List.nil_append,List.cons.injEq] at e2;obtain⟨rfl,rfl⟩:=e2;exact⟨[],l,rfl,hs,fun j hj=>by cases hj⟩
   | cons x A2=>
    simp only[List.cons_append,List.cons.injEq] at e2;obtain⟨rfl,rfl⟩:=e2;subst e1;obtain⟨l1,l2,q1,q2,q3⟩:=ih (A0++A2) i B (by simp);refine⟨i0::l1,l2,by rw[q1]; rfl,?_,fun j hj=>?_⟩
    ·have:=cY.cons A0 i0 (A2++B) _ hA (by rw[← List.append_assoc]; exact q2)
     simpa using this
    ·rcases List.mem_cons.1 hj with rfl | hj
     ·exact .inl (by simp)
     ·rcases q3 j hj with h | h
      ·exact .inl (by simp at h ⊢; rcases h with h | h<;>simp[h])
      ·exact .inr h
  ·cases A2 with
   | nil=>
    simp only[List.append_nil] at e1;subst e1;simp only[List.nil_append,List.cons.injEq] at e2;obtain⟨rfl,rfl⟩:=e2;exact⟨[],l,rfl,hs,fun j hj=>by cases hj⟩
   | cons x A2=>
    simp only[List.cons_append,List.cons.injEq] at e2;obtain⟨rfl,rfl⟩:=e2;subst e1;obtain⟨l1,l2,q1,q2,q3⟩:=ih A i (A2++B0) (by simp);refine⟨i0::l1,l2,by rw[q1]; rfl,?_,fun j hj=>?_⟩
    ·have:=cY.cons (A++A2) i0 B0 _ (fun a ha=>hA a (by simp at ha ⊢; rcases ha with h | h<;>simp[h])) (by rw[List.append_assoc]; exact q2)
     simpa using this
    ·rcases List.mem_cons.1 hj with rfl | hj
     ·exact .inr ⟨by simp,hA i (by simp)⟩
     ·rcases q3 j hj with h | ⟨h,h'⟩
      ·exact .inl h
      ·exact .inr ⟨by simp at h ⊢; rcases h with h | h<;>simp[h],h'⟩
def sS (acc:List Nat):List Nat→Nat
 | []=>0
 | k::l=>(2 ^ k ||| acc.getD k 0) ||| sS acc l
def cgo:List Nat→List (List Nat)→List Nat
 | acc,[]=>acc
 | acc,l::r=>cgo (acc++[sS acc l]) r
def clo (af:List (List Nat)):List Nat:=cgo [] af
def bef (cl:List Nat) (i j:Nat):Bool:=(cl.getD j 0).testBit i
theorem vE {F:Nat→List Nat} {acc:List Nat} (ha:∀ j a,(acc.getD j 0).testBit a=true→Bef F a j):∀ {l:List Nat} {b:Nat},(∀ k∈l,k∈F b)→∀ {a:Nat},(sS acc l).testBit a=true→Bef F a b
 | [],_,_,a,h=>by simp[sS] at h
 | k::l,b,hl,a,h=>by
  have hk:=hl k (List.mem_cons_self ..);simp only[sS,Nat.testBit_or,Bool.or_eq_true,Nat.testBit_two_pow,decide_eq_true_eq] at h
  rcases h with(rfl | h) | h
  ·exact .base hk
  ·exact .step hk (ha k a h)
  ·exact vE ha (fun q hq=>hl q (mCm _ hq)) h
theorem CD {F:Nat→List Nat}:∀(r:List (List Nat)) (acc:List Nat),(∀(j:Nat) l,r[j]?=some l→F (acc.length+j)=l)→(∀ j a,(acc.getD j 0).testBit a=true→Bef F a j)→∀ j a,((cgo acc r).getD j 0).testBit a=true→Bef F a j
 | [],_,_,ha=>ha
 | l::r,acc,hF,ha=>by
  refine CD r (acc++[sS acc l]) (fun j q hq=>?_) fun j a h=>?_
  ·rw[lAp,List.length_singleton,Nat.add_assoc,Nat.add_comm 1 j]
   exact hF (j+1) q (by simpa using hq)
  ·by_cases h1:j < acc.length
   ·refine ha j a ?_
    simpa[List.getD,List.getElem?_append,h1] using h
   ·by_cases h2:j=acc.length
    ·subst h2
     have h3:(sS acc l).testBit a=true:=by simpa[List.getD,List.getElem?_append] using h
     refine vE ha (fun k hk=>?_) h3;have:=hF 0 l rfl;rw[Nat.add_zero] at this;rw[this];exact hk
    ·have h3:(acc++[sS acc l])[j]?=none:=List.getElem?_eq_none (by simp; omega)
     simp[List.getD,h3] at h
theorem J4 {F:Nat→List Nat} {af:List (List Nat)} (hF:∀(j:Nat) l,af[j]?=some l→F j=l) {i j:Nat} (h:bef (clo af) i j=true):Bef F i j:=
 CD af [] (fun j l hl=>by rw[List.length_nil,Nat.zero_add]; exact hF j l hl) (fun j a h=>by simp at h) j i h
def gP (cl:List Nat):List (Nat×List (Nat×Nat))→Nat→List (Nat×Nat)
 | [],_=>[]
 | (i,B)::p,j=>match bef cl i j with
  | true=>gP cl p j
  | false=>B++gP cl p j
def AF (i:Nat):List Nat→Option (List Nat×List Nat)
 | []=>none
 | a::r=>match Nat.beq a i with
  | true=>some ([],r)
  | false=>match AF i r with
   | some (A,B)=>some (a::A,B)
   | none=>none
theorem tM {i:Nat}:∀ {rem A B:List Nat},AF i rem=some (A,B)→rem=A++i::B
 | [],A,B,h=>by cases h
 | a::r,A,B,h=>by
  simp only[AF] at h;split at h
  ·rename_i e
   have:=nEb e;subst this
   injection h with h
   injection h with h1 h2
   subst h1; subst h2;rfl
  ·split at h
   ·rename_i e
    injection h with h
    injection h with h1 h2
    subst h1; subst h2;rw[tM e];rfl
   ·cases h
def EZ (x:IOper):Bool:=
 match x.act with
 | .op o=>FM o
 | _=>false
def rX (zs:List IOper) (x:IOper) (j:Nat):Bool:=
 match zs[j]? with
 | some y=>EQ x y
 | none=>false
def okP (cl:List Nat) (zs:List IOper):List (Bool×Nat)→List Nat→Bool
 | [],rem=>rem.isEmpty
 | (true,i)::pl,rem=>match AF i rem,zs[i]? with
  | some (A,B),some x=>EZ x && (A.all (fun j=>!bef cl i j && rX zs x j) && (B.all (fun j=>bef cl i j || rX zs x j) && okP cl zs pl (A++B)))
  | _,_=>false
 | (false,i)::pl,rem=>match rem with
  | a::B=>Nat.beq a i && (B.all (fun j=>bef cl i j) && okP cl zs pl B)
  | []=>false
def rdX (fr:Fr) (x:IOper):List (Nat×Nat):=
 match x.act with
 | .op o=>drd fr o
 | _=>[]
inductive sN:List (IOper×List (Nat×Nat))→List (IOper×List (Nat×Nat))→Prop
 | nil:sN [] []
 | cons {a b:IOper×List (Nat×Nat)} {l m:List (IOper×List (Nat×Nat))} (h:a.1=b.1∧∀ q∈a.2,q∈b.2) (h':sN l m):sN (a::l) (b::m)
def S2 (i:Nat):List (Nat×Nat)→List (Nat×List (Nat×Nat))→List (Nat×List (Nat×Nat))
 | [],pend=>pend
 | q::B,pend=>(i,q::B)::pend
def LP (P:Program) (k:Nat) (cl:List Nat) (zs:List IOper):List (Bool×Nat)→List (Nat×List (Nat×Nat))→Fr→Heap→(Fr→Heap→Prop)→Prop
 | [],_,fr,H,K=>K fr H
 | (true,i)::pl,pend,fr,H,K=>∃ x B,zs[i]?=some x∧(∀ q∈rdX fr x,q∈B)∧RT P k [(x,[])] fr H fun fr' H'=>LP P k cl zs pl (S2 i B pend) fr' H' K
 | (false,i)::pl,pend,fr,H,K=>∃ x,zs[i]?=some x∧RT P k [(x,gP cl pend i)] fr H fun fr' H'=>LP P k cl zs pl pend fr' H' K
def vS (cl:List Nat) (zs:List IOper) (pend:List (Nat×List (Nat×Nat))) (j:Nat):IOper×List (Nat×Nat):=(zs.getD j ⟨none,none,.call 0 []⟩,gP cl pend j)
theorem pW {cl zs pend j x} (h:zs[j]?=some x):vS cl zs pend j=(x,gP cl pend j):=by simp[vS,List.getD,h]
theorem LP.sound {P:Program} {k:Nat} {cl:List Nat} {zs:List IOper}:∀(pl:List (Bool×Nat)) (rem l:List Nat) (pend:List (Nat×List (Nat×Nat))) {fr:Fr} {H:Heap} {K:Fr→Heap→Prop},okP cl zs pl rem=true→cY (fun a b=>¬ bef cl a b=true) rem l →
  LP P k cl zs pl pend fr H K→RT P k (l.map (vS cl zs pend)) fr H (Kc K)
 | [],rem,l,pend,fr,H,K,hok,hs,h=>by
  have e:rem=[]:=by cases rem with | nil=>rfl | cons=>cases hok
  rw[hs.nil_inv e];exact .nil (.of h)
 | (false,i)::pl,rem,l,pend,fr,H,K,hok,hs,h=>by
  cases rem with
  | nil=>cases hok
  | cons a B=>
   simp only[okP,bAe] at hok;obtain⟨e,hB,hok⟩:=hok;have:=nEb e;subst this;obtain⟨l1,l2,q1,q2,q3⟩:=hs.pull [] a B rfl
   have e1:l1=[]:=by
    cases l1 with
    | nil=>rfl
    | cons j l1=>
     rcases q3 j (List.mem_cons_self ..) with h | ⟨h,h'⟩
     ·cases h
     ·exact absurd (List.all_eq_true.1 hB j h) h'
   subst e1;subst q1;obtain⟨x,hx,h⟩:=h;rw[List.nil_append,List.map_cons,pW hx];exact RT.cons (h.mono fun fr' H' h=>LP.sound pl B l2 pend hok q2 h)
 | (true,i)::pl,rem,l,pend,fr,H,K,hok,hs,h=>by
  simp only[okP] at hok;split at hok
  ·rename_i A B x e1 e2
   simp only[bAe] at hok;obtain⟨hq,hA,hB,hok⟩:=hok;have e:=tM e1;obtain⟨l1,l2,q1,q2,q3⟩:=hs.pull A i B e;obtain⟨x',C,hx,hC,h⟩:=h;rw[e2] at hx
   injection hx with hx
   subst hx;subst q1;rw[List.map_append,List.map_cons,pW e2]
   have hap:∀ j∈l1,¬ bef cl i j=true∧rX zs x j=true:=fun j hj=>by
    rcases q3 j hj with h | ⟨h,h'⟩
    ·have:=List.all_eq_true.1 hA j h
     simp only[bAe,Bool.not_eq_true'] at this;exact⟨by rw[this.1]; simp,this.2⟩
    ·have:=List.all_eq_true.1 hB j h
     simp only[Bool.or_eq_true] at this;exact⟨h',this.resolve_left h'⟩
   have key:∀(pend':List (Nat×List (Nat×Nat))),(∀ j,∀ q∈gP cl pend j,q∈gP cl pend' j)→(∀ j,¬ bef cl i j=true→∀ q∈C,q∈gP cl pend' j)→∀(v:AV),BB x fr H v C→LP P k cl zs pl pend' (fr.put x.dst v) H K →
     RT P k (l1.map (vS cl zs pend)++(x,gP cl pend i)::l2.map (vS cl zs pend)) fr H (Kc K):=by
    intro pend' h1 h2 v ht h;have hrt:=LP.sound pl (A++B) (l1++l2) pend' hok q2 h;rw[List.map_append] at hrt
    have hins:=RT.insert (px:=gP cl pend i) (B:=C) (l1.map (vS cl zs pend')) hrt ht fun a ha=>by
     obtain⟨j,hj,rfl⟩:=List.mem_map.1 ha;obtain⟨p1,p2⟩:=hap j hj;unfold rX at p2;split at p2
     ·rename_i y hy
      rw[pW hy];exact⟨p2,h2 j p1⟩
     ·cases p2
    have hdrop:∀(L L':List (IOper×List (Nat×Nat))),sN L' L→∀ {fr:Fr} {H:Heap} {K:Fr→Heap→Prop},RT P k L fr H K→RT P k L' fr H K:=by
     intro L L' hf
     induction hf with
     | nil=>exact fun h=>h
     | @cons a b L' L hab _ ih=>
      obtain⟨a1,a2⟩:=a;obtain⟨b1,b2⟩:=b;obtain⟨rfl,hsub⟩:=hab
      have kk:∀ {H H':Heap},gD b2 H H'→gD a2 H H':=fun {H H'} h=>by
       have hm:=h.mem;clear h
       induction a2 with
       | nil=>trivial
       | cons q r ihr=>exact⟨hm q (hsub q (List.mem_cons_self ..)),ihr fun p hp=>hsub p (mCm _ hp)⟩
      intro fr H K h
      cases h with
      | op hg hx hs hp h=>exact .op hg hx hs (kk hp) (ih h)
      | skip hg h=>exact .skip hg (ih h)
      | call hk hg hx hc hp h=>exact .call hk hg hx hc (fun res H' hr=>kk (hp res H' hr)) fun res H' hr=>ih (h res H' hr)
      | callV hk hg hx hf hc hp h=>exact .callV hk hg hx hf hc (fun res H' hr=>kk (hp res H' hr)) fun res H' hr=>ih (h res H' hr)
    have fm:∀ L:List Nat,sN (L.map (vS cl zs pend)) (L.map (vS cl zs pend')):=fun L=>by
     induction L with
     | nil=>exact .nil
     | cons j L ih=>exact .cons ⟨rfl,h1 j⟩ ih
    have fa:∀ {a b c d:List (IOper×List (Nat×Nat))},sN a b→sN c d→sN (a++c) (b++d):=fun {a b c d} h1 h2=>by
     induction h1 with
     | nil=>exact h2
     | cons h _ ih=>exact .cons h ih
    exact(hdrop _ _ (fa (fm l1) (.cons ⟨rfl,fun q hq=>hq⟩ (fm l2))) hins).mono fun _ _=>Kc.kc
   have fin:∀ {fr':Fr} {H':Heap} {K':Fr→Heap→Prop},RT P k [] fr' H' K'→K' fr' H':=fun h=>by
    cases h with
    | nil h=>exact h
   have mk:∀(v:AV),BB x fr H v C→LP P k cl zs pl (S2 i C pend) (fr.put x.dst v) H K→RT P k (l1.map (vS cl zs pend)++(x,gP cl pend i)::l2.map (vS cl zs pend)) fr H (Kc K):=by
    intro v ht h
    cases C with
    | nil=>exact key pend (fun _ _ h=>h) (fun _ _ q hq=>by cases hq) v ht h
    | cons c C=>
     refine key ((i,c::C)::pend) (fun j q hq=>?_) (fun j hj q hq=>?_) v ht h
     ·simp only[gP]
      split
      ·exact hq
      ·exact List.mem_append_right _ hq
     ·simp only[gP]
      split
      ·rename_i hb; exact absurd hb hj
      ·exact List.mem_append_left _ hq
   unfold EZ at hq
   cases h with
   | @op _ _ _ _ _ _ o v H' hg hxa hst hp h=>
    rw[hxa] at hq;obtain⟨rfl,hst'⟩:=CW (g':=H.length) (i':=0) (yA hq _ _ _) hst;refine mk v (.inl ⟨hg,o,hxa,hq,hst',fun q hq'=>hC q ?_⟩) (fin h);unfold rdX;rw[hxa];exact hq'
   | skip hg h=>exact mk _ (.inr ⟨hg,rfl⟩) (fin h)
   | call hk hg hxa=>rw[hxa] at hq; cases hq
   | callV hk hg hxa=>rw[hxa] at hq; cases hq
  ·cases hok
theorem AWP.lin {P:Program} {N k:Nat} {fr:Fr} {H:Heap} {Q:Exit→Fr→Heap→Prop} {zs:List IOper} {af:List (List Nat)} (pl:List (Bool×Nat)) (hp:P.follows .mixedOrders=true)
  (hlow:rV 0 af=true) (hok:okP (clo af) zs pl (List.range zs.length)=true) (h:LP P k (clo af) zs pl [] fr H (Q .normal)):AWP P N k (.draw zs af) Q fr H:=by
 intro c0 hc cx M J tmps w hcx hF hH hM
 cases c0 with
 | region id ops draw=>
  simp only[cD] at hc;split at hc
  ·rename_i us hus
   cases draw with
   | false=>cases hc
   | true=>
    injection hc with hc
    injection hc with hc1' hc2'
    subst hc1'; subst hc2'
    refine wpIn_region_draw fun t=>jL hcx ?_
    rw[hp]
    have hsch:Region.schedule true ops t=Region.linearise .any ops t:=by simp[Region.schedule]
    rw[hsch];obtain⟨hlen,hgx⟩:=jR _ _ hus
    have hsz:us.length=ops.size:=by rw[hlen]; simp
    have haf:∀ j l,(ops.toList.map fB)[j]?=some l→bY ops j=l:=by
     intro j l hj;rw[List.getElem?_map,Array.getElem?_toList] at hj;unfold bY
     cases ho:ops[j]? with
     | none=>rw[ho] at hj; cases hj
     | some o=>rw[ho] at hj; simpa using hj
    have hs:=fQ ops (fun a b=>¬ bef (clo (ops.toList.map fB)) a b=true) (fun j kk hk=>by
     have hl:(ops.toList.map fB)[j]?=some (bY ops j):=by
      rw[List.getElem?_map,Array.getElem?_toList];unfold bY at hk ⊢
      cases ho:ops[j]? with
      | none=>rw[ho] at hk; cases hk
      | some o=>rfl
     have:=jW _ 0 hlow j _ hl kk hk
     omega) (fun a b hab hb=>by
     by_cases h:bef (clo (ops.toList.map fB)) a b=true
     ·exact .inl (J4 haf h)
     ·exact .inr h) t
    rw[hsz] at hok;have hrt:=LP.sound pl _ _ [] hok hs h
    have hmem:∀(all l:List Nat),cY (fun a b=>¬ bef (clo (ops.toList.map fB)) a b=true) all l→∀ j∈l,j∈all:=by
     intro all l hs
     induction hs with
     | nil=>exact fun j hj=>hj
     | cons A i B l _ _ ih=>
      intro j hj
      rcases List.mem_cons.1 hj with rfl | hj
      ·simp
      ·have:=ih j hj
       simp at this ⊢
       rcases this with h | h<;>simp[h]
    have hmat:∀ l:List Nat,(∀ j∈l,j < ops.size)→iH P N ops l ((l.map (vS (clo (ops.toList.map fB)) us [])).map (·.1)):=by
     intro l
     induction l with
     | nil=>exact fun _=>trivial
     | cons j l ih=>
      intro hl;have hj:=hl j (List.mem_cons_self ..);have ho:ops[j]?=some ops[j]:=Array.getElem?_eq_getElem hj;obtain⟨x,e1,e2⟩:=hgx j ops[j] (by rw[Array.getElem?_toList]; exact ho);refine⟨⟨ops[j],ho,?_⟩,ih fun q hq=>hl q (mCm _ hq)⟩;rw[pW e1];exact e2
    refine hrt.reg (N:=N) ops _ (hmat _ fun j hj=>List.mem_range.1 (hmem _ _ hs j hj)) M J tmps { w with drawn:=w.drawn+1 } hF hH hM _ fun a' w' hpost=>⟨rfl,?_⟩
    obtain⟨M2,J2,fr2,H2,q1,q2,q3,fr3,q4,q5⟩:=hpost;exact⟨M2,J2,fr3,H2,⟨q1.m,q1.j,q1.hrep,q1.mrep,q1.os,(by first | exact q1.tape | exact⟨q1.tape.1,Nat.le_trans (Nat.le_succ _) q1.tape.2⟩),q1.output,q1.size,q1.frame,q1.fresh,q1.live,q1.bk⟩,⟨q2.1,fun t=>by rw[q4]; exact q2.2 t⟩,q3,q5⟩
  ·cases hc
 | _=>simp only[cD] at hc; (try split at hc)<;>(try cases hc)<;>(try simp at hc)
end Go.Av
