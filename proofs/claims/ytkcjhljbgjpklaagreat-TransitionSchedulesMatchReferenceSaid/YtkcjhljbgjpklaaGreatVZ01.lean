import Derived.CallsIn
import Derived.OrdersIn
import Derived.Laws.Sem
import Derived.Laws.Cells
import Derived.Laws.World
import Derived.Below
import Derived.Laws.CopyRow
import Derived.Lib.Strings
import Derived.Lib.Bytealg
import Derived.Laws.Append
import Derived.Laws.AppendOwn
import Derived.Laws.BytesString
set_option maxRecDepth 100000
set_option maxHeartbeats 4000000
noncomputable section
namespace Go.Proofs.YtkcjhljbgjpklaaGreat
open Go
theorem Sp:type_of% @List.getElem?_eq_some_iff:=@List.getElem?_eq_some_iff
theorem Sq:type_of% @List.getElem?_eq_getElem:=@List.getElem?_eq_getElem
theorem Sr:type_of% @List.getD_eq_getElem?_getD:=@List.getD_eq_getElem?_getD
theorem Ss:type_of% @decide_eq_false:=@decide_eq_false
theorem Su:type_of% @decide_eq_true:=@decide_eq_true
theorem Sw:type_of% @Option.ite_none_right_eq_some:=@Option.ite_none_right_eq_some
theorem Sx:type_of% @Option.some.injEq:=@Option.some.injEq
theorem Sy:type_of% @List.getElem?_append_left:=@List.getElem?_append_left
theorem Sz:type_of% @List.getElem?_set_ne:=@List.getElem?_set_ne
theorem SA:type_of% @if_pos:=@if_pos
theorem SB:type_of% @Option.bind_eq_some_iff:=@Option.bind_eq_some_iff
theorem SC:type_of% @List.getElem_mem:=@List.getElem_mem
theorem SD:type_of% @if_neg:=@if_neg
theorem SE:type_of% @Option.map_eq_some_iff:=@Option.map_eq_some_iff
theorem SF:type_of% @List.length_map:=@List.length_map
theorem SG:type_of% @List.getElem?_set_self:=@List.getElem?_set_self
theorem SH:type_of% @Prod.mk.injEq:=@Prod.mk.injEq
theorem SI:type_of% @Classical.not_not:=@Classical.not_not
theorem SJ:type_of% @List.getElem?_append_right:=@List.getElem?_append_right
theorem SK:type_of% @Nat.le_refl:=@Nat.le_refl
theorem SL:type_of% @List.drop_zero:=@List.drop_zero
theorem SM:type_of% @Int.toNat_natCast:=@Int.toNat_natCast
theorem SN:type_of% @Option.bind_eq_bind:=@Option.bind_eq_bind
theorem SO:type_of% @List.append_assoc:=@List.append_assoc
theorem SP:type_of% @Nat.add_mul:=@Nat.add_mul
theorem SQ:type_of% @List.set_append_right:=@List.set_append_right
theorem SR:type_of% @List.take_of_length_le:=@List.take_of_length_le
theorem SS:type_of% @List.getElem_append_left:=@List.getElem_append_left
theorem ST:type_of% @Nat.mul_le_mul_right:=@Nat.mul_le_mul_right
theorem SU:type_of% @List.mem_map:=@List.mem_map
theorem SV:type_of% @List.all_eq_true:=@List.all_eq_true
theorem SW:type_of% @List.length_append:=@List.length_append
theorem SX:type_of% @List.take_length:=@List.take_length
theorem SY:type_of% @List.mem_singleton:=@List.mem_singleton
theorem SZ:type_of% @Bool.false_eq_true:=@Bool.false_eq_true
theorem S0:type_of% @Array.getElem?_eq_getElem:=@Array.getElem?_eq_getElem
theorem S3:type_of% @List.map_congr_left:=@List.map_congr_left
theorem S4:type_of% @Bool.and_eq_true:=@Bool.and_eq_true
theorem S5:type_of% @List.append_nil:=@List.append_nil
theorem S6:type_of% @decide_eq_true_eq:=@decide_eq_true_eq
theorem S7:type_of% @Array.getD_eq_getD_getElem?:=@Array.getD_eq_getD_getElem?
theorem S8:type_of% @List.length_eq_zero_iff:=@List.length_eq_zero_iff
theorem S9:type_of% @Option.getD_some:=@Option.getD_some
theorem Ta:type_of% @List.foldl_cons:=@List.foldl_cons
theorem Tb:type_of% @List.mem_iff_getElem:=@List.mem_iff_getElem
theorem Tc:type_of% @Array.length_toList:=@Array.length_toList
theorem Td:type_of% @List.getElem_append_right:=@List.getElem_append_right
theorem Te:type_of% @Option.bind_some:=@Option.bind_some
theorem Tf:type_of% @List.getElem?_eq_none:=@List.getElem?_eq_none
theorem Tg:type_of% @Array.getElem?_eq_some_iff:=@Array.getElem?_eq_some_iff
theorem Th:type_of% @Option.map_some:=@Option.map_some
theorem Ti:type_of% @List.length_set:=@List.length_set
theorem Tj:type_of% @List.mem_cons:=@List.mem_cons
theorem Tk:type_of% @List.getElem_map:=@List.getElem_map
theorem Tm:type_of% @Nat.add_sub_cancel_left:=@Nat.add_sub_cancel_left
theorem Tn:type_of% @List.length_cons:=@List.length_cons
theorem To:type_of% @List.drop_eq_getElem_cons:=@List.drop_eq_getElem_cons
theorem Tp:type_of% @List.getElem?_cons_zero:=@List.getElem?_cons_zero
theorem Tq:type_of% @List.set_cons_zero:=@List.set_cons_zero
theorem Ts:type_of% @Nat.add_zero:=@Nat.add_zero
theorem Tt:type_of% @Bool.not_eq_true':=@Bool.not_eq_true'
theorem Tu:type_of% @List.take_succ_eq_append_getElem:=@List.take_succ_eq_append_getElem
theorem Tv:type_of% @List.getElem_drop:=@List.getElem_drop
theorem Tw:type_of% @List.map_cons:=@List.map_cons
theorem Tx:type_of% @List.set_cons_succ:=@List.set_cons_succ
theorem Ty:type_of% @List.mem_range:=@List.mem_range
theorem Tz:type_of% @Array.getElem?_setIfInBounds_ne:=@Array.getElem?_setIfInBounds_ne
theorem TB:type_of% @List.ext_getElem:=@List.ext_getElem
theorem TD:type_of% @List.map_append:=@List.map_append
theorem TE:type_of% @List.mem_cons_of_mem:=@List.mem_cons_of_mem
theorem TF:type_of% @List.mem_of_getElem?:=@List.mem_of_getElem?
theorem TG:type_of% @List.getElem_take:=@List.getElem_take
theorem TH:type_of% @List.idxOf?_eq_some_iff:=@List.idxOf?_eq_some_iff
theorem TI:type_of% @List.length_pos_iff:=@List.length_pos_iff
theorem TJ:type_of% @List.foldl_nil:=@List.foldl_nil
theorem TK:type_of% @Nat.le_trans:=@Nat.le_trans
theorem TL:type_of% @List.getElem?_replicate:=@List.getElem?_replicate
theorem TM:type_of% @List.length_take:=@List.length_take
theorem TN:type_of% @List.drop_length:=@List.drop_length
theorem TO:type_of% @decide_eq_decide:=@decide_eq_decide
theorem TQ:type_of% @List.getElem?_map:=@List.getElem?_map
theorem TR:type_of% @List.getElem?_append:=@List.getElem?_append
theorem TS:type_of% @if_true:=@if_true
theorem TU:type_of% @Nat.lt_of_lt_of_le:=@Nat.lt_of_lt_of_le
theorem TW:type_of% @List.getElem?_drop:=@List.getElem?_drop
theorem TX:type_of% @Ne.symm:=@Ne.symm
theorem TY:type_of% @Int.le_refl:=@Int.le_refl
theorem TZ:type_of% @Array.getElem?_setIfInBounds_self_of_lt:=@Array.getElem?_setIfInBounds_self_of_lt
theorem T3:type_of% @List.nil_append:=@List.nil_append
theorem T4:type_of% @Bool.eq_iff_iff:=@Bool.eq_iff_iff
theorem T5:type_of% @List.length_singleton:=@List.length_singleton
theorem T6:type_of% @List.getElem?_cons_succ:=@List.getElem?_cons_succ
theorem T7:type_of% @List.range_succ:=@List.range_succ
theorem T8:type_of% @List.getElem?_range:=@List.getElem?_range
theorem T9:type_of% @List.getElem?_toArray:=@List.getElem?_toArray
theorem Ua:type_of% @List.take_append_drop:=@List.take_append_drop
theorem Ub:type_of% @List.map_map:=@List.map_map
theorem Uc:type_of% @if_false:=@if_false
theorem Ud:type_of% @Option.some.inj:=@Option.some.inj
theorem Ue:type_of% @decide_eq_false_iff_not:=@decide_eq_false_iff_not
theorem Uf:type_of% @List.getElem?_concat_length:=@List.getElem?_concat_length
theorem Ug:type_of% @beq_iff_eq:=@beq_iff_eq
theorem Uh:type_of% @beq_eq_false_iff_ne:=@beq_eq_false_iff_ne
theorem Ui:type_of% @List.any_eq_false:=@List.any_eq_false
theorem Uj:type_of% @List.flatMap_cons:=@List.flatMap_cons
theorem Uk:type_of% @List.mem_append:=@List.mem_append
theorem Ul:type_of% @List.getElem?_take_of_lt:=@List.getElem?_take_of_lt
theorem Um:type_of% @List.mem_cons_self:=@List.mem_cons_self
theorem Un:type_of% @List.set_append_left:=@List.set_append_left
theorem Uo:type_of% @List.mem_of_mem_take:=@List.mem_of_mem_take
theorem Up:type_of% @Nat.zero_add:=@Nat.zero_add
theorem Uq:type_of% @Nat.sub_self:=@Nat.sub_self
theorem Ur:type_of% @Array.getElem?_push:=@Array.getElem?_push
theorem Us:type_of% @List.getElem_set_ne:=@List.getElem_set_ne
theorem Ut:type_of% @List.mem_filter:=@List.mem_filter
theorem Uu:type_of% @List.flatMap_append:=@List.flatMap_append
theorem Uv:type_of% @Nat.not_lt_zero:=@Nat.not_lt_zero
theorem Uw:type_of% @List.filter_cons:=@List.filter_cons
theorem Ux:type_of% @Nat.add_assoc:=@Nat.add_assoc
theorem Uy:type_of% @List.getElem_set_self:=@List.getElem_set_self
theorem Uz:type_of% @List.set_comm:=@List.set_comm
theorem UA:type_of% @List.getElem_range:=@List.getElem_range
theorem UC:type_of% @List.getElem?_take:=@List.getElem?_take
theorem UD:type_of% @Nat.zero_le:=@Nat.zero_le
theorem UE:type_of% @Array.toArray_toList:=@Array.toArray_toList
theorem UF:type_of% @Array.getElem_toList:=@Array.getElem_toList
theorem UG:type_of% @List.length_nil:=@List.length_nil
theorem UH:type_of% @List.ext_getElem?:=@List.ext_getElem?
theorem UI:type_of% @of_decide_eq_true:=@of_decide_eq_true
theorem UK:type_of% @List.replicate_succ:=@List.replicate_succ
theorem UL:type_of% @List.sum_cons:=@List.sum_cons
theorem UM:type_of% @List.map_eq_nil_iff:=@List.map_eq_nil_iff
theorem UN:type_of% @Nat.le_of_not_lt:=@Nat.le_of_not_lt
theorem UO:type_of% @Array.getElem?_eq_none:=@Array.getElem?_eq_none
theorem UP:type_of% @List.map_replicate:=@List.map_replicate
theorem UQ:type_of% @Nat.lt_or_ge:=@Nat.lt_or_ge
theorem UR:type_of% @Prod.exists:=@Prod.exists
theorem US:type_of% @Nat.one_mul:=@Nat.one_mul
theorem UU:type_of% @Nat.zero_mul:=@Nat.zero_mul
theorem UV:type_of% @List.set_set:=@List.set_set
theorem UW:type_of% @Int.add_zero:=@Int.add_zero
theorem UX:type_of% @Array.size_append:=@Array.size_append
theorem U5:type_of% @List.range'_succ:=@List.range'_succ
theorem U6:type_of% @List.mem_flatMap:=@List.mem_flatMap
theorem U7:type_of% @Option.bind_none:=@Option.bind_none
theorem U9:type_of% @List.map_nil:=@List.map_nil
theorem Va:type_of% @List.map_set:=@List.map_set
theorem Vc:type_of% @congrArg:=@congrArg
theorem Vk:type_of% @Nat.mul_comm:=@Nat.mul_comm
theorem Vm:type_of% @Int.le_trans:=@Int.le_trans
theorem Vz:type_of% @dif_pos:=@dif_pos
variable {t e T elem xt ty:TypeId} {i:TypeInfo} {v v1 v2 z:Value} {w' w:World} {OK OK':Nat->Prop} {esz len b o p n id size off h l:Nat}
inductive AV where
 | undef
 | bool (b:Bool)
 | int (k:IntKind) (n:Int)
 | str (s:List UInt8)
 | nilS
 | nilP
 | nilM
 | nilF
 | nilI
 | fs (esz:Nat) (es:List AV)
 | sl (id off len:Nat)
 | ptr (id i o:Nat)
 | fp (cs:List AV)
 | agg (cs:List AV)
 | tup (vs:List AV)
 | func (fn:Fn) (first cap:List AV)
 | map (id:Nat)
 | iface (t:TypeId) (v:AV)
 | csl (id off len:Nat)
inductive Ent where
 | row (esz:Nat) (grown:Bool) (es:List AV)
 | map (kvs:List (AV × AV))
 | loop (r:Loop) (k:Nat)
 | dead
def jt (r:Loop) (k:Nat):Loop:=if k=0 then {r with state:=.ready,pending:=none} else {r with state:=.done,pending:=some (if k=1 then .ret else .exit (k-2))}
abbrev ac:=List Ent
def cY (v:Value):Prop:=∀x∈v.cells.toList,x.oneCell'=true
structure Inc where
 b:Nat
 o:Nat
 n:Nat
 cap:Nat
 esz:Nat
abbrev aC:=Nat->List Inc
def aC.none:aC:=fun _=>[]
inductive a9 (w:World) (OK:Nat->Prop):aC->Value->AV->Prop
 | undef (g:aC) (v:Value):a9 w OK g v .undef
 | bool (g:aC) (b:Bool):a9 w OK g (.bool b) (.bool b)
 | int (g:aC) (k:IntKind) (n:Int):a9 w OK g (.int k n) (.int k n)
 | str (g:aC) (s:ByteArray) (l:List UInt8) (h:s.data.toList=l):a9 w OK g (.string s) (.str l)
 | nilS (g:aC) (p:Option Addr):a9 w OK g (.slice p 0 0) .nilS
 | nilP (g:aC):a9 w OK g (.pointer Option.none) .nilP
 | nilM (g:aC):a9 w OK g (.map Option.none) .nilM
 | nilF (g:aC):a9 w OK g .nilFunc .nilF
 | nilI (g:aC):a9 w OK g .nilIface .nilI
 | fs (g:aC) (b o cap esz:Nat) (T:TypeId) (c:Array Value) (fz:Nat × Nat) (es:List AV) (vals:Nat->Value)
   (hb:OK b) (hh:w.heap[b]?=some (.cells c T fz)) (hcap:es.length<=cap)
   (hv:∀i (h:i<es.length),a9 w OK aC.none (vals i) es[i])
   (hs:∀i,i<es.length->(vals i).cells.size=esz/\cY (vals i))
   (hc:∀i,i<es.length->∀j,j<esz->c[o+i*esz+j]?=(vals i).cells[j]?) :
   a9 w OK g (.slice (some ⟨b,o,Option.none⟩) es.length cap) (.fs esz es)
 | sl (g:aC) (id off len cap ao:Nat) (inc:Inc) (hi:inc∈g id) (hl:len<=cap) (hn:off+len<=inc.n) (hcap:off+cap<=inc.cap)
   (ha:cap≠0->ao=inc.o+off*inc.esz) :
   a9 w OK g (.slice (some ⟨inc.b,ao,Option.none⟩) len cap) (.sl id off len)
 | ptr (g:aC) (id i o ao:Nat) (inc:Inc) (hi:inc∈g id) (hn:i<inc.n) (ho:o<inc.esz) (ha:ao=inc.o+i*inc.esz+o) :
   a9 w OK g (.pointer (some ⟨inc.b,ao,Option.none⟩)) (.ptr id i o)
 | fp (g:aC) (b o:Nat) (T:TypeId) (c:Array Value) (fz:Nat × Nat) (cs:List AV) (vals:Nat->Value)
   (hb:OK b) (hh:w.heap[b]?=some (.cells c T fz)) (hne:0<cs.length)
   (hv:∀i (h:i<cs.length),a9 w OK aC.none (vals i) cs[i])
   (hc:∀i,i<cs.length->c[o+i]?=some (vals i)/\(vals i).oneCell'=true) :
   a9 w OK g (.pointer (some ⟨b,o,Option.none⟩)) (.fp cs)
 | agg (g:aC) (vs:Array Value) (cs:List AV) (hl:vs.size=cs.length) (vals:Nat->Value)
   (hg:∀i,i<cs.length->vs[i]?=some (vals i)/\(vals i).oneCell'=true)
   (hv:∀i (h:i<cs.length),a9 w OK g (vals i) cs[i]):a9 w OK g (.agg vs) (.agg cs)
 | tup (g:aC) (vs:Array Value) (cs:List AV) (hl:vs.size=cs.length) (vals:Nat->Value)
   (hg:∀i,i<cs.length->vs[i]?=some (vals i))
   (hv:∀i (h:i<cs.length),a9 w OK g (vals i) cs[i]):a9 w OK g (.tuple vs) (.tup cs)
 | func (g:aC) (fn:Fn) (vs1 vs2:Array Value) (cs1 cs2:List AV) (hl1:vs1.size=cs1.length) (hl2:vs2.size=cs2.length) (vals1 vals2:Nat->Value)
   (hg1:∀i,i<cs1.length->vs1[i]?=some (vals1 i)) (hg2:∀i,i<cs2.length->vs2[i]?=some (vals2 i))
   (hv1:∀i (h:i<cs1.length),a9 w OK g (vals1 i) cs1[i]) (hv2:∀i (h:i<cs2.length),a9 w OK g (vals2 i) cs2[i]) :
   a9 w OK g (.func fn vs1 vs2) (.func fn cs1 cs2)
 | map (g:aC) (id:Nat) (inc:Inc) (hi:inc∈g id):a9 w OK g (.map (some inc.b)) (.map id)
 | iface (g:aC) (t:TypeId) (v:Value) (a:AV) (hv:a9 w OK g v a):a9 w OK g (.iface t v) (.iface t a)
 | csl (g:aC) (id off len ao:Nat) (inc:Inc) (hi:inc∈g id) (hn:off+len<=inc.n) (hcap:off+len<=inc.cap)
   (ha:len≠0->ao=inc.o+off*inc.esz) :
   a9 w OK g (.slice (some ⟨inc.b,ao,Option.none⟩) len len) (.csl id off len)
def aC.le (g g':aC):Prop:=∀id inc,inc∈g id->∃n',inc.n<=n'/\{inc with n:=n'}∈g' id
theorem aC.le_refl (g:aC):g.le g:=fun _ inc h=>⟨inc.n,SK _,h⟩
theorem aC.le_trans {a b c:aC} (h:a.le b) (k:b.le c):a.le c:=fun id inc hi=>by
 obtain ⟨n1,h1,h2⟩:=h id inc hi
 obtain ⟨n2,h3,h4⟩:=k id _ h2
 exact ⟨n2,TK h1 h3,h4⟩
theorem aC.none_le (g:aC):aC.none.le g:=fun _ _ h=>by cases h
theorem a9.mono {g:aC} {a:AV} (h:a9 w OK g v a)
  (hok:∀b,OK b->OK' b) (hw:∀b,OK b->w'.heap[b]?=w.heap[b]?):∀g':aC,g.le g'->a9 w' OK' g' v a:=by
 induction h with
 | undef g v=>exact fun g' _=>.undef _ _
 | bool g b=>exact fun g' _=>.bool _ _
 | int g k n=>exact fun g' _=>.int _ _ _
 | str g s l h=>exact fun g' _=>.str _ _ _ h
 | nilS g p=>exact fun g' _=>.nilS _ p
 | nilP g=>exact fun g' _=>.nilP _
 | nilM g=>exact fun g' _=>.nilM _
 | nilF g=>exact fun g' _=>.nilF _
 | nilI g=>exact fun g' _=>.nilI _
 | fs g b o cap esz T c fz es vals hb hh hcap hv hs hc ih=>
  exact fun g' _=>.fs _ b o cap esz T c fz es vals (hok _ hb) ((hw _ hb).trans hh) hcap (fun i h=>ih i h _ (aC.none_le _)) hs hc
 | sl g id off len cap ao inc hi hl hn hcap ha=>
  intro g' hg
  obtain ⟨n',h1,h2⟩:=hg id inc hi
  exact .sl g' id off len cap ao {inc with n:=n'} h2 hl (TK hn h1) hcap ha
 | ptr g id i o ao inc hi hn ho ha=>
  intro g' hg
  obtain ⟨n',h1,h2⟩:=hg id inc hi
  exact .ptr g' id i o ao {inc with n:=n'} h2 (TU hn h1) ho ha
 | fp g b o T c fz cs vals hb hh hne hv hc ih=>
  exact fun g' _=>.fp _ b o T c fz cs vals (hok _ hb) ((hw _ hb).trans hh) hne (fun i h=>ih i h _ (aC.none_le _)) hc
 | agg g vs cs hl vals hg hv ih=>exact fun g' hg'=>.agg _ vs cs hl vals hg (fun i h=>ih i h g' hg')
 | tup g vs cs hl vals hg hv ih=>exact fun g' hg'=>.tup _ vs cs hl vals hg (fun i h=>ih i h g' hg')
 | func g fn vs1 vs2 cs1 cs2 hl1 hl2 vals1 vals2 hg1 hg2 hv1 hv2 ih1 ih2=>
  exact fun g' hg'=>.func _ fn vs1 vs2 cs1 cs2 hl1 hl2 vals1 vals2 hg1 hg2 (fun i h=>ih1 i h g' hg') (fun i h=>ih2 i h g' hg')
 | map g id inc hi=>
  intro g' hg
  obtain ⟨n',_,h2⟩:=hg id inc hi
  exact .map g' id {inc with n:=n'} h2
 | iface g t v a hv ih=>exact fun g' hg'=>.iface _ t v a (ih g' hg')
 | csl g id off len ao inc hi hn hcap ha=>
  intro g' hg
  obtain ⟨n',h1,h2⟩:=hg id inc hi
  exact .csl g' id off len ao {inc with n:=n'} h2 (TK hn h1) hcap ha
section
variable {w:World} {OK:Nat->Prop} {g:aC} {v:Value}
theorem a9.inv_bool {b:Bool} (h:a9 w OK g v (.bool b)):v=.bool b:=by cases h; rfl
theorem a9.inv_int {k:IntKind} {n:Int} (h:a9 w OK g v (.int k n)):v=.int k n:=by cases h; rfl
theorem a9.inv_str {l:List UInt8} (h:a9 w OK g v (.str l)):∃s:ByteArray,v=.string s/\s.data.toList=l:=by
 cases h with
 | str _ s _ h=>exact ⟨s,rfl,h⟩
theorem a9.inv_nilS (h:a9 w OK g v .nilS):∃p,v=.slice p 0 0:=by
 cases h with
 | nilS _ p=>exact ⟨p,rfl⟩
theorem a9.inv_nilP (h:a9 w OK g v .nilP):v=.pointer Option.none:=by cases h; rfl
theorem a9.inv_nilM (h:a9 w OK g v .nilM):v=.map Option.none:=by cases h; rfl
theorem a9.inv_fs {es:List AV} (h:a9 w OK g v (.fs esz es)):∃(b o cap:Nat) (T:TypeId) (c:Array Value) (fz:Nat × Nat) (vals:Nat->Value),v=.slice (some ⟨b,o,Option.none⟩) es.length cap/\OK b/\w.heap[b]?=some (.cells c T fz)/\es.length<=cap /\
  (∀i (h:i<es.length),a9 w OK aC.none (vals i) es[i])/\(∀i,i<es.length->(vals i).cells.size=esz/\cY (vals i)) /\
  (∀i,i<es.length->∀j,j<esz->c[o+i*esz+j]?=(vals i).cells[j]?):=by
 cases h with
 | fs _ b o cap esz T c fz es vals hb hh hcap hv hs hc=>exact ⟨b,o,cap,T,c,fz,vals,rfl,hb,hh,hcap,hv,hs,hc⟩
theorem a9.inv_csl (h:a9 w OK g v (.csl id off len)):∃inc ao,inc∈g id/\v=.slice (some ⟨inc.b,ao,Option.none⟩) len len/\off+len<=inc.n/\off+len<=inc.cap/\(len≠0->ao=inc.o+off*inc.esz):=by
 cases h with
 | csl _ _ _ _ ao inc hi hn hcap ha=>exact ⟨inc,ao,hi,rfl,hn,hcap,ha⟩
theorem a9.inv_sl (h:a9 w OK g v (.sl id off len)):∃inc cap ao,inc∈g id/\v=.slice (some ⟨inc.b,ao,Option.none⟩) len cap/\len<=cap/\off+len<=inc.n/\off+cap<=inc.cap /\
  (cap≠0->ao=inc.o+off*inc.esz):=by
 cases h with
 | sl _ id off len cap ao inc hi hl hn hcap ha=>exact ⟨inc,cap,ao,hi,rfl,hl,hn,hcap,ha⟩
theorem a9.inv_ptr {i:Nat} (h:a9 w OK g v (.ptr id i o)):∃inc,inc∈g id/\v=.pointer (some ⟨inc.b,inc.o+i*inc.esz+o,Option.none⟩)/\i<inc.n/\o<inc.esz:=by
 cases h with
 | ptr _ id i o ao inc hi hn ho ha=>exact ⟨inc,hi,by rw [ha],hn,ho⟩
theorem a9.inv_fp {cs:List AV} (h:a9 w OK g v (.fp cs)):∃(b o:Nat) (T:TypeId) (c:Array Value) (fz:Nat × Nat) (vals:Nat->Value),v=.pointer (some ⟨b,o,Option.none⟩)/\OK b/\w.heap[b]?=some (.cells c T fz)/\0<cs.length /\
  (∀i (h:i<cs.length),a9 w OK aC.none (vals i) cs[i])/\(∀i,i<cs.length->c[o+i]?=some (vals i)/\(vals i).oneCell'=true):=by
 cases h with
 | fp _ b o T c fz cs vals hb hh hne hv hc=>exact ⟨b,o,T,c,fz,vals,rfl,hb,hh,hne,hv,hc⟩
theorem a9.inv_agg {cs:List AV} (h:a9 w OK g v (.agg cs)):∃(vs:Array Value) (vals:Nat->Value),v=.agg vs/\vs.size=cs.length/\(∀i,i<cs.length->vs[i]?=some (vals i)/\(vals i).oneCell'=true) /\
  (∀i (h:i<cs.length),a9 w OK g (vals i) cs[i]):=by
 cases h with
 | agg _ vs cs hl vals hg hv=>exact ⟨vs,vals,rfl,hl,hg,hv⟩
theorem a9.inv_tup {cs:List AV} (h:a9 w OK g v (.tup cs)):∃(vs:Array Value) (vals:Nat->Value),v=.tuple vs/\vs.size=cs.length/\(∀i,i<cs.length->vs[i]?=some (vals i)) /\
  (∀i (h:i<cs.length),a9 w OK g (vals i) cs[i]):=by
 cases h with
 | tup _ vs cs hl vals hg hv=>exact ⟨vs,vals,rfl,hl,hg,hv⟩
theorem a9.inv_func {fn:Fn} {c1 c2:List AV} (h:a9 w OK g v (.func fn c1 c2)):∃(vs1 vs2:Array Value) (vals1 vals2:Nat->Value),v=.func fn vs1 vs2/\vs1.size=c1.length/\vs2.size=c2.length/\(∀i,i<c1.length->vs1[i]?=some (vals1 i))/\(∀i,i<c2.length->vs2[i]?=some (vals2 i)) /\
  (∀i (h:i<c1.length),a9 w OK g (vals1 i) c1[i])/\(∀i (h:i<c2.length),a9 w OK g (vals2 i) c2[i]):=by
 cases h with
 | func _ fn vs1 vs2 cs1 cs2 hl1 hl2 vals1 vals2 hg1 hg2 hv1 hv2=>exact ⟨vs1,vs2,vals1,vals2,rfl,hl1,hl2,hg1,hg2,hv1,hv2⟩
theorem a9.inv_map (h:a9 w OK g v (.map id)):∃inc,inc∈g id/\v=.map (some inc.b):=by
 cases h with
 | map _ id inc hi=>exact ⟨inc,hi,rfl⟩
theorem a9.none_to {a:AV} (h:a9 w OK aC.none v a):a9 w OK g v a:=h.mono (fun _ h=>h) (fun _ _=>rfl) g g.none_le
end
def fG (c:Array Value) (fz:Nat × Nat):Prop:=∀j,j<c.size->(decide (fz.1<=j) && decide (j<fz.2))=false
def cI (w:World) (OK:Nat->Prop) (g:aC) (c:Array Value) (at_ esz:Nat) (e:AV):Prop:=
 ∃v,a9 w OK g v e/\v.cells.size=esz/\cY v/\∀j,j<esz->c[at_+j]?=v.cells[j]?
def E6 (w:World) (OK:Nat->Prop) (g:aC) (esz:Nat) (es:List AV) (inc:Inc):Prop:=
 inc.esz=esz/\inc.n<=es.length/\inc.n<=inc.cap/\∃c T fz,w.heap[inc.b]?=some (.cells c T fz)/\fG c fz/\inc.o+inc.cap*esz<=c.size /\
  ∀i (h:i<es.length),i<inc.n->cI w OK g c (inc.o+i*esz) esz es[i]
def rj (es:Array MapEntry) (clock:Nat):Prop:=(∀x∈es.toList,x.born<clock)/\(es.toList.map (·.born)).Nodup
def rX (w:World) (OK:Nat->Prop) (g:aC) (incs:List Inc):Ent->Prop
 | .row esz grown es=>(grown=false->incs.length<=1/\∀inc∈incs,inc.n=es.length)/\∀inc∈incs,E6 w OK g esz es inc
 | .map kvs=>∃inc,incs=[inc]/\∃es clock,w.heap[inc.b]?=some (.map es clock)/\es.size=kvs.length/\rj es clock /\
   ∀i (h:i<kvs.length),∃e,es[i]?=some e/\a9 w OK g e.key (kvs[i]).1/\a9 w OK g e.val (kvs[i]).2
 | .loop r k=>∃inc,incs=[inc]/\inc.esz=0/\w.heap[inc.b]?=some (.loop (jt r k))
 | .dead=>True
structure cM (w:World) (OK:Nat->Prop) (g:aC) (A:ac):Prop where
 ent:∀id (h:id<A.length),rX w OK g (g id) A[id]
 out:∀id,A.length<=id->g id=[]
 one:∀id id' inc inc',A[id]?≠some .dead->A[id']?≠some .dead->inc∈g id->inc'∈g id'->inc.b=inc'.b->id=id'/\inc=inc'
 apart:∀id inc,inc∈g id->¬ OK inc.b
 low:∀id inc,inc∈g id->inc.b<w.heap.size
 ok:∀b,OK b->b<w.heap.size
structure Ext (w:World) (OK:Nat->Prop) (g:aC) (w':World) (OK':Nat->Prop) (g':aC):Prop where
 os:w'.os=w.os
 tape:w'.tape=w.tape
 output:w'.output=w.output
 size:w.heap.size<=w'.heap.size
 blk:∀b,b<w.heap.size->(∀id inc,inc∈g id->inc.b≠b)->w'.heap[b]?=w.heap[b]?
 gle:g.le g'
 okle:∀b,OK b->OK' b
 fresh:∀id inc,inc∈g' id->(∃id0 inc0,inc0∈g id0/\inc0.b=inc.b)\/w.heap.size<=inc.b
 okf:∀b,OK' b->OK b\/w.heap.size<=b
 loops:∀(b:Nat) (r:Loop),w.heap[b]?=some (.loop r)->r.state=.busy->w'.heap[b]?=some (.loop r)
 fix:∀id inc,inc∈g id->inc.esz=0->g' id=g id
theorem Ext.refl (w:World) (OK:Nat->Prop) (g:aC):Ext w OK g w OK g:=
 ⟨rfl,rfl,rfl,SK _,fun _ _ _=>rfl,g.le_refl,fun _ h=>h,fun id inc h=>.inl ⟨id,inc,h,rfl⟩,fun _ h=>.inl h,fun _ _ h _=>h,fun _ _ _ _=>rfl⟩
theorem Ext.trans {w'':World} {OK'':Nat->Prop} {g g' g'':aC} (h:Ext w OK g w' OK' g') (k:Ext w' OK' g' w'' OK'' g'') :
  Ext w OK g w'' OK'' g'' where
 os:=k.os.trans h.os
 tape:=k.tape.trans h.tape
 output:=k.output.trans h.output
 size:=TK h.size k.size
 blk b hb hu:=(k.blk b (TU hb h.size) (fun id inc hi e=>by
  rcases h.fresh id inc hi with ⟨id0,inc0,h0,h1⟩ | h2
  ·exact hu id0 inc0 h0 (h1.trans e)
  ·omega)).trans (h.blk b hb hu)
 gle:=aC.le_trans h.gle k.gle
 okle b hb:=k.okle b (h.okle b hb)
 fresh id inc hi:=by
  rcases k.fresh id inc hi with ⟨id0,inc0,h0,h1⟩ | h2
  ·rcases h.fresh id0 inc0 h0 with ⟨id1,inc1,h3,h4⟩ | h5
   ·exact .inl ⟨id1,inc1,h3,h4.trans h1⟩
   ·exact .inr (h1 ▸ h5)
  ·exact .inr (TK h.size h2)
 okf b hb:=by
  rcases k.okf b hb with h1 | h1
  ·exact h.okf b h1
  ·exact .inr (TK h.size h1)
 loops b r hb hr:=k.loops b r (h.loops b r hb hr) hr
 fix id inc hi h0:=by
  have h1:=h.fix id inc hi h0
  rw [<-h1] at hi
  exact (k.fix id inc hi h0).trans h1
theorem Ext.okblk {g g':aC} {A:ac} (h:Ext w OK g w' OK' g') (ha:cM w OK g A) (b:Nat) (hb:OK b) :
  w'.heap[b]?=w.heap[b]?:=h.blk b (ha.ok b hb) fun id inc hi e=>ha.apart id inc hi (e ▸ hb)
theorem a9.ext {g g':aC} {A:ac} {a:AV} (h:a9 w OK g v a) (ha:cM w OK g A) (e:Ext w OK g w' OK' g') :
  a9 w' OK' g' v a:=h.mono e.okle (e.okblk ha) g' e.gle
theorem Ext.drew (w:World) (OK:Nat->Prop) (g:aC) (n:Nat):Ext w OK g {w with drawn:=n} OK g:=
 ⟨rfl,rfl,rfl,SK _,fun _ _ _=>rfl,g.le_refl,fun _ h=>h,fun id inc h=>.inl ⟨id,inc,h,rfl⟩,fun _ h=>.inl h,fun _ _ h _=>h,fun _ _ _ _=>rfl⟩
theorem cI.mono {g g':aC} {c:Array Value} {s:Nat} {e:AV} (h:cI w OK g c p s e)
  (hok:∀b,OK b->OK' b) (hw:∀b,OK b->w'.heap[b]?=w.heap[b]?) (hg:g.le g'):cI w' OK' g' c p s e:=by
 obtain ⟨v,h1,h2,h3⟩:=h
 exact ⟨v,a9.mono h1 hok hw g' hg,h2,h3⟩
theorem E6.mono {g g':aC} {s:Nat} {es:List AV} {inc:Inc} (h:E6 w OK g s es inc)
  (hok:∀b,OK b->OK' b) (hw:∀b,OK b->w'.heap[b]?=w.heap[b]?) (hg:g.le g') (hb:w'.heap[inc.b]?=w.heap[inc.b]?):E6 w' OK' g' s es inc:=by
 obtain ⟨h1,h2,h3,c,T,fz,h4,h5,h6,h7⟩:=h
 exact ⟨h1,h2,h3,c,T,fz,hb.trans h4,h5,h6,fun i hi hn=>(h7 i hi hn).mono hok hw hg⟩
theorem rX.mono {g g':aC} {incs:List Inc} {e:Ent} (h:rX w OK g incs e)
  (hok:∀b,OK b->OK' b) (hw:∀b,OK b->w'.heap[b]?=w.heap[b]?) (hg:g.le g') (hb:∀inc∈incs,w'.heap[inc.b]?=w.heap[inc.b]?):rX w' OK' g' incs e:=by
 cases e with
 | row s gr es=>exact ⟨h.1,fun inc hi=>(h.2 inc hi).mono hok hw hg (hb inc hi)⟩
 | map kvs=>
  obtain ⟨inc,rfl,es,clock,h1,h2,hst,h3⟩:=h
  refine ⟨inc,rfl,es,clock,(hb inc (by simp)).trans h1,h2,hst,fun i hi=>?_⟩
  obtain ⟨e,e1,e2,e3⟩:=h3 i hi
  exact ⟨e,e1,e2.mono hok hw g' hg,e3.mono hok hw g' hg⟩
 | loop r k=>
  obtain ⟨inc,rfl,h0,h1⟩:=h
  exact ⟨inc,rfl,h0,(hb inc (by simp)).trans h1⟩
 | dead=>trivial
theorem cM.keep {g:aC} {A:ac} (h:cM w OK g A) (hs:w.heap.size<=w'.heap.size)
  (hb:∀b,b<w.heap.size->w'.heap[b]?=w.heap[b]?) (OK':Nat->Prop) (hok:∀b,OK b->OK' b) (hf:∀b,OK' b->OK b\/w.heap.size<=b) (hl:∀b,OK' b->b<w'.heap.size):cM w' OK' g A where
 ent id hi:=(h.ent id hi).mono hok (fun b hb'=>hb b (h.ok b hb')) g.le_refl (fun inc hin=>hb _ (h.low id inc hin))
 out:=h.out
 one:=h.one
 apart id inc hi ho:=by
  rcases hf _ ho with h1 | h1
  ·exact h.apart id inc hi h1
  ·have:=h.low id inc hi; omega
 low id inc hi:=TU (h.low id inc hi) hs
 ok:=hl
theorem cM.drew {g:aC} {A:ac} (h:cM w OK g A) (n:Nat):cM {w with drawn:=n} OK g A:=
 cM.keep (w':={w with drawn:=n}) h (SK _) (fun _ _=>rfl) OK (fun _ h=>h) (fun _ h=>.inl h) h.ok
def splice (c:Array Value) (p:Nat) (vs:List Value):Array Value:=(c.toList.take p++vs++c.toList.drop (p+vs.length)).toArray
theorem cE (c:Array Value) (p:Nat) (vs:List Value) (h:p+vs.length<=c.size):(splice c p vs).size=c.size:=by
 simp [splice]; omega
theorem dw (c:Array Value) (p:Nat) (vs:List Value) (h:p+vs.length<=c.size) (j:Nat) (hj:j<vs.length):(splice c p vs)[p+j]?=vs[j]?:=by
 have h1:min p c.size=p:=by omega
 simp only [splice,T9,SO]
 rw [SJ (by simp; omega)]
 simp only [TM,Tc,h1,Tm]
 rw [Sy hj]
theorem splice_out (c:Array Value) (p:Nat) (vs:List Value) (h:p+vs.length<=c.size) (j:Nat) (hj:j<p\/p+vs.length<=j):(splice c p vs)[j]?=c[j]?:=by
 have h1:min p c.size=p:=by omega
 simp only [splice,T9,SO]
 rcases hj with hj | hj
 ·rw [Sy (by simp; omega),Ul hj]; simp
 ·rw [SJ (by simp; omega)]
  simp only [TM,Tc,h1]
  rw [SJ (by omega),TW]
  have:p+vs.length+(j-p-vs.length)=j:=by omega
  simp [this]
theorem ce {c:Array Value} {fz:Nat × Nat} (h:fG c fz) (p:Nat) (vs:List Value) (hl:p+vs.length<=c.size):fG (splice c p vs) fz:=fun j hj=>h j (by rwa [cE c p vs hl] at hj)
theorem di (b o i:Nat):(⟨b,o,none⟩:Addr).add i=⟨b,o+i,none⟩:=by unfold Addr.add; split <;> simp_all
theorem cn (P:Program) (b o:Nat) (t:TypeId) (fz:Nat × Nat):∀(vs:List Value) (i:Nat) (cur:Array Value) (w:World),w.heap[b]?=some (.cells cur t fz)->fG cur fz ->
  o+i+vs.length<=cur.size->(∀v∈vs,v.oneCell'=true)->(storeCells ⟨b,o,none⟩ vs i).run P w=.ok () (w.setRow b (splice cur (o+i) vs))
 | [],i,cur,w,hg,_,_,_=>by
  simp only [storeCells,splice,S5,UG,Ts,Ua,UE]
  rw [setRow_self w b cur t fz hg]
  rfl
 | v :: rest,i,cur,w,hg,hu,hl,h1=>by
  have hi:o+i<cur.size:=by simp at hl; omega
  have hcell:w.cell? ⟨b,o+i,none⟩=some cur[o+i]:=by simp [World.cell?,hg,hi]
  have hfro:w.frozen? ⟨b,o+i,none⟩=false:=by
   have:=hu (o+i) hi
   simp only [World.frozen?,hg]
   exact this
  have hst:(store ((⟨b,o,none⟩:Addr).add i) v).run P w=.ok () (w.setRow b (cur.setIfInBounds (o+i) v)):=by
   rw [di,run_store P w _ v _ (h1 v (by simp)),hcell]
   simp [hfro,setCell_eq_setRow w b (o+i) cur t fz v hg]
  have ih:=cn P b o t fz rest (i+1) (cur.setIfInBounds (o+i) v) (w.setRow b (cur.setIfInBounds (o+i) v)) (setRow_heap w b cur _ t _ hg) (fun j hj=>hu j (by simpa using hj)) (by simp at hl ⊢; omega) (fun x hx=>h1 x (by simp [hx]))
  simp only [storeCells,Sem.run_bind,hst,Result.andThen_ok,ih,setRow_setRow]
  congr 2
  have e:=list_seg_step cur.toList (o+i) v rest (by simp at hl ⊢; omega)
  unfold splice
  congr 1
  simpa [Array.toList_setIfInBounds,Ux] using e
def aC.push (g:aC) (n:Nat) (inc:Inc):aC:=fun id=>if id=n then [inc] else g id
theorem aC.push_le (g:aC) (n:Nat) (inc:Inc) (h:g n=[]):g.le (g.push n inc):=fun id i hi=>by
 by_cases e:id=n
 ·subst e; rw [h] at hi; cases hi
 ·exact ⟨i.n,SK _,by simpa [aC.push,e] using hi⟩
theorem cM.push {g:aC} {A:ac} (h:cM w OK g A) (o:Obj) (hh:w'.heap=w.heap.push o) (ho:w'.os=w.os) (ht:w'.tape=w.tape) (hp:w'.output=w.output)
  (e:Ent) (inc:Inc) (hb:inc.b=w.heap.size)
  (he:∀g':aC,g.le g'->(∀b,b<w.heap.size->w'.heap[b]?=w.heap[b]?)->w'.heap[w.heap.size]?=some o->rX w' OK g' [inc] e) :
  cM w' OK (g.push A.length inc) (A++[e])/\Ext w OK g w' OK (g.push A.length inc):=by
 have hgn:g A.length=[]:=h.out _ (SK _)
 have hle:=g.push_le A.length inc hgn
 have hblk:∀b,b<w.heap.size->w'.heap[b]?=w.heap[b]?:=fun b hb=>by rw [hh,Ur,SD (by omega)]
 have hnew:w'.heap[w.heap.size]?=some o:=by rw [hh]; simp
 have hsz:w'.heap.size=w.heap.size+1:=by rw [hh]; simp
 refine ⟨⟨fun id hid=>?_,fun id hid=>?_,fun id id' i i' hd hd' hi hi' eb=>?_,fun id i hi ho=>?_,fun id i hi=>?_,fun b hb=>?_⟩,⟨ho,ht,hp,by omega,fun b hb _=>hblk b hb,hle,fun _ h=>h,fun id i hi=>?_,fun _ h=>.inl h,fun b r hb _=>(hblk b (Tg.1 hb).1).trans hb,fun k i hi _=>by
  by_cases e1:k=A.length
  ·subst e1; rw [hgn] at hi; cases hi
  ·simp [aC.push,e1]⟩⟩
 ·by_cases e1:id=A.length
  ·subst e1
   simp only [aC.push,SA,List.getElem_concat_length]
   exact he _ hle hblk hnew
  ·have hlt:id<A.length:=by simp at hid; omega
   simp only [aC.push,SD e1,SS hlt]
   exact (h.ent id hlt).mono (fun _ h=>h) (fun b hb=>hblk b (h.ok b hb)) hle (fun i hi=>hblk _ (h.low id i hi))
 ·simp at hid
  simp only [aC.push]
  rw [SD (by omega)]
  exact h.out id (by omega)
 ·simp only [aC.push] at hi hi'
  split at hi <;> split at hi'
  ·simp at hi hi'; subst hi; subst hi'; simp_all
  ·simp at hi; subst hi; have:=h.low _ _ hi'; omega
  ·simp at hi'; subst hi'; have:=h.low _ _ hi; omega
  ·have hx:∀k,¬ k=A.length->∀i,i∈g k->(A++[e])[k]?=A[k]?:=fun k hk i hi=>by
    have:k<A.length:=by
     rcases UQ k A.length with h1 | h1
     ·exact h1
     ·rw [h.out k h1] at hi; cases hi
    rw [Sy this]
   refine h.one _ _ _ _ ?_ ?_ hi hi' (by assumption)
   ·rw [<-hx _ (by assumption) _ hi]; exact hd
   ·rw [<-hx _ (by assumption) _ hi']; exact hd'
 ·simp only [aC.push] at hi
  split at hi
  ·simp at hi; subst hi; have:=h.ok _ ho; omega
  ·exact h.apart _ _ hi ho
 ·simp only [aC.push] at hi
  split at hi
  ·simp at hi; subst hi; omega
  ·have:=h.low _ _ hi; omega
 ·have:=h.ok b hb; omega
 ·simp only [aC.push] at hi
  split at hi
  ·simp at hi; subst hi; exact .inr (by omega)
  ·exact .inl ⟨id,i,hi,rfl⟩
theorem cM.turn {g g':aC} {A:ac} (h:cM w OK g A) (id:Nat) (hid:id<A.length) (hlive:A[id]?≠some .dead) (inc:Inc) (hinc:inc∈g id)
  (hs:w'.heap.size=w.heap.size) (ho:w'.os=w.os) (ht:w'.tape=w.tape) (hp:w'.output=w.output) (hblk:∀b,b≠inc.b->w'.heap[b]?=w.heap[b]?) (hnl:∀r:Loop,w.heap[inc.b]?=some (.loop r)->r.state≠.busy)
  (hg:g.le g') (hother:∀k,k≠id->g' k=g k) (hsame:∀i,i∈g' id->∃i0,i0∈g id/\i={i0 with n:=i.n}) (hinj:∀i i',i∈g' id->i'∈g' id->i.b=i'.b->i=i')
  (e:Ent) (he:(∀b,OK b->w'.heap[b]?=w.heap[b]?)->rX w' OK g' (g' id) e) (hfx:(∃i,i∈g id/\i.esz=0)->g' id=g id) :
  cM w' OK g' (A.set id e)/\Ext w OK g w' OK g':=by
 have hokb:∀b,OK b->w'.heap[b]?=w.heap[b]?:=fun b hb=>hblk b (fun e=>h.apart id inc hinc (e ▸ hb))
 have hfrom:∀k i,i∈g' k->∃i0,i0∈g k/\i={i0 with n:=i.n}:=fun k i hi=>by
  by_cases e1:k=id
  ·subst e1; exact hsame i hi
  ·rw [hother k e1] at hi; exact ⟨i,hi,rfl⟩
 refine ⟨⟨fun k hk=>?_,fun k hk=>?_,fun k k' i i' hd hd' hi hi' e1=>?_,fun k i hi hob=>?_,fun k i hi=>?_,fun b hb=>?_⟩,⟨ho,ht,hp,by omega,fun b hb hu=>?_,hg,fun _ h=>h,fun k i hi=>?_,fun _ h=>.inl h,fun b r hb hr=>(hblk b (fun e=>(hnl r (e ▸ hb)) hr)).trans hb,fun k i hi h0=>by
  by_cases e1:k=id
  ·subst e1; exact hfx ⟨i,hi,h0⟩
  ·exact hother k e1⟩⟩
 ·by_cases e1:k=id
  ·subst e1; simp only [Uy]; exact he hokb
  ·have hk':k<A.length:=by simpa using hk
   rw [Us (TX e1),hother k e1]
   by_cases hdk:A[k]?=some .dead
   ·rw [Sq hk'] at hdk
    injection hdk with hdk
    rw [hdk]; trivial
   ·refine (h.ent k hk').mono (fun _ h=>h) hokb hg (fun i hi=>hblk _ (fun eb=>?_))
    exact e1 (h.one k id i inc hdk hlive hi hinc eb).1
 ·simp at hk
  by_cases e1:k=id
  ·omega
  ·rw [hother k e1]; exact h.out k hk
 ·obtain ⟨i0,h0,h1⟩:=hfrom k i hi
  obtain ⟨i0',h0',h1'⟩:=hfrom k' i' hi'
  have hb0:i0.b=i0'.b:=by
   have a1:i.b=i0.b:=by rw [h1]
   have a2:i'.b=i0'.b:=by rw [h1']
   rw [<-a1,<-a2]; exact e1
  have hl:∀k:Nat,(A.set id e)[k]?≠some Ent.dead->A[k]?≠some Ent.dead:=fun k hd=>by
   by_cases e2:k=id
   ·rw [e2]; exact hlive
   ·rw [Sz (TX e2)] at hd; exact hd
  obtain ⟨rfl,_⟩:=h.one k k' i0 i0' (hl k hd) (hl k' hd') h0 h0' hb0
  refine ⟨rfl,?_⟩
  by_cases e2:k=id
  ·subst e2; exact hinj i i' hi hi' e1
  ·rw [hother k e2] at hi hi'; exact (h.one k k i i' (hl k hd) (hl k hd') hi hi' e1).2
 ·obtain ⟨i0,h0,h1⟩:=hfrom k i hi
  exact h.apart k i0 h0 (by rw [h1] at hob; exact hob)
 ·obtain ⟨i0,h0,h1⟩:=hfrom k i hi
  have:=h.low k i0 h0
  rw [h1,hs]; exact this
 ·rw [hs]; exact h.ok b hb
 ·exact hblk b (fun e1=>hu id inc hinc e1.symm)
 ·obtain ⟨i0,h0,h1⟩:=hfrom k i hi
  exact .inl ⟨k,i0,h0,by rw [h1]⟩
def cellsOf:AV->List AV
 | .agg cs=>cs
 | a=>[a]
def AV.solid:AV->Bool
 | .undef | .tup _=>false
 | _=>true
theorem a9.cells {g:aC} {a:AV} (h:a9 w OK g v a) (hs:a.solid=true) :
  v.cells.size=(cellsOf a).length/\cY v/\∀i (hi:i<(cellsOf a).length),∃x,v.cells[i]?=some x/\x.oneCell'=true/\a9 w OK g x (cellsOf a)[i]:=by
 cases h with
 | undef=>simp [AV.solid] at hs
 | tup=>simp [AV.solid] at hs
 | agg _ vs cs hl vals hg hv=>
  refine ⟨by simpa [Value.cells,cellsOf] using hl,fun x hx=>?_,fun i hi=>⟨vals i,by simpa [Value.cells] using (hg i hi).1,(hg i hi).2,hv i hi⟩⟩
  simp only [Value.cells,Array.mem_toList_iff] at hx
  obtain ⟨i,hi,rfl⟩:=Array.mem_iff_getElem.1 hx
  have:=hg i (by omega)
  rw [S0 hi] at this
  obtain ⟨h1,h2⟩:=this
  injection h1 with h1
  rw [h1]; exact h2
 | bool _ b=>exact ⟨rfl,by simp [cY,Value.cells,Value.oneCell'],fun i hi=>by simp [cellsOf] at hi; subst hi; exact ⟨_,rfl,rfl,.bool _ _⟩⟩
 | int _ k n=>exact ⟨rfl,by simp [cY,Value.cells,Value.oneCell'],fun i hi=>by simp [cellsOf] at hi; subst hi; exact ⟨_,rfl,rfl,.int _ _ _⟩⟩
 | str _ s l h=>exact ⟨rfl,by simp [cY,Value.cells,Value.oneCell'],fun i hi=>by simp [cellsOf] at hi; subst hi; exact ⟨_,rfl,rfl,.str _ _ _ h⟩⟩
 | nilS _ p=>exact ⟨rfl,by simp [cY,Value.cells,Value.oneCell'],fun i hi=>by simp [cellsOf] at hi; subst hi; exact ⟨_,rfl,rfl,.nilS _ p⟩⟩
 | nilP=>exact ⟨rfl,by simp [cY,Value.cells,Value.oneCell'],fun i hi=>by simp [cellsOf] at hi; subst hi; exact ⟨_,rfl,rfl,.nilP _⟩⟩
 | nilM=>exact ⟨rfl,by simp [cY,Value.cells,Value.oneCell'],fun i hi=>by simp [cellsOf] at hi; subst hi; exact ⟨_,rfl,rfl,.nilM _⟩⟩
 | nilF=>exact ⟨rfl,by simp [cY,Value.cells,Value.oneCell'],fun i hi=>by simp [cellsOf] at hi; subst hi; exact ⟨_,rfl,rfl,.nilF _⟩⟩
 | nilI=>exact ⟨rfl,by simp [cY,Value.cells,Value.oneCell'],fun i hi=>by simp [cellsOf] at hi; subst hi; exact ⟨_,rfl,rfl,.nilI _⟩⟩
 | fs _ b o cap esz T c fz es vals hb hh hcap hv hss hc=>exact ⟨rfl,by simp [cY,Value.cells,Value.oneCell'],fun i hi=>by simp [cellsOf] at hi; subst hi; exact ⟨_,rfl,rfl,.fs _ b o cap esz T c fz es vals hb hh hcap hv hss hc⟩⟩
 | sl _ id off len cap ao inc hi hl hn hcap ha=>exact ⟨rfl,by simp [cY,Value.cells,Value.oneCell'],fun i h=>by simp [cellsOf] at h; subst h; exact ⟨_,rfl,rfl,.sl _ id off len cap ao inc hi hl hn hcap ha⟩⟩
 | ptr _ id i o ao inc hi hn ho ha=>exact ⟨rfl,by simp [cY,Value.cells,Value.oneCell'],fun j h=>by simp [cellsOf] at h; subst h; exact ⟨_,rfl,rfl,.ptr _ id i o ao inc hi hn ho ha⟩⟩
 | fp _ b o T c fz cs vals hb hh hne hv hc=>exact ⟨rfl,by simp [cY,Value.cells,Value.oneCell'],fun i hi=>by simp [cellsOf] at hi; subst hi; exact ⟨_,rfl,rfl,.fp _ b o T c fz cs vals hb hh hne hv hc⟩⟩
 | func _ fn vs1 vs2 cs1 cs2 hl1 hl2 vals1 vals2 hg1 hg2 hv1 hv2=>exact ⟨rfl,by simp [cY,Value.cells,Value.oneCell'],fun i hi=>by simp [cellsOf] at hi; subst hi; exact ⟨_,rfl,rfl,.func _ fn vs1 vs2 cs1 cs2 hl1 hl2 vals1 vals2 hg1 hg2 hv1 hv2⟩⟩
 | map _ id inc hi=>exact ⟨rfl,by simp [cY,Value.cells,Value.oneCell'],fun i h=>by simp [cellsOf] at h; subst h; exact ⟨_,rfl,rfl,.map _ id inc hi⟩⟩
 | iface _ t v a hv=>exact ⟨rfl,by simp [cY,Value.cells,Value.oneCell'],fun i hi=>by simp [cellsOf] at hi; subst hi; exact ⟨_,rfl,rfl,.iface _ t v a hv⟩⟩
 | csl _ id off len ao inc hi hn hcap ha=>exact ⟨rfl,by simp [cY,Value.cells,Value.oneCell'],fun i h=>by simp [cellsOf] at h; subst h; exact ⟨_,rfl,rfl,.csl _ id off len ao inc hi hn hcap ha⟩⟩
def cT (P:Program) (w:World) (OK:Nat->Prop) (g:aC) (s:Sem Value) (r:AV):Prop:=∃v,s.run P w=.ok v w/\a9 w OK g v r
section
variable {P:Program} {w:World} {OK:Nat->Prop} {g:aC}
theorem yS (x y:ByteArray):(x.toList == y.toList)=(x.data.toList == y.data.toList):=by
 rw [Lib.toList_data,Lib.toList_data]
def Sk (k:IntKind) (x y:Int):Int:=k.wrap ((BitVec.ofInt k.bits x &&& BitVec.ofInt k.bits y).toNat:Int)
def orI (k:IntKind) (x y:Int):Int:=k.wrap ((BitVec.ofInt k.bits x ||| BitVec.ofInt k.bits y).toNat:Int)
def Ni (k:IntKind) (x y:Int):Int:=k.wrap ((BitVec.ofInt k.bits x ^^^ BitVec.ofInt k.bits y).toNat:Int)
def Dk (k:IntKind) (x y:Int):Int:=k.wrap ((BitVec.ofInt k.bits x &&& ~~~(BitVec.ofInt k.bits y)).toNat:Int)
def af (op:BinOp):AV->AV->Option AV
 | .int k a,.int k' b=>
  match op with
  | .shl=>if b<0 then none else some (.int k (k.wrap (a*2 ^ (min b.toNat k.bits))))
  | .shr=>if b<0 then none else some (.int k (a.fdiv (2 ^ (min b.toNat k.bits))))
  | .add=>if k=k' then some (.int k (k.wrap (a+b))) else none
  | .sub=>if k=k' then some (.int k (k.wrap (a-b))) else none
  | .mul=>if k=k' then some (.int k (k.wrap (a*b))) else none
  | .quo=>if k=k' then (if b=0 then none else some (.int k (k.wrap (a.tdiv b)))) else none
  | .rem=>if k=k' then (if b=0 then none else some (.int k (a.tmod b))) else none
  | .and=>if k=k' then some (.int k (Sk k a b)) else none
  | .or=>if k=k' then some (.int k (orI k a b)) else none
  | .xor=>if k=k' then some (.int k (Ni k a b)) else none
  | .andNot=>if k=k' then some (.int k (Dk k a b)) else none
  | .eql=>if k=k' then some (.bool (a == b)) else none
  | .neq=>if k=k' then some (.bool (a != b)) else none
  | .lss=>if k=k' then some (.bool (decide (a<b))) else none
  | .leq=>if k=k' then some (.bool (decide (a<=b))) else none
  | .gtr=>if k=k' then some (.bool (decide (b<a))) else none
  | .geq=>if k=k' then some (.bool (decide (b<=a))) else none
 | .str a,.str b=>
  match op with
  | .add=>if a.length+b.length<=9223372036854775807 then some (.str (a++b)) else none
  | .eql=>some (.bool (a == b))
  | .neq=>some (.bool (!(a == b)))
  | .lss=>some (.bool (Op.bytesLess a b))
  | .leq=>some (.bool (Op.bytesLess a b || a == b))
  | .gtr=>some (.bool (!(Op.bytesLess a b || a == b)))
  | .geq=>some (.bool (!(Op.bytesLess a b)))
  | _=>none
 | _,_=>none
theorem K6:IntKind.i64.max=9223372036854775807:=by decide
theorem xw {op:BinOp} {x y:Operand} {a1 a2 r:AV} (h1:a9 w OK g v1 a1) (h2:a9 w OK g v2 a2) (he:af op a1 a2=some r) :
  cT P w OK g (do eqGuard op t x y v1 v2; binOp op t v1 v2) r:=by
 unfold af at he
 split at he
 ·cases h1; cases h2
  rename_i k a k' b
  cases op <;> simp only [Option.ite_none_left_eq_some,Sw,Sx] at he
  case shl | shr=>
   obtain ⟨hb,rfl⟩:=he
   refine ⟨_,?_,.int _ _ _⟩
   simp [eqGuard,binOp,Op.shift,hb]
  case quo | rem=>
   obtain ⟨rfl,hb,rfl⟩:=he
   refine ⟨_,?_,.int _ _ _⟩
   simp [eqGuard,binOp,Op.intDiv,hb]
  case add | sub | mul=>
   obtain ⟨rfl,rfl⟩:=he
   refine ⟨_,?_,.int _ _ _⟩
   simp [eqGuard,binOp,Op.intArith]
  case and | or | xor | andNot=>
   obtain ⟨rfl,rfl⟩:=he
   refine ⟨_,?_,.int _ _ _⟩
   simp [eqGuard,binOp,Op.intBits,Sk,orI,Ni,Dk]
  all_goals
   obtain ⟨rfl,rfl⟩:=he
   refine ⟨_,?_,.bool _ _⟩
   simp [eqGuard,binOp,Op.intCmp]
 ·rename_i l l'
  cases h1 with
  | str _ s _ h=>
  cases h2 with
  | str _ s' _ h'=>
  have e1:(s.toList == s'.toList)=(l == l'):=by rw [yS,h,h']
  have e2:s.toList=l:=by rw [Lib.toList_data,h]
  have e3:s'.toList=l':=by rw [Lib.toList_data,h']
  have e4:s.size=l.length:=by rw [<-h,Tc]; rfl
  have e5:s'.size=l'.length:=by rw [<-h',Tc]; rfl
  cases op <;> simp only [Sw,Sx,reduceCtorEq] at he
  case add=>
   obtain ⟨hb,rfl⟩:=he
   refine ⟨.string (s++s'),?_,.str _ _ _ (by simp [h,h'])⟩
   have:¬ (((s.size+s'.size:Nat):Int) > IntKind.i64.max):=by rw [K6,e4,e5]; omega
   simp only [eqGuard,binOp,Op.stringOp,SD this]
   simp
  all_goals
   subst he
   refine ⟨_,?_,.bool _ _⟩
   simp [eqGuard,binOp,Op.stringOp,e2,e3]
 ·cases he
def mX (neg:Bool):AV->AV->Option AV
 | .bool a,.bool b=>some (.bool (if neg then !(a == b) else a == b))
 | _,_=>none
theorem kN {neg:Bool} {x y:Operand} {a1 a2 r:AV} (ht:P.underlying t=some .bool) (h1:a9 w OK g v1 a1) (h2:a9 w OK g v2 a2) (he:mX neg a1 a2=some r) :
  cT P w OK g (do eqGuard (if neg then .neq else .eql) t x y v1 v2; binOp (if neg then .neq else .eql) t v1 v2) r:=by
 unfold mX at he
 split at he
 ·cases h1; cases h2
  rename_i a b
  injection he with he; subst he
  have heq:(Op.equal t (.bool a) (.bool b)).run P w=.ok (a == b) w:=by
   show (Op.equalIn (9999+1) t (.bool a) (.bool b)).run P w=_
   rw [Op.equalIn]
   simp [underlying,ht]
  refine ⟨_,?_,.bool _ _⟩
  cases neg <;> simp only [eqGuard,binOp,Sem.run_bind,heq,Result.andThen_ok,TS,Uc,SZ,Bool.not_true,Sem.run_pure] <;> simp [heq]
 ·cases he
def qM (op:UnOp):AV->Option AV
 | .int k n=>match op with
  | .neg=>some (.int k (k.wrap (0-n)))
  | .xor=>some (.int k (Ni k (if k.signed then -1 else k.max) n))
  | _=>none
 | .bool b=>match op with
  | .not=>some (.bool (!b))
  | _=>none
 | _=>none
theorem zT {op:UnOp} {a r:AV} (h:a9 w OK g v a) (he:qM op a=some r):cT P w OK g (Op.unary op v) r:=by
 unfold qM at he
 split at he
 ·cases h
  split at he <;> simp at he <;> subst he <;> refine ⟨_,?_,.int _ _ _⟩ <;> simp [Op.unary,Op.intArith,Op.intBits,Ni]
 ·cases h
  split at he <;> simp at he
  subst he; refine ⟨_,?_,.bool _ _⟩; simp [Op.unary]
 ·cases he
def B9 (k:IntKind):AV->Option AV
 | .int _ n=>some (.int k (k.wrap n))
 | _=>none
end
section
variable {P:Program} {w:World} {OK:Nat->Prop} {g:aC} {A:ac}
theorem ay {d:TypeDesc} (h:P.underlying t=some d):(underlying t).run P w=.ok d w:=by simp [underlying,h]
theorem eU (h:P.info? t=some i):(typeInfo t).run P w=.ok i w:=by simp [typeInfo,h]
theorem ba (h:P.info? t=some i):(sizeOf t).run P w=.ok i.size w:=by simp [sizeOf,eU h]
theorem cz (h:P.info? t=some i) (hz:i.zero=some z):(zeroValue t).run P w=.ok z w:=by simp [zeroValue,eU h,hz]
def jc (P:Program) (t:TypeId):Option Bool:=
 match P.underlying t with
 | some (.struct _) | some (.array _ _)=>some true
 | some _=>some false
 | none=>none
theorem jM {b:Bool} (h:jc P t=some b):(isAgg t).run P w=.ok b w:=by
 unfold jc at h
 split at h
 ·rename_i h1; injection h with h; subst h; simp [isAgg,ay h1]
 ·rename_i h1; injection h with h; subst h; simp [isAgg,ay h1]
 ·rename_i d h1 h2 h3
  injection h with h; subst h
  rw [isAgg,Sem.run_bind,ay h3]
  cases d <;> simp_all
 ·cases h
theorem jJ {c:Array Value} {fz:Nat × Nat} (h:w.heap[b]?=some (.cells c T fz)):w.cell? ⟨b,o,none⟩=c[o]?:=by simp [World.cell?,h]
theorem dQ {agg:Bool} {c:Array Value} {fz:Nat × Nat} (hi:P.info? t=some i) (ha:jc P t=some agg)
  (h:w.heap[b]?=some (.cells c T fz)) (f:Nat->Value) (hf:∀j,j<(if agg then i.size else 1)->c[o+j]?=some (f j)) :
  (loadVar t ⟨b,o,none⟩).run P w=.ok (if agg then .agg ((List.range i.size).map f).toArray else f 0) w:=by
 cases agg
 ·have h0:=hf 0 (by simp)
  simp only [Ts] at h0
  simp [loadVar,jM ha,jJ h,h0]
 ·have:=run_loadCells (P:=P) w ⟨b,o,none⟩ i.size f (fun j hj=>by rw [di,jJ h]; exact hf j (by simpa using hj))
  simp [loadVar,jM ha,ba hi,this]
def xr:AV->Bool
 | .tup _ | .agg _=>false
 | _=>true
def cO (e:AV) (esz o:Nat) (agg:Bool) (size:Nat):Option AV:=
 if agg then
  if o=0/\size=esz then (match e with | .agg cs=>some (.agg cs) | .undef=>some .undef | _=>none)
  else if o+size<=esz then (match e with | .agg cs=>some (.agg ((cs.drop o).take size)) | _=>none)
  else none
 else match e with
  | .agg cs=>cs[o]?
  | .undef=>some .undef
  | .tup _=>none
  | e=>if o=0 then some e else none
def ab (agg:Bool) (size:Nat) (A:ac):AV->Option AV
 | .ptr id i o=>
  match A[id]? with
  | some (.row esz gr es)=>
   if agg && esz == 1 && !(size == 1) && !gr then
    if i+size<=es.length/\((es.drop i).take size).all xr=true/\o=0 then some (.agg ((es.drop i).take size)) else none
   else match es[i]? with
    | some e=>cO e esz o agg size
    | none=>none
  | _=>none
 | .fp cs=>if agg then (if size=cs.length then some (.agg cs) else if size<=cs.length then some (.agg (cs.take size)) else none) else cs[0]?
 | _=>none
theorem rh {e:AV} (h:a9 w OK g v e) (hf:xr e=true) (hs:v.cells.size=1):∃x,v.cells[0]?=some x/\a9 w OK g x e:=by
 cases h with
 | undef _ v=>exact ⟨v.cells[0],by simp [hs],.undef _ _⟩
 | tup=>cases hf
 | agg=>cases hf
 | bool _ b=>exact ⟨_,rfl,.bool _ _⟩
 | int _ k n=>exact ⟨_,rfl,.int _ _ _⟩
 | str _ s l h=>exact ⟨_,rfl,.str _ _ _ h⟩
 | nilS _ p=>exact ⟨_,rfl,.nilS _ p⟩
 | nilP=>exact ⟨_,rfl,.nilP _⟩
 | nilM=>exact ⟨_,rfl,.nilM _⟩
 | nilF=>exact ⟨_,rfl,.nilF _⟩
 | nilI=>exact ⟨_,rfl,.nilI _⟩
 | fs _ b o cap esz T c fz es vals hb hh hcap hv hss hc=>exact ⟨_,rfl,.fs _ b o cap esz T c fz es vals hb hh hcap hv hss hc⟩
 | sl _ id off len cap ao inc hi hl hn hcap ha=>exact ⟨_,rfl,.sl _ id off len cap ao inc hi hl hn hcap ha⟩
 | ptr _ id i o ao inc hi hn ho ha=>exact ⟨_,rfl,.ptr _ id i o ao inc hi hn ho ha⟩
 | fp _ b o T c fz cs vals hb hh hne hv hc=>exact ⟨_,rfl,.fp _ b o T c fz cs vals hb hh hne hv hc⟩
 | func _ fn vs1 vs2 cs1 cs2 hl1 hl2 vals1 vals2 hg1 hg2 hv1 hv2=>exact ⟨_,rfl,.func _ fn vs1 vs2 cs1 cs2 hl1 hl2 vals1 vals2 hg1 hg2 hv1 hv2⟩
 | map _ id inc hi=>exact ⟨_,rfl,.map _ id inc hi⟩
 | iface _ t v a hv=>exact ⟨_,rfl,.iface _ t v a hv⟩
 | csl _ id off len ao inc hi hn hcap ha=>exact ⟨_,rfl,.csl _ id off len ao inc hi hn hcap ha⟩
theorem rF {agg:Bool} {o:Nat} {c:Array Value} {fz:Nat × Nat} {e r:AV} (hi:P.info? t=some i) (ha:jc P t=some agg)
  (h:w.heap[b]?=some (.cells c T fz)) (he:cI w OK g c p esz e) (ho:o<esz) (hr:cO e esz o agg i.size=some r) :
  ∃v,(loadVar t ⟨b,p+o,none⟩).run P w=.ok v w/\a9 w OK g v r:=by
 obtain ⟨v,hv,hs,hok,hc⟩:=he
 unfold cO at hr
 cases agg
 ·obtain ⟨x,hx⟩:∃x,v.cells[o]?=some x:=⟨v.cells[o]'(by omega),by simp [hs,ho]⟩
  have h0:c[p+o]?=some x:=by rw [hc o ho]; exact hx
  have hrun:=dQ (P:=P) (w:=w) hi ha h (fun _=>x) (o:=p+o) (fun j hj=>by simp at hj; subst hj; simpa using h0)
  refine ⟨x,hrun,?_⟩
  simp only [SZ,Uc] at hr
  split at hr
  ·cases hv with
   | agg _ vs cs hl vals hg' hv=>
    obtain ⟨hlt,rfl⟩:=Sp.1 hr
    have h2:=(hg' o hlt).1
    rw [show vs[o]?=some x from hx] at h2
    injection h2 with h2
    rw [h2]
    exact hv o hlt
  ·injection hr with hr; subst hr; exact .undef _ _
  ·cases hr
  ·split at hr
   ·rename_i hn1 hn2 hn3 h0
    subst h0
    injection hr with hr; subst hr
    have hf:xr e=true:=by cases e <;> simp_all [xr]
    have h1:v.cells.size=1:=by
     have hsol:e.solid=true:=by cases e <;> simp_all [AV.solid]
     rw [(hv.cells hsol).1]
     cases e <;> simp_all [cellsOf]
    obtain ⟨y,hy,hvy⟩:=rh hv hf h1
    rw [hx] at hy
    injection hy with hy
    rw [hy]; exact hvy
   ·cases hr
 ·simp only [TS] at hr
  split at hr
  ·rename_i h1
   obtain ⟨rfl,hsz⟩:=h1
   split at hr
   ·rename_i cs
    injection hr with hr; subst hr
    obtain ⟨vs,vals,rfl,hl,hg',hv'⟩:=hv.inv_agg
    have hvs:vs.size=i.size:=by simpa [Value.cells,hsz] using hs
    have hrun:=dQ (P:=P) (w:=w) hi ha h vals (o:=p+0) (fun j hj=>by
     simp at hj
     have:=hc j (by omega)
     simpa [Value.cells,(hg' j (by omega)).1] using this)
    refine ⟨_,hrun,?_⟩
    have:(((List.range i.size).map vals).toArray)=vs:=by
     apply Array.ext
     ·simp [hvs]
     ·intro j h1 h2
      have:=(hg' j (by omega)).1
      rw [S0 h2] at this
      injection this with this
      simp [this]
    rw [SA rfl,this]
    exact hv
   ·injection hr with hr; subst hr
    have hrun:=dQ (P:=P) (w:=w) hi ha h (fun j=>v.cells.getD j undef) (o:=p+0) (fun j hj=>by
      simp at hj
      have:=hc j (by omega)
      rw [Ts,this]
      simp [hs,<-hsz,hj])
    exact ⟨_,hrun,.undef _ _⟩
   ·cases hr
  ·split at hr
   ·rename_i h1 h2
    split at hr
    ·rename_i cs
     injection hr with hr; subst hr
     obtain ⟨vs,vals,rfl,hl,hg',hv'⟩:=hv.inv_agg
     have hvs:vs.size=esz:=by simpa [Value.cells] using hs
     have hrun:=dQ (P:=P) (w:=w) hi ha h (fun j=>vals (o+j)) (o:=p+o) (fun j hj=>by
      simp at hj
      have:=hc (o+j) (by omega)
      rw [Ux,this]
      simpa [Value.cells] using (hg' (o+j) (by omega)).1)
     refine ⟨_,hrun,?_⟩
     rw [SA rfl]
     refine .agg _ _ _ (by simp; omega) (fun j=>vals (o+j)) (fun j hj=>?_) (fun j hj=>?_)
     ·simp at hj
      exact ⟨by simp [T8 (show j<i.size by omega)],(hg' (o+j) (by omega)).2⟩
     ·simp only [TG,Tv]
      exact hv' (o+j) (by simp at hj; omega)
    ·cases hr
   ·cases hr
theorem oD {agg:Bool} {a r:AV} (hi:P.info? t=some i) (hg:jc P t=some agg) (hA:cM w OK g A) (h:a9 w OK g v a) (he:ab agg i.size A a=some r) :
  cT P w OK g (Instr.loadAt t v) r:=by
 unfold ab at he
 split at he
 ·rename_i id i0 o
  obtain ⟨inc,hinc,rfl,hn,ho⟩:=h.inv_ptr
  split at he
  ·rename_i esz gr es hid
   obtain ⟨hlt,hrow⟩:=Sp.1 hid
   have hent:=hA.ent id hlt
   rw [hrow] at hent
   obtain ⟨hesz,hne,_,c,T,fz,hh,_,_,hel⟩:=hent.2 inc hinc
   split at he
   ·rename_i hcond
    simp only [S4,Ug,Tt,Uh] at hcond
    obtain ⟨⟨⟨rfl,rfl⟩,hsz⟩,rfl⟩:=hcond
    have hn':=(hent.1 rfl).2 inc hinc
    split at he
    ·rename_i hc
     obtain ⟨hlen,hall,rfl⟩:=hc
     injection he with he; subst he
     have hfl:∀j (hj:j<i.size),∃x,c[inc.o+i0*1+0+j]?=some x/\a9 w OK g x (es[i0+j]'(by omega))/\x.oneCell'=true:=fun j hj=>by
      obtain ⟨v,hv,hs,hok,hc'⟩:=hel (i0+j) (by omega) (by omega)
      have hfj:xr (es[i0+j]'(by omega))=true:=by
       have:=SV.1 hall (es[i0+j]'(by omega)) (by
        rw [List.mem_take_iff_getElem]
        exact ⟨j,by simp; omega,by simp⟩)
       exact this
      obtain ⟨x,hx,hvx⟩:=rh hv hfj hs
      refine ⟨x,?_,hvx,hok x (by rw [Array.mem_toList_iff]; exact Array.mem_of_getElem? hx)⟩
      have:=hc' 0 (by omega)
      rw [hx] at this
      rw [<-this]; congr 1; omega
     obtain ⟨f,hf⟩:∃f:Nat->Value,∀j (hj:j<i.size),c[inc.o+i0*1+0+j]?=some (f j)/\a9 w OK g (f j) (es[i0+j]'(by omega))/\(f j).oneCell'=true:=
      ⟨fun j=>(c[inc.o+i0*1+0+j]?).getD undef,fun j hj=>by
       obtain ⟨x,h1,h2,h3⟩:=hfl j hj
       simp only [h1,S9]
       exact ⟨trivial,h2,h3⟩⟩
     have hrun:=dQ (P:=P) (w:=w) hi hg hh f (o:=inc.o+i0*1+0) (fun j hj=>(hf j (by simpa using hj)).1)
     refine ⟨_,by rw [hesz]; simpa [Instr.loadAt,Instr.sureAddr] using hrun,?_⟩
     refine .agg _ _ _ (by simp; omega) f (fun j hj=>?_) (fun j hj=>?_)
     ·simp at hj
      exact ⟨by simp [T8 (show j<i.size by omega)],(hf j (by omega)).2.2⟩
     ·simp only [TG,Tv]; exact (hf j (by simp at hj; omega)).2.1
    ·cases he
   ·split at he
    ·rename_i e hes
     obtain ⟨hi0,rfl⟩:=Sp.1 hes
     rw [hesz] at ho
     obtain ⟨v,h1,h2⟩:=rF hi hg hh (hel i0 hi0 hn) ho he
     exact ⟨v,by rw [hesz]; simpa [Instr.loadAt,Instr.sureAddr] using h1,h2⟩
    ·cases he
  ·cases he
 ·rename_i cs
  obtain ⟨b,o,T,c,fz,vals,rfl,hb,hh,hne,hv,hc⟩:=h.inv_fp
  have hv':∀j (hj:j<cs.length),a9 w OK g (vals j) cs[j]:=fun j hj=>(hv j hj).none_to
  cases agg
  ·simp only [SZ,Uc] at he
   obtain ⟨hlt,rfl⟩:=Sp.1 he
   have hrun:=dQ (P:=P) (w:=w) hi hg hh vals (o:=o) (fun j hj=>by simp at hj; subst hj; exact (hc 0 hlt).1)
   exact ⟨vals 0,by simpa [Instr.loadAt,Instr.sureAddr] using hrun,hv' 0 hlt⟩
  ·simp only [TS] at he
   have key:∀n,n=i.size->n<=cs.length->cT P w OK g (Instr.loadAt t (.pointer (some ⟨b,o,none⟩))) (.agg (cs.take n)):=by
    rintro n rfl hle
    have hrun:=dQ (P:=P) (w:=w) hi hg hh vals (o:=o) (fun j hj=>(hc j (by simp at hj; omega)).1)
    refine ⟨_,by simpa [Instr.loadAt,Instr.sureAddr] using hrun,?_⟩
    refine .agg _ _ _ (by simp; omega) vals (fun j hj=>?_) (fun j hj=>?_)
    ·simp at hj
     exact ⟨by simp [T8 (show j<i.size by omega)],(hc j (by omega)).2⟩
    ·simp only [TG]; exact hv' j (by simp at hj; omega)
   split at he
   ·rename_i h1
    injection he with he; subst he
    have:=key cs.length h1.symm (SK _)
    rwa [SX] at this
   ·split at he
    ·rename_i h1 h2
     injection he with he; subst he
     exact key _ rfl h2
    ·cases he
 ·cases he
end
section
variable {P:Program} {w:World} {OK:Nat->Prop} {g:aC} {A:ac}
def ae (esz:Nat) (A:ac):AV->AV->Option AV
 | .sl id off len,.int _ n=>
  match A[id]? with
  | some (.row s _ _)=>if s=esz/\0<esz/\0<=n/\n<len then some (.ptr id (off+n.toNat) 0) else none
  | _=>none
 | .fs s es,.int _ n=>
  if 0<=n then (match es[n.toNat]? with
   | some e=>if s=esz/\0<esz/\e.solid=true then some (.fp (cellsOf e)) else none
   | none=>none) else none
 | _,_=>none
theorem cI.fp {c:Array Value} {fz:Nat × Nat} {e:AV} (hb:OK b) (hh:w.heap[b]?=some (.cells c T fz)) (h:cI w OK aC.none c p esz e) (hs:e.solid=true) (hp:0<esz) :
  a9 w OK g (.pointer (some ⟨b,p,none⟩)) (.fp (cellsOf e)):=by
 obtain ⟨v,hv,hsz,hok,hc⟩:=h
 obtain ⟨h1,h2,h3⟩:=hv.cells hs
 obtain ⟨f,hf⟩:∃f:Nat->Value,∀i (hi:i<(cellsOf e).length),v.cells[i]?=some (f i)/\(f i).oneCell'=true/\a9 w OK aC.none (f i) (cellsOf e)[i]:=
  ⟨fun i=>(v.cells[i]?).getD undef,fun i hi=>by
   obtain ⟨x,a1,a2,a3⟩:=h3 i hi
   simp only [a1,S9]
   exact ⟨trivial,a2,a3⟩⟩
 exact .fp _ b p T c fz (cellsOf e) f hb hh (by omega) (fun i hi=>(hf i hi).2.2) (fun i hi=>⟨by rw [hc i (by omega)]; exact (hf i hi).1,(hf i hi).2.1⟩)
theorem qR {a1 a2 r:AV} (ht:P.underlying t=some (.slice elem)) (hi:P.info? elem=some i) (hA:cM w OK g A) (h1:a9 w OK g v1 a1) (h2:a9 w OK g v2 a2)
  (he:ae i.size A a1 a2=some r):cT P w OK g (Instr.indexAt t v1 v2) r:=by
 unfold ae at he
 split at he
 ·rename_i id off len k n
  obtain rfl:=h2.inv_int
  obtain ⟨inc,cap,ao,hinc,rfl,hl,hn,hcap,ha⟩:=h1.inv_sl
  split at he
  ·rename_i s gr es hid
   simp only [Sw,Sx] at he
   obtain ⟨⟨rfl,hpos,h0,hlt⟩,rfl⟩:=he
   obtain ⟨hlt',hrow⟩:=Sp.1 hid
   have hent:=hA.ent id hlt'
   rw [hrow] at hent
   obtain ⟨hesz,_⟩:=hent.2 inc hinc
   refine ⟨.pointer (some ⟨inc.b,ao+n.toNat*i.size,none⟩),?_,?_⟩
   ·simp [Instr.indexAt,asIntOf,ay ht,ba hi,h0,hlt,di]
   ·refine .ptr _ id _ 0 _ inc hinc (by omega) (by omega) ?_
    rw [ha (by omega),hesz,SP]; omega
  ·cases he
 ·rename_i s es k n
  obtain rfl:=h2.inv_int
  obtain ⟨b,o,cap,T,c,fz,vals,rfl,hb,hh,hcap,hv,hs,hc⟩:=h1.inv_fs
  split at he
  ·rename_i h0
   split at he
   ·rename_i e hes
    simp only [Sw,Sx] at he
    obtain ⟨⟨rfl,hpos,hsol⟩,rfl⟩:=he
    obtain ⟨hlt,rfl⟩:=Sp.1 hes
    refine ⟨.pointer (some ⟨b,o+n.toNat*i.size,none⟩),?_,?_⟩
    ·have hlt':n<es.length:=by omega
     simp [Instr.indexAt,asIntOf,ay ht,ba hi,h0,hlt',di]
    ·exact cI.fp hb hh ⟨vals n.toNat,hv _ hlt,(hs _ hlt).1,(hs _ hlt).2,hc _ hlt⟩ hsol hpos
   ·cases he
  ·cases he
 ·cases he
def dH (n s:Nat) (A:ac):AV->AV->Option AV
 | .ptr id i o,.int _ k=>
  match A[id]? with
  | some (.row esz gr es)=>
   if 0<=k/\k<n then
    if esz=s/\o=0/\gr=false/\i+k.toNat<es.length then some (.ptr id (i+k.toNat) 0)
    else if o+k.toNat*s<esz then some (.ptr id i (o+k.toNat*s)) else none
   else none
  | _=>none
 | .fp cs,.int _ k=>if 0<=k/\k<n/\k.toNat*s<cs.length then some (.fp (cs.drop (k.toNat*s))) else none
 | _,_=>none
theorem a9.fp_drop {cs:List AV} (h:a9 w OK g (.pointer (some ⟨b,o,none⟩)) (.fp cs)) (k:Nat) (hk:k<cs.length):a9 w OK g (.pointer (some ⟨b,o+k,none⟩)) (.fp (cs.drop k)):=by
 obtain ⟨b',o',T,c,fz,vals,he,hb,hh,hne,hv,hc⟩:=h.inv_fp
 injection he with he; injection he with he; injection he with e1 e2
 subst e1; subst e2
 refine .fp _ b (o+k) T c fz _ (fun i=>vals (k+i)) hb hh (by simp; omega) (fun i hi=>?_) (fun i hi=>?_)
 ·simp only [Tv]; exact hv (k+i) (by simp at hi; omega)
 ·have:=hc (k+i) (by simp at hi; omega)
  rwa [<-Ux] at this
theorem oV {a1 a2 r:AV} (ht:P.underlying t=some (.array n elem)) (hi:P.info? elem=some i) (hA:cM w OK g A) (h1:a9 w OK g v1 a1) (h2:a9 w OK g v2 a2)
  (he:dH n i.size A a1 a2=some r):cT P w OK g (Instr.indexAt t v1 v2) r:=by
 unfold dH at he
 split at he
 ·rename_i id i0 o kk k
  obtain rfl:=h2.inv_int
  obtain ⟨inc,hinc,rfl,hn,ho⟩:=h1.inv_ptr
  split at he
  ·rename_i esz gr es hid
   obtain ⟨hlt',hrow⟩:=Sp.1 hid
   have hent:=hA.ent id hlt'
   rw [hrow] at hent
   obtain ⟨hesz,_⟩:=hent.2 inc hinc
   split at he
   ·rename_i hk
    have hrun:(Instr.indexAt t (.pointer (some ⟨inc.b,inc.o+i0*inc.esz+o,none⟩)) (.int kk k)).run P w=.ok (.pointer (some ⟨inc.b,inc.o+i0*inc.esz+o+k.toNat*i.size,none⟩)) w:=by
     simp [Instr.indexAt,Instr.sureAddr,asIntOf,ay ht,ba hi,hk.1,hk.2,di]
    split at he
    ·rename_i hc
     obtain ⟨rfl,rfl,rfl,hlt⟩:=hc
     injection he with he; subst he
     have hn':=(hent.1 rfl).2 inc hinc
     exact ⟨_,hrun,.ptr _ id _ 0 _ inc hinc (by omega) ho (by rw [hesz,SP]; omega)⟩
    ·split at he
     ·rename_i hc
      injection he with he; subst he
      exact ⟨_,hrun,.ptr _ id i0 _ _ inc hinc hn (by omega) (by omega)⟩
     ·cases he
   ·cases he
  ·cases he
 ·rename_i cs kk k
  obtain rfl:=h2.inv_int
  simp only [Sw,Sx] at he
  obtain ⟨⟨hk0,hk1,hk2⟩,rfl⟩:=he
  obtain ⟨b,o,T,c,fz,vals,rfl,_⟩:=h1.inv_fp
  refine ⟨.pointer (some ⟨b,o+k.toNat*i.size,none⟩),?_,h1.fp_drop _ hk2⟩
  simp [Instr.indexAt,Instr.sureAddr,asIntOf,ay ht,ba hi,hk0,hk1,di]
 ·cases he
def aa (off:Nat) (A:ac):AV->Option AV
 | .ptr id i o=>
  match A[id]? with
  | some (.row esz _ _)=>if o+off<esz then some (.ptr id i (o+off)) else none
  | _=>none
 | .fp cs=>if off<cs.length then some (.fp (cs.drop off)) else none
 | _=>none
theorem nB {s:TypeId} {fields:Array Field} {k:Nat} {f:Field} {a r:AV} (hs:P.underlying s=some (.struct fields)) (hf:fields[k]?=some f) (hi:P.info? f.type=some i) (hz:i.size≠0) (hA:cM w OK g A)
  (h:a9 w OK g v a) (he:aa f.offset A a=some r):cT P w OK g (Instr.fieldAt s v k) r:=by
 unfold aa at he
 split at he
 ·rename_i id i0 o
  obtain ⟨inc,hinc,rfl,hn,ho⟩:=h.inv_ptr
  split at he
  ·rename_i esz gr es hid
   simp only [Sw,Sx] at he
   obtain ⟨hlt,rfl⟩:=he
   obtain ⟨hlt',hrow⟩:=Sp.1 hid
   have hent:=hA.ent id hlt'
   rw [hrow] at hent
   obtain ⟨hesz,_⟩:=hent.2 inc hinc
   refine ⟨.pointer (some ⟨inc.b,inc.o+i0*inc.esz+o+f.offset,none⟩),?_,.ptr _ id i0 _ _ inc hinc hn (by omega) (by omega)⟩
   simp [Instr.fieldAt,Instr.sureAddr,ay hs,hf,fieldPlace,ba hi,hz,di]
  ·cases he
 ·rename_i cs
  simp only [Sw,Sx] at he
  obtain ⟨hlt,rfl⟩:=he
  obtain ⟨b,o,T,c,fz,vals,rfl,_⟩:=h.inv_fp
  refine ⟨.pointer (some ⟨b,o+f.offset,none⟩),?_,h.fp_drop _ hlt⟩
  simp [Instr.fieldAt,Instr.sureAddr,ay hs,hf,fieldPlace,ba hi,hz,di]
 ·cases he
def qO (agg:Bool) (off size:Nat):AV->Option AV
 | .agg cs=>if agg then (if off+size<=cs.length then some (.agg ((cs.drop off).take size)) else none) else cs[off]?
 | _=>none
theorem jF {agg:Bool} {a r:AV} (hi:P.info? t=some i) (ha:jc P t=some agg) (h:a9 w OK g v a) (he:qO agg off i.size a=some r) :
  cT P w OK g (do part t (<-asAgg v) off) r:=by
 unfold qO at he
 split at he
 ·rename_i cs
  obtain ⟨vs,vals,rfl,hl,hg,hv⟩:=h.inv_agg
  cases agg
  ·simp only [SZ,Uc] at he
   obtain ⟨hlt,rfl⟩:=Sp.1 he
   exact ⟨vals off,by simp [asAgg,part,jM ha,(hg off hlt).1],hv off hlt⟩
  ·simp only [TS,Sw,Sx] at he
   obtain ⟨hle,rfl⟩:=he
   refine ⟨.agg (vs.extract off (off+i.size)),by simp [asAgg,part,jM ha,ba hi],?_⟩
   refine .agg _ _ _ (by simp; omega) (fun j=>vals (off+j)) (fun j hj=>?_) (fun j hj=>?_)
   ·simp at hj
    exact ⟨by rw [Array.getElem?_extract,SA (by omega)]; exact (hg (off+j) (by omega)).1,(hg (off+j) (by omega)).2⟩
   ·simp only [TG,Tv]; exact hv (off+j) (by simp at hj; omega)
 ·cases he
def iC (agg:Bool) (n s:Nat):AV->AV->Option AV
 | a,.int _ k=>if 0<=k/\k<n then qO agg (k.toNat*s) s a else none
 | _,_=>none
theorem oU {agg:Bool} {a1 a2 r:AV} (ht:P.underlying t=some (.array n elem)) (hi:P.info? elem=some i) (ha:jc P elem=some agg)
  (h1:a9 w OK g v1 a1) (h2:a9 w OK g v2 a2) (he:iC agg n i.size a1 a2=some r):cT P w OK g (Instr.index t v1 v2) r:=by
 unfold iC at he
 split at he
 ·rename_i kk k
  obtain rfl:=h2.inv_int
  simp only [Sw] at he
  obtain ⟨⟨hk0,hk1⟩,he⟩:=he
  have he':=he
  unfold qO at he'
  split at he'
  ·rename_i cs
   obtain ⟨x,e1,e2⟩:=jF hi ha h1 he
   obtain ⟨vs,vals,rfl,_⟩:=h1.inv_agg
   refine ⟨x,?_,e2⟩
   simp only [asAgg,Sem.run_bind,Sem.run_pure,Result.andThen_ok] at e1
   simp [Instr.index,asIntOf,ay ht,hk0,hk1,ba hi,e1]
  ·cases he'
 ·cases he
def zW:AV->AV->Option AV
 | .str l,.int _ k=>if 0<=k then (l[k.toNat]?).map fun b=>.int .u8 b.toNat else none
 | _,_=>none
def jH (k:Nat):AV->Option AV
 | .tup vs=>vs[k]?
 | _=>none
theorem qT {k:Nat} {a r:AV} (h:a9 w OK g v a) (he:jH k a=some r):cT P w OK g (Instr.extract v k) r:=by
 unfold jH at he
 split at he
 ·obtain ⟨vs,vals,rfl,hl,hg,hv⟩:=h.inv_tup
  obtain ⟨hlt,rfl⟩:=Sp.1 he
  exact ⟨vals k,by simp [Instr.extract,hg k hlt],hv k hlt⟩
 ·cases he
def hiB (len:Nat):Option AV->Option Nat
 | none=>some len
 | some (.int _ n)=>if 0<=n/\n<=len then some n.toNat else none
 | some _=>none
def loB:Option AV->Option Nat
 | none=>some 0
 | some (.int _ n)=>if 0<=n then some n.toNat else none
 | some _=>none
def eF (len:Nat) (lo hi:Option AV):Option (Nat × Nat):=
 match loB lo,hiB len hi with
 | some l,some h=>if l<=h then some (l,h) else none
 | _,_=>none
def DQ (w:World) (OK:Nat->Prop) (g:aC):Option Value->Option AV->Prop
 | none,none=>True
 | some v,some a=>a9 w OK g v a
 | _,_=>False
theorem BD {hi:Option Value} {ahi:Option AV} (hr:DQ w OK g hi ahi) (he:hiB len ahi=some h) :
  (hi=none/\h=len)\/∃k n,hi=some (.int k n)/\0<=n/\n<=len/\h=n.toNat:=by
 cases hi with
 | none=>cases ahi with
  | none=>simp [hiB] at he; exact .inl ⟨rfl,he.symm⟩
  | some a=>exact hr.elim
 | some v=>cases ahi with
  | none=>exact hr.elim
  | some a=>
   have hr':a9 w OK g v a:=hr
   unfold hiB at he
   split at he
   ·rename_i e; cases e
   ·rename_i k n e
    injection e with e; subst e
    simp only [Sw,Sx] at he
    exact .inr ⟨k,n,by rw [hr'.inv_int],he.1.1,he.1.2,he.2.symm⟩
   ·cases he
theorem u9 {lo:Option Value} {alo:Option AV} (hr:DQ w OK g lo alo) (he:loB alo=some l) :
  (lo=none/\l=0)\/∃k n,lo=some (.int k n)/\0<=n/\l=n.toNat:=by
 cases lo with
 | none=>cases alo with
  | none=>simp [loB] at he; exact .inl ⟨rfl,he.symm⟩
  | some a=>exact hr.elim
 | some v=>cases alo with
  | none=>exact hr.elim
  | some a=>
   have hr':a9 w OK g v a:=hr
   unfold loB at he
   split at he
   ·rename_i e; cases e
   ·rename_i k n e
    injection e with e; subst e
    simp only [Sw,Sx] at he
    exact .inr ⟨k,n,by rw [hr'.inv_int],he.1,he.2.symm⟩
   ·cases he
theorem ex {sl:Bool} {cap:Nat} {lo hi:Option Value} {alo ahi:Option AV} (hlo:DQ w OK g lo alo) (hhi:DQ w OK g hi ahi) (hcap:len<=cap) (he:eF len alo ahi=some (l,h)) :
  (Instr.sliceBounds sl len cap lo hi none).run P w=.ok (l,h,cap) w/\l<=h/\h<=len:=by
 unfold eF at he
 split at he
 ·rename_i l' h' e1 e2
  simp only [Sw,Sx,SH] at he
  obtain ⟨hle,rfl,rfl⟩:=he
  rcases BD hhi e2 with ⟨rfl,rfl⟩ | ⟨k,n,rfl,h0,h1,rfl⟩ <;> rcases u9 hlo e1 with ⟨rfl,rfl⟩ | ⟨k',n',rfl,h0',rfl⟩
  ·exact ⟨rfl,hle,SK _⟩
  ·have h2:n'<=h':=by omega
   exact ⟨by simp [Instr.sliceBounds,Instr.sliceBound,asIntOf,h0',h2],hle,SK _⟩
  ·have h2:n<=cap:=by omega
   exact ⟨by simp [Instr.sliceBounds,Instr.sliceBound,asIntOf,h0,h2],hle,by omega⟩
  ·have h2:n<=cap:=by omega
   have h3:n'<=n.toNat:=by omega
   have h4:n'<=max n 0:=by omega
   exact ⟨by simp [Instr.sliceBounds,Instr.sliceBound,asIntOf,h0,h2,h0',h4],hle,by omega⟩
 ·cases he
def zU (lo hi:Option AV):AV->Option AV
 | .str s=>(eF s.length lo hi).map fun x=>.str ((s.drop x.1).take (x.2-x.1))
 | _=>none
def cB (esz:Nat) (A:ac) (lo hi:Option AV):AV->Option AV
 | .sl id off len=>match A[id]? with
  | some (.row s _ _)=>if s=esz then (eF len lo hi).map fun x=>.sl id (off+x.1) (x.2-x.1) else none
  | _=>none
 | .fs s es=>if s=esz then (eF es.length lo hi).map fun x=>.fs s ((es.drop x.1).take (x.2-x.1)) else none
 | .nilS=>(eF 0 lo hi).map fun _=>.nilS
 | _=>none
theorem qN {lo hi:Option Value} {a r:AV} {alo ahi:Option AV} (ht:P.underlying t=some (.slice e)) (hi':P.info? e=some i)
  (hA:cM w OK g A) (h:a9 w OK g v a) (hlo:DQ w OK g lo alo) (hhi:DQ w OK g hi ahi) (he:cB i.size A alo ahi a=some r):cT P w OK g (Instr.slice t v lo hi none) r:=by
 unfold cB at he
 split at he
 ·rename_i id off len
  split at he
  ·rename_i s gr es hid
   simp only [Sw,SE,UR] at he
   obtain ⟨rfl,l,h',hb,rfl⟩:=he
   obtain ⟨inc,cap,ao,hinc,rfl,hl,hn,hcap,ha⟩:=h.inv_sl
   obtain ⟨hlt',hrow⟩:=Sp.1 hid
   have hent:=hA.ent id hlt'
   rw [hrow] at hent
   obtain ⟨hesz,_⟩:=hent.2 inc hinc
   obtain ⟨h1,h2,h3⟩:=ex (P:=P) (sl:=true) hlo hhi hl hb
   by_cases hc:cap=l
   ·refine ⟨.slice (some ⟨inc.b,ao,none⟩) (h'-l) (cap-l),?_,?_⟩
    ·simp only [Instr.slice,Sem.run_bind,ay ht,Result.andThen_ok,h1,ba hi',SA hc]; rfl
    ·exact .sl _ id _ _ _ _ inc hinc (by omega) (by omega) (by omega) (fun h0=>absurd (by omega) h0)
   ·refine ⟨.slice (some ⟨inc.b,ao+l*i.size,none⟩) (h'-l) (cap-l),?_,?_⟩
    ·simp only [Instr.slice,Sem.run_bind,ay ht,Result.andThen_ok,h1,ba hi',SD hc,Th,di]; rfl
    ·exact .sl _ id _ _ _ _ inc hinc (by omega) (by omega) (by omega) (fun h0=>by rw [ha (by omega),hesz,SP]; omega)
  ·cases he
 ·rename_i s es
  simp only [Sw,SE,UR] at he
  obtain ⟨rfl,l,h',hb,rfl⟩:=he
  obtain ⟨b,o,cap,T,c,fz,vals,rfl,hb',hh,hcap,hv,hs,hc⟩:=h.inv_fs
  obtain ⟨h1,h2,h3⟩:=ex (P:=P) (sl:=true) hlo hhi hcap hb
  have hlen:((es.drop l).take (h'-l)).length=h'-l:=by simp; omega
  by_cases hc':cap=l
  ·refine ⟨.slice (some ⟨b,o,none⟩) ((es.drop l).take (h'-l)).length (cap-l),?_,?_⟩
   ·simp only [Instr.slice,Sem.run_bind,ay ht,Result.andThen_ok,h1,ba hi',SA hc',hlen]; rfl
   ·exact .fs _ b o _ _ T c fz _ vals hb' hh (by omega) (fun i hi=>by omega) (fun i hi=>by omega) (fun i hi=>by omega)
  ·refine ⟨.slice (some ⟨b,o+l*i.size,none⟩) ((es.drop l).take (h'-l)).length (cap-l),?_,?_⟩
   ·simp only [Instr.slice,Sem.run_bind,ay ht,Result.andThen_ok,h1,ba hi',SD hc',Th,di,hlen]; rfl
   ·refine .fs _ b _ _ _ T c fz _ (fun k=>vals (l+k)) hb' hh (by omega) (fun k hk=>?_) (fun k hk=>hs (l+k) (by omega)) (fun k hk j hj=>?_)
    ·simp only [TG,Tv]; exact hv (l+k) (by omega)
    ·have:=hc (l+k) (by omega) j hj
     rw [<-this]; congr 1; rw [SP]; omega
 ·simp only [SE,UR] at he
  obtain ⟨l,h',hb,rfl⟩:=he
  obtain ⟨p0,rfl⟩:=h.inv_nilS
  obtain ⟨h1,h2,h3⟩:=ex (P:=P) (sl:=true) hlo hhi (SK 0) hb
  obtain rfl:h'=0:=by omega
  obtain rfl:l=0:=by omega
  refine ⟨.slice p0 0 0,?_,.nilS _ _⟩
  simp only [Instr.slice,Sem.run_bind,ay ht,Result.andThen_ok,h1,ba hi',TS]; rfl
 ·cases he
def fg (esz:Nat) (A:ac) (lo:Option AV) (hi mx a:AV):Option AV:=
 match hi,mx with
 | .int _ n,.int _ m=>if n=m then (match cB esz A lo (some hi) a with
  | some (.sl id off len)=>some (.csl id off len)
  | some .nilS=>some .nilS
  | _=>none) else none
 | _,_=>none
theorem I3 {p:Option Addr} {cap:Nat} {k k':IntKind} {n:Int} {lo:Option Value} {r:Value} (ht:P.underlying t=some (.slice e)) (hi':P.info? e=some i) (h0:0<=n) (h1:n<=len) (h2:len<=cap)
  (hlo:lo=none\/∃k1 n1,lo=some (.int k1 n1)/\0<=n1/\n1<=n)
  (h:(Instr.slice t (.slice p n.toNat n.toNat) lo (some (.int k n)) none).run P w=.ok r w) :
  (Instr.slice t (.slice p len cap) lo (some (.int k n)) (some (.int k' n))).run P w=.ok r w:=by
 have b1:n<=cap:=by omega
 have b3:(n.toNat:Int)=n:=by omega
 rcases hlo with rfl | ⟨k1,n1,rfl,h3,h4⟩
 ·simp only [Instr.slice,Instr.sliceBounds,Instr.sliceBound,asIntOf,Sem.run_bind,ay ht,Result.andThen_ok,ba hi',Sem.run_pure,h0,b1,b3,and_self,TS,TY] at h ⊢
  exact h
 ·simp only [Instr.slice,Instr.sliceBounds,Instr.sliceBound,asIntOf,Sem.run_bind,ay ht,Result.andThen_ok,ba hi',Sem.run_pure,h0,b1,b3,h3,h4,and_self,TS,TY] at h ⊢
  exact h
theorem jI {k:IntKind} {n:Int} {alo:Option AV} (he:eF len alo (some (.int k n))=some (l,h)):0<=n/\n<=len/\h=n.toNat/\l<=h/\loB alo=some l/\eF n.toNat alo (some (.int k n))=some (l,h):=by
 unfold eF at he ⊢
 split at he
 ·rename_i l' h' e1 e2
  simp only [Sw,Sx,SH] at he
  obtain ⟨hle,rfl,rfl⟩:=he
  have e2':=e2
  simp only [hiB,Sw,Sx] at e2
  obtain ⟨⟨g1,g2⟩,rfl⟩:=e2
  refine ⟨g1,g2,rfl,hle,e1,?_⟩
  have:hiB n.toNat (some (.int k n))=some n.toNat:=by
   simp only [hiB]
   rw [SA ⟨g1,by omega⟩]
  rw [e1,this]
  simp only [SA hle]
 ·cases he
theorem rK {vh vm:Value} {lo:Option Value} {a ah am r:AV} {alo:Option AV} (ht:P.underlying t=some (.slice e)) (hi':P.info? e=some i)
  (hA:cM w OK g A) (h:a9 w OK g v a) (hlo:DQ w OK g lo alo) (hhi:a9 w OK g vh ah) (hmx:a9 w OK g vm am) (he:fg i.size A alo ah am a=some r):cT P w OK g (Instr.slice t v lo (some vh) (some vm)) r:=by
 unfold fg at he
 split at he
 rotate_left
 ·cases he
 rename_i k n k' n'
 simp only [Sw] at he
 obtain ⟨rfl,he⟩:=he
 obtain rfl:=hhi.inv_int
 obtain rfl:=hmx.inv_int
 have fin:∀ {p:Option Addr} {len cap l hh:Nat} {u:Value},len<=cap->eF len alo (some (.int k n))=some (l,hh)->v=.slice p len cap->(Instr.slice t (.slice p n.toNat n.toNat) lo (some (.int k n)) none).run P w=.ok u w->(Instr.slice t v lo (some (.int k n)) (some (.int k' n))).run P w=.ok u w:=by
  intro p len cap l hh u hcap hb hv h1
  obtain ⟨g1,g2,g3,g4,g5,g6⟩:=jI hb
  rw [hv]
  refine I3 ht hi' g1 g2 hcap ?_ h1
  rcases u9 hlo g5 with ⟨e1,_⟩ | ⟨k1,n1,e1,e2,e3⟩
  ·exact .inl e1
  ·exact .inr ⟨k1,n1,e1,e2,by omega⟩
 split at he
 ·rename_i id off len hs
  injection he with he; subst he
  unfold cB at hs
  split at hs
  ·rename_i id0 off0 len0
   split at hs
   ·rename_i s gr es hid
    simp only [Sw,SE,UR] at hs
    obtain ⟨rfl,l,h',hb,e0⟩:=hs
    injection e0 with e1 e2 e3
    subst e1; subst e2; subst e3
    obtain ⟨inc,cap,ao,hinc,rfl,hl,hn,hcap,ha⟩:=h.inv_sl
    obtain ⟨hlt',hrow⟩:=Sp.1 hid
    have hent:=hA.ent id0 hlt'
    rw [hrow] at hent
    obtain ⟨hesz,_⟩:=hent.2 inc hinc
    obtain ⟨g1,g2,g3,g4,g5,g6⟩:=jI hb
    obtain ⟨h1,h2,h3⟩:=ex (P:=P) (sl:=true) hlo (show DQ w OK g (some (.int k n)) (some (.int k n)) from .int _ _ _) (SK n.toNat) g6
    by_cases hc:n.toNat=l
    ·refine ⟨.slice (some ⟨inc.b,ao,none⟩) (h'-l) (h'-l),fin hl hb rfl ?_,.csl _ id0 _ _ _ inc hinc (by omega) (by omega) (fun h0=>absurd (by omega) h0)⟩
     simp only [Instr.slice,Sem.run_bind,ay ht,Result.andThen_ok,h1,ba hi',SA hc,g3]; rfl
    ·refine ⟨.slice (some ⟨inc.b,ao+l*i.size,none⟩) (h'-l) (h'-l),fin hl hb rfl ?_,.csl _ id0 _ _ _ inc hinc (by omega) (by omega) (fun h0=>by rw [ha (by omega),hesz,SP]; omega)⟩
     simp only [Instr.slice,Sem.run_bind,ay ht,Result.andThen_ok,h1,ba hi',SD hc,Th,di,g3]; rfl
   ·cases hs
  ·simp only [Sw,SE,UR] at hs
   obtain ⟨_,_,_,_,e0⟩:=hs
   cases e0
  ·simp only [SE,UR] at hs
   obtain ⟨_,_,_,e0⟩:=hs
   cases e0
  ·cases hs
 ·rename_i hs
  injection he with he; subst he
  unfold cB at hs
  split at hs
  ·split at hs
   ·simp only [Sw,SE,UR] at hs
    obtain ⟨_,_,_,_,e0⟩:=hs
    cases e0
   ·cases hs
  ·simp only [Sw,SE,UR] at hs
   obtain ⟨_,_,_,_,e0⟩:=hs
   cases e0
  ·simp only [SE,UR] at hs
   obtain ⟨l,h',hb,_⟩:=hs
   obtain ⟨p0,rfl⟩:=h.inv_nilS
   obtain ⟨g1,g2,g3,g4,g5,g6⟩:=jI hb
   have hn0:n.toNat=0:=by omega
   have hn1:n=0:=by omega
   obtain ⟨h1,h2,h3⟩:=ex (P:=P) (sl:=true) hlo (show DQ w OK g (some (.int k n)) (some (.int k n)) from .int _ _ _) (SK n.toNat) g6
   refine ⟨.slice p0 0 0,fin (SK _) hb rfl ?_,.nilS _ _⟩
   have hl0:l=0:=by omega
   have hh0:h'=0:=by omega
   subst hl0; subst hh0
   rw [hn0] at h1 ⊢
   simp only [Instr.slice,Sem.run_bind,ay ht,Result.andThen_ok,h1,ba hi',TS]; rfl
  ·cases hs
 ·cases he
def EN:AV->Option AV
 | .str s=>some (.int .i64 s.length)
 | _=>none
def aj:AV->Option AV
 | .fs _ es=>some (.int .i64 es.length)
 | .sl _ _ len=>some (.int .i64 len)
 | .nilS=>some (.int .i64 0)
 | _=>none
theorem ud {t':TypeId} {a r:AV} (ht:P.underlying t=some (.slice e)) (h:a9 w OK g v a) (he:aj a=some r):cT P w OK g (Builtin.len_ #[t] t' #[v]) r:=by
 unfold aj at he
 split at he
 ·obtain ⟨b,o,cap,T,c,fz,vals,rfl,_⟩:=h.inv_fs
  injection he with he; subst he
  exact ⟨_,by simp [Builtin.len_,ay ht,goInt],.int _ _ _⟩
 ·obtain ⟨inc,cap,ao,hinc,rfl,_⟩:=h.inv_sl
  injection he with he; subst he
  exact ⟨_,by simp [Builtin.len_,ay ht,goInt],.int _ _ _⟩
 ·obtain ⟨p0,rfl⟩:=h.inv_nilS
  injection he with he; subst he
  exact ⟨_,by simp [Builtin.len_,ay ht,goInt],.int _ _ _⟩
 ·cases he
def gf (isMax:Bool):AV->AV->Option AV
 | .int k x,.int _ y=>some (.int k (if isMax then (if y > x then y else x) else (if y<x then y else x)))
 | _,_=>none
def dy (isMax:Bool):AV->List AV->Option AV
 | a,[]=>some a
 | a,b :: r=>match gf isMax a b with
  | some c=>dy isMax c r
  | none=>none
theorem jG {isMax:Bool}:∀(vs:List Value) (as':List AV) (v:Value) (a r:AV),vs.length=as'.length->(∀i (h:i<as'.length) (h':i<vs.length),a9 w OK g vs[i] as'[i])->a9 w OK g v a->dy isMax a as'=some r ->
  ∃x,(vs.foldlM (if isMax then Builtin.max2 else Builtin.min2) v).run P w=.ok x w/\a9 w OK g x r
 | [],[],v,a,r,_,_,h,he=>by injection he with he; subst he; exact ⟨v,rfl,h⟩
 | [],_ :: _,_,_,_,hl,_,_,_=>by simp at hl
 | _ :: _,[],_,_,_,hl,_,_,_=>by simp at hl
 | u :: vs,b :: as',v,a,r,hl,hr,h,he=>by
  have hu:a9 w OK g u b:=hr 0 (by simp) (by simp)
  unfold dy at he
  split at he
  ·rename_i c hc
   unfold gf at hc
   split at hc
   ·injection hc with hc; subst hc
    obtain rfl:=h.inv_int
    obtain rfl:=hu.inv_int
    obtain ⟨x,h1,h2⟩:=jG vs as' _ _ r (by simpa using hl) (fun i h h'=>hr (i+1) (by simp; omega) (by simp; omega)) (.int g _ _) he
    refine ⟨x,?_,h2⟩
    cases isMax <;> simpa [Builtin.max2,Builtin.min2] using h1
   ·cases hc
  ·cases he
def kg:AV->Option AV
 | .ptr id i o=>some (.ptr id i o)
 | .fp cs=>some (.fp cs)
 | _=>none
end
section
variable {P:Program} {w:World} {OK:Nat->Prop} {g:aC} {A:ac}
def z7 (P:Program) (w:World) (OK:Nat->Prop) (g:aC) (s:Sem Value) (r:AV) (A':ac):Prop:=
 ∃v w' g',s.run P w=.ok v w'/\a9 w' OK g' v r/\cM w' OK g' A'/\Ext w OK g w' OK g'
theorem cT.does {s:Sem Value} {r:AV} (h:cT P w OK g s r) (hA:cM w OK g A):z7 P w OK g s r A:=by
 obtain ⟨v,h1,h2⟩:=h
 exact ⟨v,w,g,h1,h2,hA,Ext.refl _ _ _⟩
theorem cM.pushRow (hA:cM w OK g A) {w':World} (c:Array Value) (T:TypeId) (fz:Nat × Nat) (hh:w'.heap=w.heap.push (.cells c T fz)) (ho:w'.os=w.os) (ht:w'.tape=w.tape) (hp:w'.output=w.output)
  (hu:fG c fz) (esz cap:Nat) (gr:Bool) (es:List AV) (hcap:es.length<=cap) (hsz:cap*esz<=c.size)
  (hel:∀i (h:i<es.length),cI w OK g c (i*esz) esz es[i]) :
  cM w' OK (g.push A.length ⟨w.heap.size,0,es.length,cap,esz⟩) (A++[.row esz gr es])/\Ext w OK g w' OK (g.push A.length ⟨w.heap.size,0,es.length,cap,esz⟩):=by
 refine hA.push (.cells c T fz) hh ho ht hp (.row esz gr es) ⟨w.heap.size,0,es.length,cap,esz⟩ rfl (fun g' hg hb hn=>?_)
 refine ⟨fun _=>⟨by simp,by simp⟩,fun inc hi=>?_⟩
 simp at hi; subst hi
 refine ⟨rfl,SK _,hcap,c,T,fz,hn,hu,by simpa using hsz,fun i hi _=>?_⟩
 have:=(hel i hi).mono (w':=w') (OK':=OK) (g':=g') (fun _ h=>h) (fun b hb'=>hb b (hA.ok b hb')) hg
 simpa using this
theorem aC.push_self (g:aC) (n:Nat) (inc:Inc):inc∈g.push n inc n:=by simp [aC.push]
theorem cV (c:Array Value):fG c (0,0):=fun j _=>by simp
def aR (size:Nat) (a:AV) (A:ac):Option (AV × ac):=
 if 0<size/\a.solid=true/\(cellsOf a).length=size then some (.ptr A.length 0 0,A++[.row size false [a]]) else none
theorem qV {a r:AV} {A':ac} (hA:cM w OK g A) (h:a9 w OK g v a) (he:aR size a A=some (r,A')):z7 P w OK g (Instr.box t v) r A':=by
 unfold aR at he
 simp only [Sw,Sx,SH] at he
 obtain ⟨⟨hpos,hsol,hlen⟩,rfl,rfl⟩:=he
 obtain ⟨h1,h2,_⟩:=h.cells hsol
 obtain ⟨k1,k2⟩:=hA.pushRow (w':={w with heap:=w.heap.push (.cells v.cells t (0,0))}) v.cells t (0,0) rfl rfl rfl rfl (cV _) size 1 false [a] (by simp) (by omega)
  (fun i hi=>by
   simp at hi; subst hi
   exact ⟨v,h,by omega,h2,fun j hj=>by simp⟩)
 refine ⟨.pointer (some ⟨w.heap.size,0,none⟩),_,_,?_,?_,k1,k2⟩
 ·simp [Instr.box,newVar,newRow]
 ·exact .ptr _ _ 0 0 _ _ (aC.push_self _ _ _) (by simp) hpos (by simp)
theorem uf {t:TypeId} {a r:AV} {A':ac} {old:Value} (hi:P.info? t=some i) (hz:i.zero=some z) (hA:cM w OK g A) (h:a9 w OK g z a) (he:aR i.size a A=some (r,A')) :
  z7 P w OK g (Instr.alloc t true old) r A':=by
 obtain ⟨v,w',g',h1,h2,h3,h4⟩:=qV (P:=P) (t:=t) hA h he
 refine ⟨v,w',g',?_,h2,h3,h4⟩
 simpa [Instr.alloc,Instr.box,cz hi hz] using h1
def kh (zs:List AV) (A:ac):Option (AV × ac):=
 if 0<zs.length then some (.ptr A.length 0 0,A++[.row 1 false zs]) else none
theorem oK (h:v.oneCell'=true):v.cells=#[v]:=by
 cases v <;> simp_all [Value.oneCell',Value.cells]
theorem rQ {zs:List AV} {r:AV} {A':ac} {old:Value} {vs:Array Value} (hi:P.info? t=some i) (hz:i.zero=some (.agg vs)) (hl:vs.size=zs.length)
  (hv:∀k (h1:k<vs.size) (h2:k<zs.length),a9 w OK g vs[k] zs[k]/\(vs[k]).oneCell'=true) (hA:cM w OK g A) (he:kh zs A=some (r,A')):z7 P w OK g (Instr.alloc t true old) r A':=by
 unfold kh at he
 simp only [Sw,Sx,SH] at he
 obtain ⟨hpos,rfl,rfl⟩:=he
 obtain ⟨k1,k2⟩:=hA.pushRow (w':={w with heap:=w.heap.push (.cells vs t (0,0))}) vs t (0,0) rfl rfl rfl rfl (cV _) 1 zs.length false zs (SK _) (by omega)
  (fun k hk=>by
   obtain ⟨h1,h2⟩:=hv k (by omega) hk
   have hc:=oK h2
   refine ⟨vs[k]'(by omega),h1,by rw [hc]; rfl,fun y hy=>by rw [hc] at hy; simp at hy; rw [hy]; exact h2,fun j hj=>?_⟩
   obtain rfl:j=0:=by omega
   rw [hc,Nat.mul_one,Ts,S0 (by omega)]; rfl)
 refine ⟨.pointer (some ⟨w.heap.size,0,none⟩),_,_,?_,?_,k1,k2⟩
 ·simp [Instr.alloc,cz hi hz,newVar,newRow,Value.cells]
 ·exact .ptr _ _ 0 0 _ _ (aC.push_self _ _ _) (by simpa using hpos) (by simp) (by simp)
def bY (esz bytes:Nat) (z:AV) (A:ac):AV->AV->Option (AV × ac)
 | .int _ l,.int _ c=>
  if 0<=l/\l<=c/\c<=9223372036854775807/\bytes*c<=281474976710656/\z.solid=true/\(cellsOf z).length=esz/\0<esz then
   some (.sl A.length 0 l.toNat,A++[.row esz false (List.replicate l.toNat z)])
  else none
 | _,_=>none
theorem tB {n:Int} (h0 : -9223372036854775808<=n) (h1:n<=9223372036854775807):IntKind.i64.wrap n=n:=by
 simp only [IntKind.wrap,IntKind.bits,IntKind.signed,Bool.true_and,S6,ge_iff_le]
 split <;> omega
theorem vE {a1 a2 za r:AV} {A':ac} (ht:P.underlying t=some (.slice e)) (hi:P.info? e=some i) (hz:i.zero=some z) (hzs:z.cells.size=i.size) (hA:cM w OK g A) (h:a9 w OK g z za)
  (h1:a9 w OK g v1 a1) (h2:a9 w OK g v2 a2) (he:bY i.size i.bytes za A a1 a2=some (r,A')):z7 P w OK g (Instr.makeSlice t v1 v2) r A':=by
 unfold bY at he
 split at he
 ·rename_i k1 l k2 c
  obtain rfl:=h1.inv_int
  obtain rfl:=h2.inv_int
  simp only [Sw,Sx,SH] at he
  obtain ⟨⟨hl,hlc,hc,hb,hsol,hlen,hpos⟩,rfl,rfl⟩:=he
  obtain ⟨hcs,hok,_⟩:=h.cells hsol
  let C:Array Value:=(Array.range (c.toNat*i.size)).map (z.cells[· % z.cells.size]!)
  have hCs:C.size=c.toNat*i.size:=by simp [C]
  obtain ⟨q1,q2⟩:=hA.pushRow (w':={w with heap:=w.heap.push (.cells C e (0,0))}) C e (0,0) rfl rfl rfl rfl (cV _) i.size c.toNat false (List.replicate l.toNat za) (by simp; omega) (by omega)
   (fun k hk=>by
    simp only [List.length_replicate] at hk
    simp only [List.getElem_replicate]
    refine ⟨z,h,hzs,hok,fun j hj=>?_⟩
    have hlt:k*i.size+j<c.toNat*i.size:=by
     have:(k+1)*i.size<=c.toNat*i.size:=ST _ (by omega)
     rw [SP] at this; omega
    have hmod:(k*i.size+j) % z.cells.size=j:=by rw [hzs,Nat.add_comm,Nat.add_mul_mod_self_right,Nat.mod_eq_of_lt hj]
    simp only [C]
    rw [Array.getElem?_map,S0 (by simpa using hlt)]
    have hj':j % i.size=j:=Nat.mod_eq_of_lt hj
    simp [hj',hzs,hj])
  refine ⟨.slice (some ⟨w.heap.size,0,none⟩) l.toNat c.toNat,_,_,?_,?_,q1,q2⟩
  ·have e1:IntKind.i64.wrap l=l:=tB (by omega) (by omega)
   have e2:IntKind.i64.wrap c=c:=tB (by omega) (by omega)
   have e3:¬ (c<0):=by omega
   have e4:¬ (281474976710656<(i.bytes:Int)*c):=by omega
   have e5:¬ (l<0):=by omega
   have e6:¬ (c<l):=by omega
   by_cases hz0:c.toNat*i.size=0
   ·have hC:C=#[]:=by simp [C,hz0]
    have hc0:c.toNat=0:=(Nat.mul_eq_zero.1 hz0).resolve_right (by omega)
    obtain rfl:c=0:=by omega
    obtain rfl:l=0:=by omega
    simp [Instr.makeSlice,ay ht,asInt,asIntOf,eU hi,e1,ba hi,newRow,hC]
    congr 2
    apply Array.ext <;> simp
   ·have:¬ (c.toNat=0\/i.size=0):=fun h=>hz0 (Nat.mul_eq_zero.2 h)
    simp [Instr.makeSlice,ay ht,asInt,asIntOf,eU hi,e1,e2,e3,e4,e5,e6,ba hi,cz hi hz,newRow,C]
    exact fun h=>absurd h hz0
  ·have:l.toNat=(List.replicate l.toNat za).length:=by simp
   exact .sl _ _ 0 _ _ _ _ (aC.push_self _ _ _) (by omega) (by simp) (by simp) (fun _=>by simp)
 ·cases he
theorem t8 (vs:List Value) (off:Nat):∀(k:Nat) (cells:Array Value) (p:Nat),
  ((vs.zipIdx k).foldl (fun cs x=>cs.setIfInBounds (off+x.2) x.1) cells)[p]?=if off+k<=p/\p<off+k+vs.length/\p<cells.size then vs[p-off-k]? else cells[p]?:=by
 induction vs with
 | nil=>intro k cells p; simp; omega
 | cons v vs ih=>
  intro k cells p
  simp only [List.zipIdx_cons,Ta,ih,Array.size_setIfInBounds,Tn]
  by_cases h1:off+(k+1)<=p/\p<off+(k+1)+vs.length/\p<cells.size
  ·have h2:off+k<=p/\p<off+k+(vs.length+1)/\p<cells.size:=by omega
   rw [SA h1,SA h2]
   have:p-off-k=(p-off-(k+1))+1:=by omega
   rw [this,T6]
  ·rw [SD h1]
   by_cases h2:off+k=p/\p<cells.size
   ·have h3:off+k<=p/\p<off+k+(vs.length+1)/\p<cells.size:=by omega
    rw [SA h3]
    have:p-off-k=0:=by omega
    rw [this,Tp,h2.1,TZ h2.2]
   ·have h3:¬ (off+k<=p/\p<off+k+(vs.length+1)/\p<cells.size):=by omega
    rw [SD h3]
    by_cases h4:off+k=p
    ·have h5:¬ p<cells.size:=by omega
     rw [UO (by simp; omega),UO (by omega)]
    ·rw [Tz h4]
theorem qG (v:Value) (off:Nat) (cells:Array Value) (h:off+v.cells.size<=cells.size) :
  v.cells.zipIdx.foldl (fun cs x=>cs.setIfInBounds (off+x.2) x.1) cells=splice cells off v.cells.toList:=by
 have e:v.cells.zipIdx.foldl (fun cs x=>cs.setIfInBounds (off+x.2) x.1) cells=(v.cells.toList.zipIdx 0).foldl (fun cs x=>cs.setIfInBounds (off+x.2) x.1) cells:=by
  rw [<-Array.foldl_toList]; simp
 rw [e]
 apply Array.ext_getElem?
 intro p
 rw [t8]
 by_cases h1:off+0<=p/\p<off+0+v.cells.toList.length/\p<cells.size
 ·rw [SA h1]
  have:=dw cells off v.cells.toList (by simpa using h) (p-off) (by simp at h1 ⊢; omega)
  rw [show off+(p-off)=p by omega] at this
  rw [this]; simp
 ·rw [SD h1]
  by_cases h2:p<cells.size
  ·rw [splice_out cells off v.cells.toList (by simpa using h) p (by simp at h1 ⊢; omega)]
  ·rw [UO (by omega),UO (by rw [cE _ _ _ (by simpa using h)]; omega)]
def fu (w:World) (OK:Nat->Prop) (g:aC) (cells:Array Value) (cs:List AV):Prop:=
 cells.size=cs.length/\∀i (h:i<cs.length),∃x,cells[i]?=some x/\x.oneCell'=true/\a9 w OK g x cs[i]
theorem fu.agg {cells:Array Value} {cs:List AV} (h:fu w OK g cells cs):a9 w OK g (.agg cells) (.agg cs):=by
 refine .agg _ _ _ h.1 (fun i=>(cells[i]?).getD undef) (fun i hi=>?_) (fun i hi=>?_)
 ·obtain ⟨x,h1,h2,h3⟩:=h.2 i hi
  simp only [h1,S9]; exact ⟨trivial,h2⟩
 ·obtain ⟨x,h1,h2,h3⟩:=h.2 i hi
  simp only [h1,S9]; exact h3
theorem fu.splice {cells:Array Value} {cs:List AV} (h:fu w OK g cells cs) {a:AV} (hv:a9 w OK g v a) (hs:a.solid=true) (off:Nat) (hl:off+(cellsOf a).length<=cs.length) :
  fu w OK g (splice cells off v.cells.toList) (cs.take off++cellsOf a++cs.drop (off+(cellsOf a).length)):=by
 obtain ⟨h1,_,h3⟩:=hv.cells hs
 have hlen:v.cells.toList.length=(cellsOf a).length:=by simpa using h1
 have hle:off+v.cells.toList.length<=cells.size:=by rw [hlen,h.1]; exact hl
 refine ⟨by rw [cE _ _ _ hle,h.1]; simp; omega,fun i hi=>?_⟩
 have hi':i<cs.length:=by simp at hi; omega
 by_cases c1:i<off
 ·rw [splice_out _ _ _ hle i (.inl c1)]
  have:(cs.take off++cellsOf a++cs.drop (off+(cellsOf a).length))[i]=cs[i]:=by
   rw [SS (by simp; omega),SS (by simp; omega)]; simp
  rw [this]; exact h.2 i hi'
 ·by_cases c2:i<off+(cellsOf a).length
  ·have e:=dw cells off v.cells.toList hle (i-off) (by omega)
   rw [show off+(i-off)=i by omega] at e
   have:(cs.take off++cellsOf a++cs.drop (off+(cellsOf a).length))[i]=(cellsOf a)[i-off]:=by
    rw [SS (by simp; omega),Td (by simp; omega)]
    congr 1; simp; omega
   rw [e,this]
   obtain ⟨x,a1,a2,a3⟩:=h3 (i-off) (by omega)
   exact ⟨x,by simpa using a1,a2,a3⟩
  ·rw [splice_out _ _ _ hle i (.inr (by omega))]
   have:(cs.take off++cellsOf a++cs.drop (off+(cellsOf a).length))[i]=cs[i]:=by
    rw [Td (by simp; omega),Tv]
    congr 1; simp; omega
   rw [this]; exact h.2 i hi'
def mT (cs:List AV):List (Nat × Nat × AV)->Option (List AV)
 | []=>some cs
 | (off,size,a) :: rest=>if a.solid=true/\(cellsOf a).length=size/\off+size<=cs.length then mT (cs.take off++cellsOf a++cs.drop (off+size)) rest else none
def nk (w:World) (OK:Nat->Prop) (g:aC) (place:Nat->Option (Nat × Nat)):List (Nat × Value)->List (Nat × Nat × AV)->Prop
 | [],[]=>True
 | (i,v) :: vs,(off,size,a) :: as'=>place i=some (off,size)/\a9 w OK g v a/\nk w OK g place vs as'
 | _,_=>False
theorem lh {place:Nat->Option (Nat × Nat)}:∀(vs:List (Nat × Value)) (as':List (Nat × Nat × AV)) (cells:Array Value) (cs r:List AV),nk w OK g place vs as'->fu w OK g cells cs->mT cs as'=some r ->
  ∃out,Instr.fill place cells vs=some out/\fu w OK g out r
 | [],[],cells,cs,r,_,h,he=>by injection he with he; subst he; exact ⟨cells,rfl,h⟩
 | [],_ :: _,_,_,_,hp,_,_=>hp.elim
 | _ :: _,[],_,_,_,hp,_,_=>hp.elim
 | (i,v) :: vs,(off,size,a) :: as',cells,cs,r,hp,h,he=>by
  obtain ⟨hpl,hv,hp⟩:=hp
  unfold mT at he
  simp only [Sw] at he
  obtain ⟨⟨hsol,hlen,hle⟩,he⟩:=he
  have hsz:v.cells.size=size:=by rw [(hv.cells hsol).1,hlen]
  have hle2:off+v.cells.size<=cells.size:=by rw [hsz,h.1]; exact hle
  have hs:=h.splice hv hsol off (by omega)
  rw [hlen] at hs
  obtain ⟨out,h1,h2⟩:=lh vs as' _ _ r hp hs he
  refine ⟨out,?_,h2⟩
  have c1:(decide (v.cells.size≠size) || decide (off+v.cells.size > cells.size))=false:=by simp; omega
  unfold Instr.fill
  rw [hpl]
  simp only [c1,SZ,Uc]
  rw [qG v off cells hle2]
  exact h1
theorem lw {zs:List AV} {fields:Array Field} {parts:Array (Nat × Value)} {as':List (Nat × Nat × AV)} {r:List AV} (ht:P.underlying t=some (.struct fields)) (hi:P.info? t=some i) (hz:i.zero=some z)
  (hzs:fu w OK g z.cells zs) (places:Array (Nat × Nat)) (hpl:∀w:World,(fields.mapM fun f=>do pure (f.offset,<-sizeOf f.type):Sem (Array (Nat × Nat))).run P w=.ok places w) (hp:nk w OK g (places[·]?) parts.toList as') (he:mT zs as'=some r) :
  cT P w OK g (Instr.build t parts) (.agg r):=by
 obtain ⟨out,h1,h2⟩:=lh _ _ _ _ _ hp hzs he
 refine ⟨.agg out,?_,h2.agg⟩
 simp only [Instr.build,Sem.run_bind,cz hi hz,Result.andThen_ok,ay ht,hpl,h1,Sem.run_pure]
theorem oX {ie:TypeInfo} {zs:List AV} {parts:Array (Nat × Value)} {as':List (Nat × Nat × AV)} {r:List AV} (ht:P.underlying t=some (.array n elem)) (hi:P.info? t=some i) (hz:i.zero=some z) (hie:P.info? elem=some ie)
  (hzs:fu w OK g z.cells zs) (hp:nk w OK g (fun i=>some (i*ie.size,ie.size)) parts.toList as') (he:mT zs as'=some r) :
  cT P w OK g (Instr.build t parts) (.agg r):=by
 obtain ⟨out,h1,h2⟩:=lh _ _ _ _ _ hp hzs he
 refine ⟨.agg out,?_,h2.agg⟩
 simp only [Instr.build,Sem.run_bind,cz hi hz,Result.andThen_ok,ay ht,ba hie,h1,Sem.run_pure]
theorem ua:∀(vs:List Value) (k:Nat) (cells:Array Value),(∀v∈vs,v.cells.size=size)->(k+vs.length)*size<=cells.size ->
  ∃out,Instr.fill (fun i=>some (i*size,size)) cells ((vs.zipIdx k).map fun x=>(x.2,x.1))=some out/\out.size=cells.size /\
   (∀p,p<k*size->out[p]?=cells[p]?)/\∀i (h:i<vs.length) j,j<size->out[(k+i)*size+j]?=(vs[i]).cells[j]?
 | [],k,cells,_,_=>⟨cells,rfl,rfl,fun _ _=>rfl,fun i h=>by simp at h⟩
 | v :: vs,k,cells,hsz,hl=>by
  have h0:v.cells.size=size:=hsz v (by simp)
  have hk:(k+(vs.length+1))*size=k*size+size+vs.length*size:=by rw [SP,SP,US]; omega
  have hle:k*size+v.cells.size<=cells.size:=by
   simp only [Tn] at hl; rw [hk] at hl; omega
  obtain ⟨out,h1,h2,h3,h4⟩:=ua vs (k+1) (splice cells (k*size) v.cells.toList) (fun x hx=>hsz x (by simp [hx])) (by
   rw [cE _ _ _ (by simpa using hle)]
   simp only [Tn] at hl
   rw [show k+1+vs.length=k+(vs.length+1) by omega]; exact hl)
  refine ⟨out,?_,by rw [h2,cE _ _ _ (by simpa using hle)],fun p hp=>?_,fun i hi j hj=>?_⟩
  ·have c1:(decide (v.cells.size≠size) || decide (k*size+v.cells.size > cells.size))=false:=by simp; omega
   rw [List.zipIdx_cons,Tw]
   unfold Instr.fill
   simp only [c1,SZ,Uc]
   rw [qG v (k*size) cells hle]
   exact h1
  ·rw [h3 p (by rw [SP]; omega),splice_out _ _ _ (by simpa using hle) p (.inl hp)]
  ·cases i with
   | zero=>
    rw [Ts,h3 _ (by rw [SP]; omega),dw _ _ _ (by simpa using hle) j (by simp; omega)]
    simp
   | succ i=>
    have:=h4 i (by simpa using hi) j hj
    rw [show k+1+i=k+(i+1) by omega] at this
    simpa using this
def bW (w:World) (OK:Nat->Prop) (g:aC):List Value->List AV->Prop
 | [],[]=>True
 | v :: vs,a :: as'=>a9 w OK g v a/\bW w OK g vs as'
 | _,_=>False
theorem bW.length {vs:List Value} {as':List AV} (h:bW w OK g vs as'):vs.length=as'.length:=by
 induction vs generalizing as' with
 | nil=>cases as' with
  | nil=>rfl
  | cons=>exact h.elim
 | cons v vs ih=>cases as' with
  | nil=>exact h.elim
  | cons a as'=>simp [ih h.2]
theorem bW.get {vs:List Value} {as':List AV} (h:bW w OK g vs as'):∀i (h1:i<vs.length) (h2:i<as'.length),a9 w OK g vs[i] as'[i]:=by
 induction vs generalizing as' with
 | nil=>intro i h1; simp at h1
 | cons v vs ih=>cases as' with
  | nil=>exact h.elim
  | cons a as'=>
   intro i h1 h2
   cases i with
   | zero=>exact h.1
   | succ i=>exact ih h.2 i (by simpa using h1) (by simpa using h2)
theorem bW.of_get {vs:List Value} {as':List AV} (hl:vs.length=as'.length) (h:∀i (h1:i<vs.length) (h2:i<as'.length),a9 w OK g vs[i] as'[i]):bW w OK g vs as':=by
 induction vs generalizing as' with
 | nil=>cases as' with
  | nil=>trivial
  | cons=>simp at hl
 | cons v vs ih=>cases as' with
  | nil=>simp at hl
  | cons a as'=>exact ⟨h 0 (by simp) (by simp),ih (by simpa using hl) (fun i h1 h2=>h (i+1) (by simp; omega) (by simp; omega))⟩
theorem bW.mono {g':aC} {vs:List Value} {as':List AV} (h:bW w OK g vs as') (hm:∀v a,a9 w OK g v a->a9 w' OK' g' v a):bW w' OK' g' vs as':=by
 induction vs generalizing as' with
 | nil=>cases as' with
  | nil=>trivial
  | cons=>exact h.elim
 | cons v vs ih=>cases as' with
  | nil=>exact h.elim
  | cons a as'=>exact ⟨hm _ _ h.1,ih h.2⟩
def aI (esz:Nat) (as':List AV) (A:ac):Option (AV × ac):=
 if 0<esz/\as'.length*esz<=16777216/\as'.all (fun a=>a.solid && (cellsOf a).length == esz)=true then some (.sl A.length 0 as'.length,A++[.row esz false as']) else none
theorem mZ {vs:List Value} {as':List AV} {r:AV} {A':ac} (ht:P.underlying t=some (.slice e)) (hi:P.info? e=some i) (hz:i.zero=some z) (hA:cM w OK g A) (h:bW w OK g vs as')
  (he:aI i.size as' A=some (r,A')):z7 P w OK g (Instr.buildSlice t vs.length ((vs.zipIdx.map fun x=>(x.2,x.1)).toArray)) r A':=by
 unfold aI at he
 simp only [Sw,Sx,SH] at he
 obtain ⟨⟨hpos,hbig,hall⟩,rfl,rfl⟩:=he
 have hlen:=h.length
 have hsol:∀k (hk:k<as'.length),as'[k].solid=true/\(cellsOf as'[k]).length=i.size:=fun k hk=>by
  have:=SV.1 hall _ (SC hk)
  simpa using this
 have hvs:∀v∈vs,v.cells.size=i.size:=fun v hv=>by
  obtain ⟨k,hk,rfl⟩:=List.getElem_of_mem hv
  have hr:=h.get k hk (by omega)
  rw [(hr.cells (hsol k (by omega)).1).1,(hsol k (by omega)).2]
 let zs:Array Value:=if vs.length*i.size=0 then #[] else z.cells
 let C0:Array Value:=(Array.range (vs.length*i.size)).map (zs[· % zs.size]!)
 obtain ⟨out,h1,h2,_,h4⟩:=ua (size:=i.size) vs 0 C0 hvs (by simp [C0])
 obtain ⟨q1,q2⟩:=hA.pushRow (w':={w with heap:=w.heap.push (.cells out e (0,0))}) out e (0,0) rfl rfl rfl rfl (cV _) i.size as'.length false as' (SK _) (by rw [h2]; simp [C0,hlen])
  (fun k hk=>by
   have hr:=h.get k (by omega) hk
   have hc:=hr.cells (hsol k hk).1
   exact ⟨vs[k]'(by omega),hr,hvs _ (SC _),hc.2.1,fun j hj=>by have:=h4 k (by omega) j hj; simpa using this⟩)
 refine ⟨.slice (some ⟨w.heap.size,0,none⟩) vs.length vs.length,_,_,?_,?_,q1,q2⟩
 ·have c1:¬ (16777216<vs.length*i.size):=by rw [hlen]; omega
  have c2:(vs.zipIdx.map fun x=>(x.2,x.1))=(vs.zipIdx 0).map fun x=>(x.2,x.1):=rfl
  rw [<-c2] at h1
  unfold Instr.buildSlice
  simp only [Sem.run_bind,ay ht,Result.andThen_ok,ba hi,gt_iff_lt,show ((2:Nat) ^ 24)=16777216 from rfl,c1,Uc]
  by_cases h0:vs.length*i.size=0
  ·have hz0:zs=#[]:=by simp [zs,h0]
   simp only [h0,TS,Sem.run_pure,Sem.run_bind,Result.andThen_ok]
   simp only [C0,hz0,h0] at h1
   rw [h1]
   simp [newRow]
  ·have hz0:zs=z.cells:=by simp only [zs,SD h0]
   simp only [h0,Uc,Sem.run_bind,cz hi hz,Result.andThen_ok,Sem.run_pure]
   simp only [C0,hz0] at h1
   rw [h1]
   simp [newRow]
 ·rw [hlen]
  exact .sl _ _ 0 _ _ _ _ (aC.push_self _ _ _) (SK _) (by simp) (by simp) (fun _=>by simp)
end
section
variable {P:Program} {w:World} {OK:Nat->Prop} {g:aC} {A:ac}
def bL (e:AV) (esz o:Nat) (a:AV):Option AV:=
 if o=0/\(cellsOf a).length=esz then some a
 else match e with
  | .agg cs=>if cs.length=esz/\o+(cellsOf a).length<=esz then some (.agg (cs.take o++cellsOf a++cs.drop (o+(cellsOf a).length))) else none
  | _=>none
def aA (size:Nat) (A:ac):AV->AV->Option ac
 | .ptr id i o,a=>
  match A[id]? with
  | some (.row esz gr es)=>
   match es[i]? with
   | some e=>
    if gr=false/\a.solid=true/\(cellsOf a).length=size/\0<size then
     match bL e esz o a with
     | some e'=>some (A.set id (.row esz false (es.set i e')))
     | none=>none
    else none
   | none=>none
  | _=>none
 | _,_=>none
theorem pO {c:Array Value} {e e' a:AV} (he:cI w OK g c p esz e) (hv:a9 w OK g v a) (hs:a.solid=true) (hp:p+esz<=c.size) (_hpos:0<(cellsOf a).length) (h:bL e esz o a=some e') (ho:o<esz) :
  o+v.cells.size<=esz/\cI w OK g (splice c (p+o) v.cells.toList) p esz e':=by
 obtain ⟨h1,h2,h3⟩:=hv.cells hs
 have hlen:v.cells.toList.length=(cellsOf a).length:=by simpa using h1
 unfold bL at h
 split at h
 ·rename_i hc
  obtain ⟨rfl,hsz⟩:=hc
  injection h with h; subst h
  refine ⟨by omega,v,hv,by omega,h2,fun j hj=>?_⟩
  rw [Ts,dw _ _ _ (by rw [hlen]; omega) j (by omega)]; simp
 ·split at h
  ·rename_i cs
   simp only [Sw,Sx] at h
   obtain ⟨⟨hcl,hle⟩,rfl⟩:=h
   obtain ⟨u,hu,hus,huok,huc⟩:=he
   obtain ⟨vs,vals,rfl,hl,hg,hvv⟩:=hu.inv_agg
   have hcr:fu w OK g vs cs:=⟨hl,fun i hi=>⟨vals i,(hg i hi).1,(hg i hi).2,hvv i hi⟩⟩
   have hsp:=hcr.splice hv hs o (by omega)
   have hvsz:vs.size=esz:=by simpa [Value.cells] using hus
   refine ⟨by omega,.agg (splice vs o v.cells.toList),hsp.agg,?_,?_,fun j hj=>?_⟩
   ·show (splice vs o v.cells.toList).size=esz
    rw [cE _ _ _ (by rw [hlen]; omega)]; exact hvsz
   ·intro x hx
    replace hx:x∈(splice vs o v.cells.toList).toList:=hx
    obtain ⟨k,hk,rfl⟩:=List.getElem_of_mem hx
    simp only [Tc] at hk
    obtain ⟨y,a1,a2,_⟩:=hsp.2 k (by rw [<-hsp.1]; exact hk)
    rw [S0 hk] at a1
    injection a1 with a1
    simp only [UF]
    rw [a1]; exact a2
   ·show (splice c (p+o) v.cells.toList)[p+j]?=(splice vs o v.cells.toList)[j]?
    by_cases c1:o<=j/\j<o+v.cells.toList.length
    ·have:=dw c (p+o) v.cells.toList (by rw [hlen]; omega) (j-o) (by omega)
     rw [show p+o+(j-o)=p+j by omega] at this
     have t2:=dw vs o v.cells.toList (by rw [hlen]; omega) (j-o) (by omega)
     rw [show o+(j-o)=j by omega] at t2
     rw [this,t2]
    ·rw [splice_out _ _ _ (by rw [hlen]; omega) (p+j) (by omega),splice_out _ _ _ (by rw [hlen]; omega) j (by omega)]
     simpa [Value.cells] using huc j hj
  ·cases h
theorem cI.splice_out {c:Array Value} {q:Nat} {e:AV} {vs:List Value} (h:cI w OK g c p esz e) (hl:q+vs.length<=c.size) (ha:p+esz<=q\/q+vs.length<=p):cI w OK g (splice c q vs) p esz e:=by
 obtain ⟨v,h1,h2,h3,h4⟩:=h
 exact ⟨v,h1,h2,h3,fun j hj=>by rw [Go.Proofs.YtkcjhljbgjpklaaGreat.splice_out _ _ _ hl (p+j) (by omega)]; exact h4 j hj⟩
theorem mV {a1 a2:AV} {A':ac} (hi:P.info? t=some i) (hA:cM w OK g A) (h1:a9 w OK g v1 a1) (h2:a9 w OK g v2 a2) (he:aA i.size A a1 a2=some A') :
  ∃w',(Instr.storeAt t v1 v2).run P w=.ok () w'/\cM w' OK g A'/\Ext w OK g w' OK g:=by
 unfold aA at he
 split at he
 ·rename_i id k o
  obtain ⟨inc,hinc,rfl,hn,ho⟩:=h1.inv_ptr
  split at he
  ·rename_i esz gr es hid
   split at he
   ·rename_i e hes
    split at he
    ·rename_i hc
     obtain ⟨rfl,hsol,hsz,hpos⟩:=hc
     split at he
     ·rename_i e' hst
      injection he with he; subst he
      obtain ⟨hlt',hrow⟩:=Sp.1 hid
      obtain ⟨hk,rfl⟩:=Sp.1 hes
      have hent:=hA.ent id hlt'
      rw [hrow] at hent
      obtain ⟨h0,hinv⟩:=hent
      obtain ⟨hone,hnn⟩:=h0 rfl
      obtain ⟨hesz,hne,hnc,c,T,fz,hh,hu,hcs,hel⟩:=hinv inc hinc
      obtain ⟨q1,q2,_⟩:=h2.cells hsol
      rw [hesz] at ho
      have hin:inc.o+k*esz+esz<=c.size:=by
       have:(k+1)*esz<=inc.cap*esz:=ST _ (by omega)
       rw [SP] at this; omega
      obtain ⟨r1,r2⟩:=pO (hel k hk hn) h2 hsol hin (by omega) hst ho
      have hvl:v2.cells.toList.length=v2.cells.size:=by simp
      have hrun:=cn P inc.b (inc.o+k*esz+o) T fz v2.cells.toList 0 c w hh hu (by rw [hvl]; omega) (fun x hx=>q2 x hx)
      have hsz2:v2.cells.size=i.size:=by omega
      have hdead:A[id]?≠some Ent.dead:=by rw [hid]; simp
      obtain ⟨s1,s2⟩:=hA.turn (w':=w.setRow inc.b (splice c (inc.o+k*esz+o) v2.cells.toList)) (g':=g) id hlt' hdead inc hinc (by simp) rfl rfl rfl (fun b hb=>setRow_other w inc.b b _ hb) (fun r hr _=>by rw [hh] at hr; cases hr) g.le_refl (fun _ _=>rfl) (fun i hi=>⟨i,hi,rfl⟩)
       (fun i i' hi hi' e=>(hA.one id id i i' hdead hdead hi hi' e).2) (.row esz false (es.set k e')) (fun hokb=>by
        have hm:∀ {v:Value} {a:AV},a9 w OK g v a->a9 (w.setRow inc.b (splice c (inc.o+k*esz+o) v2.cells.toList)) OK g v a:=fun h=>h.mono (fun _ h=>h) hokb g g.le_refl
        refine ⟨fun _=>⟨hone,fun x hx=>by simpa using hnn x hx⟩,fun x hx=>?_⟩
        obtain rfl:x=inc:=by
         match hgi:g id,hone,hx,hinc with
         | [],_,hx,_=>cases hx
         | [y],_,hx,hinc=>simp at hx hinc; rw [hx,hinc]
         | _ :: _ :: _,ho,_,_=>simp at ho
        refine ⟨hesz,by simpa using hne,hnc,_,T,fz,setRow_heap w x.b c _ T fz hh,ce hu _ _ (by rw [hvl]; omega),by rw [cE _ _ _ (by rw [hvl]; omega)]; exact hcs,fun j hj hjn=>?_⟩
        simp only [Ti] at hj
        by_cases e1:k=j
        ·subst e1
         simp only [Uy]
         obtain ⟨u,u1,u2,u3,u4⟩:=r2
         exact ⟨u,hm u1,u2,u3,u4⟩
        ·rw [Us e1]
         have hd:x.o+j*esz+esz<=x.o+k*esz\/x.o+k*esz+esz<=x.o+j*esz:=by
          rcases Nat.lt_or_gt_of_ne e1 with h | h
          ·have:(k+1)*esz<=j*esz:=ST _ h
           rw [SP] at this; omega
          ·have:(j+1)*esz<=k*esz:=ST _ h
           rw [SP] at this; omega
         obtain ⟨u,u1,u2,u3,u4⟩:=(hel j hj hjn).splice_out (q:=x.o+k*esz+o) (vs:=v2.cells.toList) (by rw [hvl]; omega) (by rw [hvl]; omega)
         exact ⟨u,hm u1,u2,u3,u4⟩) (fun _=>rfl)
      refine ⟨_,?_,s1,s2⟩
      rw [hesz]
      simp only [Instr.storeAt,Instr.sureAddr,storeVar,Sem.run_bind,Sem.run_pure,Result.andThen_ok,ba hi,hsz2,ne_eq,not_true,Uc]
      exact hrun
     ·cases he
    ·cases he
   ·cases he
  ·cases he
 ·cases he
def fJ (size:Nat) (A:ac) (p a:AV):Option ac:=
 match p with
 | .ptr id i o=>
  match A[id]? with
  | some (.row esz gr es)=>
   if esz=1/\size≠1 then
    if o=0/\gr=false/\a.solid=true/\(cellsOf a).length=size/\0<size/\i+size<=es.length then some (A.set id (.row 1 false (es.take i++cellsOf a++es.drop (i+size)))) else none
   else aA size A (.ptr id i o) a
  | _=>none
 | _=>none
theorem rG {a1 a2:AV} {A':ac} (hi:P.info? t=some i) (hA:cM w OK g A) (h1:a9 w OK g v1 a1) (h2:a9 w OK g v2 a2) (he:fJ i.size A a1 a2=some A') :
  ∃w',(Instr.storeAt t v1 v2).run P w=.ok () w'/\cM w' OK g A'/\Ext w OK g w' OK g:=by
 unfold fJ at he
 split at he
 ·rename_i id k o
  split at he
  ·rename_i esz gr es hid
   split at he
   ·rename_i he1
    obtain ⟨rfl,_⟩:=he1
    simp only [Sw,Sx] at he
    obtain ⟨⟨rfl,rfl,hsol,hsz,hpos,hle⟩,rfl⟩:=he
    obtain ⟨inc,hinc,rfl,hn,ho⟩:=h1.inv_ptr
    obtain ⟨hlt',hrow⟩:=Sp.1 hid
    have hent:=hA.ent id hlt'
    rw [hrow] at hent
    obtain ⟨h0,hinv⟩:=hent
    obtain ⟨hone,hnn⟩:=h0 rfl
    obtain ⟨hesz,hne,hnc,c,T,fz,hh,hu,hcs,hel⟩:=hinv inc hinc
    have hnn':=hnn inc hinc
    obtain ⟨q1,q2,q3⟩:=h2.cells hsol
    have hvl:v2.cells.toList.length=v2.cells.size:=by simp
    have hfit:inc.o+k+v2.cells.toList.length<=c.size:=by rw [hvl]; omega
    have hrun:=cn P inc.b (inc.o+k) T fz v2.cells.toList 0 c w hh hu (by rw [hvl]; omega) (fun x hx=>q2 x hx)
    have hsz2:v2.cells.size=i.size:=by omega
    have hdead:A[id]?≠some Ent.dead:=by rw [hid]; simp
    have hl2:(es.take k++cellsOf a2++es.drop (k+i.size)).length=es.length:=by simp; omega
    obtain ⟨s1,s2⟩:=hA.turn (w':=w.setRow inc.b (splice c (inc.o+k) v2.cells.toList)) (g':=g) id hlt' hdead inc hinc (by simp) rfl rfl rfl (fun b hb=>setRow_other w inc.b b _ hb) (fun r hr _=>by rw [hh] at hr; cases hr) g.le_refl (fun _ _=>rfl) (fun i hi=>⟨i,hi,rfl⟩)
     (fun i i' hi hi' e=>(hA.one id id i i' hdead hdead hi hi' e).2) (.row 1 false (es.take k++cellsOf a2++es.drop (k+i.size))) (fun hokb=>by
      refine ⟨fun _=>⟨hone,fun x hx=>by rw [hl2]; exact hnn x hx⟩,fun x hx=>?_⟩
      obtain rfl:x=inc:=by
       match hgi:g id,hone,hx,hinc with
       | [],_,hx,_=>cases hx
       | [y],_,hx,hinc=>simp at hx hinc; rw [hx,hinc]
       | _ :: _ :: _,ho,_,_=>simp at ho
      refine ⟨hesz,by rw [hl2]; exact hne,hnc,_,T,fz,setRow_heap w x.b c _ T fz hh,ce hu _ _ hfit,by rw [cE _ _ _ hfit]; exact hcs,fun j hj hjn=>?_⟩
      rw [hl2] at hj
      by_cases c1:j<k
      ·rw [SS (by simp; omega),SS (by simp; omega),TG]
       exact cI.mono (cI.splice_out (hel j hj hjn) hfit (.inl (by omega))) (fun _ h=>h) hokb g.le_refl
      ·by_cases c2:j<k+i.size
       ·rw [SS (by simp; omega),Td (by simp; omega)]
        have hto:(es.take k).length=k:=by simp; omega
        simp only [hto]
        obtain ⟨u,u1,u2,u3⟩:=q3 (j-k) (by omega)
        have ucs:=oK u2
        refine ⟨u,u3.mono (fun _ h=>h) hokb g g.le_refl,by rw [ucs]; rfl,fun y hy=>by rw [ucs] at hy; simp at hy; rw [hy]; exact u2,fun q hq=>?_⟩
        have e1:=dw c (x.o+k) v2.cells.toList hfit (j-k) (by rw [hvl]; omega)
        obtain rfl:q=0:=by omega
        rw [show x.o+j*1+0=x.o+k+(j-k) by omega,e1,ucs]
        simpa using u1
       ·rw [Td (by simp; omega),Tv]
        have hto:(es.take k++cellsOf a2).length=k+i.size:=by simp; omega
        simp only [hto,show k+i.size+(j-(k+i.size))=j by omega]
        exact cI.mono (cI.splice_out (hel j hj hjn) hfit (.inr (by rw [hvl]; omega))) (fun _ h=>h) hokb g.le_refl) (fun _=>rfl)
    refine ⟨_,?_,s1,s2⟩
    simp only [hesz,Nat.mul_one,Ts,Instr.storeAt,Instr.sureAddr,storeVar,Sem.run_bind,Sem.run_pure,Result.andThen_ok,ba hi,hsz2,ne_eq,not_true,Uc]
    rw [Ts] at hrun
    exact hrun
   ·exact mV hi hA h1 h2 he
  ·cases he
 ·cases he
end
section
variable {P:Program} {w:World} {OK:Nat->Prop} {g:aC} {A:ac}
def eG (w:World) (OK:Nat->Prop) (g:aC) (size:Nat) (cells:Array Value) (xs:List AV):Prop:=
 cells.size=xs.length*size/\∀i (h:i<xs.length),cI w OK g cells (i*size) size xs[i]
theorem eG.one {cells:Array Value} {xs:List AV} (h:eG w OK g size cells xs) (hs:0<size):∀u∈cells.toList,u.oneCell'=true:=by
 intro u hu
 obtain ⟨k,hk,rfl⟩:=List.getElem_of_mem hu
 simp only [Tc] at hk
 have hk':k<xs.length*size:=by rw [<-h.1]; exact hk
 have h1:k / size<xs.length:=(Nat.div_lt_iff_lt_mul hs).2 hk'
 obtain ⟨v,_,hv,hok,hc⟩:=h.2 (k / size) h1
 have h2:=hc (k % size) (Nat.mod_lt _ hs)
 rw [Vk,Nat.div_add_mod,S0 hk] at h2
 simp only [UF]
 exact hok _ (by rw [Array.mem_toList_iff]; exact Array.mem_of_getElem? h2.symm)
def a8 (esz:Nat) (A:ac):AV->Option (List AV)
 | .fs s es=>if s=esz then some es else none
 | .sl id off len=>match A[id]? with
  | some (.row s _ es)=>if s=esz then some ((es.drop off).take len) else none
  | _=>none
 | .nilS=>some []
 | .str l=>if esz=1 then some (l.map fun b=>.int .u8 b.toNat) else none
 | _=>none
theorem kZ {a:AV} {xs:List AV} (hA:cM w OK g A) (h:a9 w OK g v a) (he:a8 esz A a=some xs) (d:Nat) :
  (Builtin.lenOf v).run P {w with drawn:=d}=.ok xs.length {w with drawn:=d}:=by
 unfold a8 at he
 split at he
 ·simp only [Sw,Sx] at he
  obtain ⟨rfl,rfl⟩:=he
  obtain ⟨b,o,cap,T,c,fz,vals,rfl,_⟩:=h.inv_fs
  rfl
 ·rename_i id off len
  split at he
  ·rename_i s gr es hid
   simp only [Sw,Sx] at he
   obtain ⟨rfl,rfl⟩:=he
   obtain ⟨inc,cap,ao,hinc,rfl,hl,hn,hcap,ha⟩:=h.inv_sl
   obtain ⟨hlt',hrow⟩:=Sp.1 hid
   have hent:=hA.ent id hlt'
   rw [hrow] at hent
   obtain ⟨_,hne,_⟩:=hent.2 inc hinc
   have:((es.drop off).take len).length=len:=by simp; omega
   rw [this]; rfl
  ·cases he
 ·injection he with he; subst he
  obtain ⟨p0,rfl⟩:=h.inv_nilS
  rfl
 ·simp only [Sw,Sx] at he
  obtain ⟨rfl,rfl⟩:=he
  obtain ⟨s,rfl,hs⟩:=h.inv_str
  have:(s.size:Nat)=s.data.toList.length:=by rw [Tc]; rfl
  simp [Builtin.lenOf,this,hs]
 ·cases he
theorem dl {a:AV} {xs:List AV} (hA:cM w OK g A) (h:a9 w OK g v a) (he:a8 esz A a=some xs) (n:Nat) (hnl:n<=xs.length) :
  ∃cells,(∀d,(Builtin.firstCells esz n v).run P {w with drawn:=d}=.ok cells {w with drawn:=d})/\eG w OK g esz cells (xs.take n):=by
 have hloads:∀(b ao len cap T:Nat) (c:Array Value) (fz:Nat × Nat),w.heap[b]?=some (.cells c T fz)->ao+n*esz<=c.size ->
   ∀d,(Builtin.firstCells esz n (.slice (some ⟨b,ao,none⟩) len cap)).run P {w with drawn:=d}=.ok (c.extract ao (ao+n*esz)) {w with drawn:=d}:=by
  intro b ao len cap T c fz hh hle d
  have:=run_loadCells (P:=P) {w with drawn:=d} ⟨b,ao,none⟩ (n*esz) (fun j=>c.getD (ao+j) undef) (fun j hj=>by
   rw [di,jJ (w:={w with drawn:=d}) hh,S0 (by omega)]
   simp [Array.getD,show ao+j<c.size by omega])
  simp only [Builtin.firstCells,this]
  congr 1
  apply Array.ext
  ·simp; omega
  ·intro j h1 h2
   simp at h1
   simp [Array.getD,show ao+j<c.size by omega]
 have hex:∀(c:Array Value) (p k j:Nat),p+n*esz<=c.size->k<n->j<esz->(c.extract p (p+n*esz))[k*esz+j]?=c[p+k*esz+j]?:=by
  intro c p k j hle hk hj
  have hlt:k*esz+j<n*esz:=by
   have:(k+1)*esz<=n*esz:=ST _ hk
   rw [SP] at this; omega
  rw [Array.getElem?_extract,SA (by omega),Ux]
 unfold a8 at he
 split at he
 ·rename_i s es
  simp only [Sw,Sx] at he
  obtain ⟨rfl,rfl⟩:=he
  obtain ⟨b,o,cap,T,c,fz,vals,rfl,hb,hh,hcap,hv,hs,hc⟩:=h.inv_fs
  by_cases h0:n=0\/s=0
  ·refine ⟨#[],fun d=>?_,?_⟩
   ·have:n*s=0:=by rcases h0 with h0 | h0 <;> simp [h0]
    simp [Builtin.firstCells,this,loadCells,loadCellsFrom]
   ·rcases h0 with h0 | h0
    ·subst h0; exact ⟨by simp,fun i hi=>by simp at hi⟩
    ·subst h0
     refine ⟨by simp,fun i hi=>?_⟩
     simp at hi
     exact ⟨vals i,by simpa using (hv i (by omega)).none_to,by simpa using (hs i (by omega)).1,(hs i (by omega)).2,fun j hj=>by omega⟩
  ·have hle:o+n*s<=c.size:=by
    have h1:n-1<es.length:=by omega
    have h2:=hc (n-1) h1 (s-1) (by omega)
    have h3:(vals (n-1)).cells[s-1]?=some ((vals (n-1)).cells[s-1]'(by rw [(hs _ h1).1]; omega)):=by simp
    rw [h3] at h2
    have h4:=(Tg.1 h2).1
    have:(n-1)*s+s=n*s:=by rw [Nat.sub_mul,US]; have:=Nat.le_mul_of_pos_left s (show 0<n by omega); omega
    omega
   refine ⟨_,hloads b o _ cap T c fz hh hle,by rw [Array.size_extract,TM,Nat.min_eq_left hnl,Nat.min_eq_left hle]; omega,fun i hi=>?_⟩
   simp at hi
   refine ⟨vals i,by simpa using (hv i (by omega)).none_to,(hs i (by omega)).1,(hs i (by omega)).2,fun j hj=>?_⟩
   rw [hex c o i j hle (by omega) hj]; exact hc i (by omega) j hj
 ·rename_i id off len
  split at he
  ·rename_i s gr es hid
   simp only [Sw,Sx] at he
   obtain ⟨rfl,rfl⟩:=he
   obtain ⟨inc,cap,ao,hinc,rfl,hl,hn,hcap,ha⟩:=h.inv_sl
   obtain ⟨hlt',hrow⟩:=Sp.1 hid
   have hent:=hA.ent id hlt'
   rw [hrow] at hent
   obtain ⟨hesz,hne,hnc,c,T,fz,hh,hu,hcs,hel⟩:=hent.2 inc hinc
   have hlen:((es.drop off).take len).length=len:=by simp; omega
   rw [hlen] at hnl
   by_cases h0:n=0
   ·subst h0
    exact ⟨#[],fun d=>by simp [Builtin.firstCells,loadCells,loadCellsFrom],by simp,fun i hi=>by simp at hi⟩
   ·have hao:=ha (by omega)
    have hle:ao+n*s<=c.size:=by
     have:(off+n)*s<=inc.cap*s:=ST _ (by omega)
     rw [SP] at this
     rw [hao,hesz]; omega
    refine ⟨_,hloads _ ao _ cap T c fz hh hle,by rw [Array.size_extract,TM,hlen,Nat.min_eq_left hnl,Nat.min_eq_left hle]; omega,fun i hi=>?_⟩
    simp at hi
    obtain ⟨u,u1,u2,u3,u4⟩:=hel (off+i) (by omega) (by omega)
    refine ⟨u,by simpa using u1,u2,u3,fun j hj=>?_⟩
    rw [hex c ao i j hle (by omega) hj,<-u4 j hj,hao,hesz]
    congr 1; rw [SP]; omega
  ·cases he
 ·injection he with he; subst he
  obtain ⟨p0,rfl⟩:=h.inv_nilS
  obtain rfl:n=0:=by simpa using hnl
  exact ⟨#[],fun d=>by cases p0 <;> simp [Builtin.firstCells,loadCells,loadCellsFrom],by simp,fun i hi=>by simp at hi⟩
 ·rename_i l
  simp only [Sw,Sx] at he
  obtain ⟨rfl,rfl⟩:=he
  obtain ⟨s,rfl,hs⟩:=h.inv_str
  refine ⟨(s.extract 0 n).data.map fun b=>.int .u8 b.toNat,fun d=>by simp [Builtin.firstCells],?_,fun i hi=>?_⟩
  ·have:=Vc List.length (Lib.extract_data s 0 n)
   simp only [hs,Tc] at this
   simp only [Array.size_map,this]; simp
  ·simp at hi
   have hle:n<=l.length:=by simpa using hnl
   have e:=Lib.extract_data s 0 n
   rw [hs] at e
   have e2:(s.extract 0 n).data[i]?=some (l[i]'(by omega)):=by
    rw [<-Array.getElem?_toList,e]; simp [show i<n by omega,show i<l.length by omega]
   refine ⟨.int .u8 ((l[i]'(by omega)).toNat),by simpa using a9.int _ _ _,rfl,by simp [cY,Value.cells,Value.oneCell'],fun j hj=>?_⟩
   obtain rfl:j=0:=by omega
   simp only [Nat.mul_one,Ts,Array.getElem?_map,e2]
   rfl
 ·cases he
end
section
variable {P:Program} {w:World} {OK:Nat->Prop} {g:aC} {A:ac}
theorem gi {ao sLen sCap:Nat} {x:Value} {news:Array Value} (ht:P.underlying t=some (.slice e)) (hx:(∃e',P.underlying xt=some (.slice e'))\/P.underlying xt=some .string) (hi:P.info? e=some i)
  (hl:(Builtin.lenOf x).run P w=.ok n w) (hf:(Builtin.firstCells i.size n x).run P w=.ok news w) (hroom:sLen+n<=sCap) (hst:(storeCells ⟨b,ao+sLen*i.size,none⟩ news.toList).run P w=.ok () w') :
  (Builtin.append_ #[t,xt] ty #[.slice (some ⟨b,ao,none⟩) sLen sCap,x]).run P w=.ok (.slice (some ⟨b,ao,none⟩) (sLen+n) sCap) w':=by
 rcases hx with ⟨e',hx⟩ | hx <;> simp [Builtin.append_,ay ht,ay hx,ba hi,hl,hroom,hf,di,hst]
theorem ej {ty:TypeId} {base:Option Addr} {sLen sCap:Nat} {x:Value} {olds news:Array Value} (ht:P.underlying t=some (.slice e)) (hx:(∃e',P.underlying xt=some (.slice e'))\/P.underlying xt=some .string) (hi:P.info? e=some i) (hz:i.zero=some z)
  (hl:(Builtin.lenOf x).run P w=.ok n w) (hf:∀d,(Builtin.firstCells i.size n x).run P {w with drawn:=d}=.ok news {w with drawn:=d}) (hfo:∀d,(Builtin.firstCells i.size sLen (.slice base sLen sCap)).run P {w with drawn:=d}=.ok olds {w with drawn:=d})
  (hroom:sCap<sLen+n) (hb0:0<i.bytes) (hb:(sLen+n)*i.bytes<=140737488355328) :
  ∃k,sLen+n<=k/\(Builtin.append_ #[t,xt] ty #[.slice base sLen sCap,x]).run P w=.ok (.slice (some ⟨w.heap.size,0,none⟩) (sLen+n) k)
   {{w with drawn:=w.drawn+1} with heap:=w.heap.push (.cells (olds++news++Builtin.zeroCells z.cells (k-(sLen+n))) e)}:=by
 have h1:¬ (sLen+n<=sCap):=by omega
 have h2:sLen+n<=(sLen+n)*i.bytes:=Nat.le_mul_of_pos_right _ hb0
 have h3:¬ (9223372036854775807<((sLen:Int)+(n:Int))):=by omega
 have h4:¬ (281474976710656<Builtin.nextslicecap (sLen+n) sCap*i.bytes):=by
  have:=growslice_fits hroom hb; omega
 refine ⟨grownCap w (sLen+n) sCap e,grownCap_ge w _ _ e,?_⟩
 have hf':(Builtin.firstCells i.size n x).run P w.drew=.ok news w.drew:=hf (w.drawn+1)
 have hfo':(Builtin.firstCells i.size sLen (.slice base sLen sCap)).run P w.drew=.ok olds w.drew:=hfo (w.drawn+1)
 rcases hx with ⟨e',hx⟩ | hx <;> simp [Builtin.append_,ay ht,ay hx,ba hi,hl,h1,eU hi,h3,h4,Question.forced,cz hi hz,newRow,grownCap,hf',hfo'] <;> rfl
def aL (esz bytes:Nat) (A:ac) (s x:AV):Option (AV × ac):=
 match a8 esz A x with
 | none=>none
 | some xs=>
  match s with
  | .nilS=>if xs.length=0 then some (.nilS,A)
   else if 0<esz/\0<bytes/\xs.length*bytes<=140737488355328 then some (.sl A.length 0 xs.length,A++[.row esz false xs]) else none
  | .sl id off len=>
   match A[id]? with
   | some (.row s' _ es)=>
    if s'=esz/\0<esz/\0<bytes/\(len+xs.length)*bytes<=140737488355328 then
     if off=0/\len=es.length/\len≠0 then some (.sl id 0 (len+xs.length),A.set id (.row esz true (es++xs)))
     else some (.sl A.length 0 (len+xs.length),A.set id .dead++[.row esz false ((es.drop off).take len++xs)])
    else none
   | _=>none
  | _=>none
theorem eG.append {c1 c2:Array Value} {xs ys:List AV} (h1:eG w OK g size c1 xs) (h2:eG w OK g size c2 ys) (rest:Array Value) :
  ∀i (h:i<(xs++ys).length),cI w OK g (c1++c2++rest) (i*size) size (xs++ys)[i]:=by
 intro i hi
 simp only [SW] at hi
 by_cases hc:i<xs.length
 ·obtain ⟨v,a1,a2,a3,a4⟩:=h1.2 i hc
  rw [SS hc]
  refine ⟨v,a1,a2,a3,fun j hj=>?_⟩
  have hlt:i*size+j<c1.size:=by
   rw [h1.1]
   have:(i+1)*size<=xs.length*size:=ST _ hc
   rw [SP] at this; omega
  rw [Array.getElem?_append_left (by simp; omega),Array.getElem?_append_left hlt]
  exact a4 j hj
 ·rw [Td (by omega)]
  obtain ⟨v,a1,a2,a3,a4⟩:=h2.2 (i-xs.length) (by omega)
  refine ⟨v,a1,a2,a3,fun j hj=>?_⟩
  have e:i*size=c1.size+(i-xs.length)*size:=by
   rw [h1.1,<-SP]; congr 1; omega
  have hlt:(i-xs.length)*size+j<c2.size:=by
   rw [h2.1]
   have:(i-xs.length+1)*size<=ys.length*size:=ST _ (by omega)
   rw [SP] at this; omega
  rw [e,Ux,Array.getElem?_append_left (by simp; omega),Array.getElem?_append_right (by omega),Tm]
  exact a4 j hj
theorem cM.kill (hA:cM w OK g A) (id:Nat):cM w OK g (A.set id .dead) where
 ent k hk:=by
  by_cases e:id=k
  ·subst e; simp [rX]
  ·rw [Us e]; exact hA.ent k (by simpa using hk)
 out k hk:=hA.out k (by simpa using hk)
 one k k' i i' hd hd' hi hi' e:=by
  have hl:∀k:Nat,(A.set id Ent.dead)[k]?≠some Ent.dead->A[k]?≠some Ent.dead:=fun k hd=>by
   by_cases e2:id=k
   ·subst e2
    rw [List.getElem?_set] at hd
    split at hd
    ·split at hd
     ·exact absurd rfl hd
     ·rw [Tf (by omega)]; simp
    ·exact hd
   ·rwa [Sz e2] at hd
  exact hA.one k k' i i' (hl k hd) (hl k' hd') hi hi' e
 apart:=hA.apart
 low:=hA.low
 ok:=hA.ok
theorem cM.pushOld (hA:cM w OK g A) (id:Nat) (_hlt:id<A.length) (_hdead:A[id]?=some .dead) (inc inc':Inc) (hinc:inc∈g id) (hb:inc'.b=inc.b) (e:Ent)
  (hex:∀k i,A[k]?≠some .dead->i∈g k->i.b≠inc.b) (he:∀g':aC,g.le g'->rX w OK g' [inc'] e) :
  cM w OK (g.push A.length inc') (A++[e])/\g.le (g.push A.length inc'):=by
 have hgn:g A.length=[]:=hA.out _ (SK _)
 have hle:=g.push_le A.length inc' hgn
 refine ⟨⟨fun k hk=>?_,fun k hk=>?_,fun k k' i i' hd hd' hi hi' eb=>?_,fun k i hi ho=>?_,fun k i hi=>?_,hA.ok⟩,hle⟩
 ·by_cases e1:k=A.length
  ·subst e1
   simp only [aC.push,SA,List.getElem_concat_length]
   exact he _ hle
  ·have hlt:k<A.length:=by simp at hk; omega
   simp only [aC.push,SD e1,SS hlt]
   exact (hA.ent k hlt).mono (fun _ h=>h) (fun b hb=>rfl) hle (fun i hi=>rfl)
 ·simp at hk
  simp only [aC.push]
  rw [SD (by omega)]
  exact hA.out k (by omega)
 ·have hx:∀k,¬ k=A.length->∀i,i∈g k->(A++[e])[k]?=A[k]?:=fun k hk i hi=>by
   have:k<A.length:=by
    rcases UQ k A.length with h1 | h1
    ·exact h1
    ·rw [hA.out k h1] at hi; cases hi
   rw [Sy this]
  simp only [aC.push] at hi hi'
  split at hi <;> split at hi'
  ·simp at hi hi'; subst hi; subst hi'; simp_all
  ·rename_i h1 h2
   simp at hi; subst hi
   exact absurd (by rw [<-eb,hb]) (hex k' i' (by rw [<-hx _ h2 _ hi']; exact hd') hi')
  ·rename_i h1 h2
   simp at hi'; subst hi'
   exact absurd (by rw [eb,hb]) (hex k i (by rw [<-hx _ h1 _ hi]; exact hd) hi)
  ·rename_i h1 h2
   exact hA.one _ _ _ _ (by rw [<-hx _ h1 _ hi]; exact hd) (by rw [<-hx _ h2 _ hi']; exact hd') hi hi' eb
 ·simp only [aC.push] at hi
  split at hi
  ·simp at hi; subst hi; rw [hb] at ho; exact hA.apart id inc hinc ho
  ·exact hA.apart _ _ hi ho
 ·simp only [aC.push] at hi
  split at hi
  ·simp at hi; subst hi; rw [hb]; exact hA.low id inc hinc
  ·exact hA.low _ _ hi
end
section
variable {P:Program} {w:World} {OK:Nat->Prop} {g:aC} {A:ac}
def aC.grow (g:aC) (id:Nat) (inc:Inc) (n':Nat):aC:=fun k=>if k=id then (g id).map (fun i=>if i.b=inc.b then {i with n:=n'} else i) else g k
def aC.more (g:aC) (id:Nat) (inc:Inc):aC:=fun k=>if k=id then inc :: g id else g k
theorem aC.more_le (g:aC) (id:Nat) (inc:Inc):g.le (g.more id inc):=fun k i hi=>⟨i.n,SK _,by
 unfold aC.more
 split
 ·rename_i h; subst h; exact TE _ hi
 ·exact hi⟩
theorem cM.addInc (h:cM w OK g A) (o:Obj) (hh:w'.heap=w.heap.push o) (ho:w'.os=w.os) (ht:w'.tape=w.tape) (hp:w'.output=w.output)
  (id:Nat) (hid:id<A.length) (hlive:A[id]?≠some .dead) (e:Ent) (inc:Inc) (hb:inc.b=w.heap.size)
  (he:∀g':aC,g.le g'->(∀b,b<w.heap.size->w'.heap[b]?=w.heap[b]?)->w'.heap[w.heap.size]?=some o->rX w' OK g' (inc :: g id) e) (hfx:∀i,i∈g id->i.esz≠0) :
  cM w' OK (g.more id inc) (A.set id e)/\Ext w OK g w' OK (g.more id inc):=by
 have hle:=g.more_le id inc
 have hblk:∀b,b<w.heap.size->w'.heap[b]?=w.heap[b]?:=fun b hb=>by rw [hh,Ur,SD (by omega)]
 have hnew:w'.heap[w.heap.size]?=some o:=by rw [hh]; simp
 have hsz:w'.heap.size=w.heap.size+1:=by rw [hh]; simp
 have hcases:∀k i,i∈g.more id inc k->i∈g k\/(k=id/\i=inc):=fun k i hi=>by
  unfold aC.more at hi
  split at hi
  ·rename_i h1
   rcases Tj.1 hi with h2 | h2
   ·exact .inr ⟨h1,h2⟩
   ·exact .inl (h1 ▸ h2)
  ·exact .inl hi
 have hl:∀k:Nat,(A.set id e)[k]?≠some Ent.dead->A[k]?≠some Ent.dead:=fun k hd=>by
  by_cases e2:k=id
  ·rw [e2]; exact hlive
  ·rwa [Sz (TX e2)] at hd
 refine ⟨⟨fun k hk=>?_,fun k hk=>?_,fun k k' i i' hd hd' hi hi' eb=>?_,fun k i hi ho=>?_,fun k i hi=>?_,fun b hb=>?_⟩,⟨ho,ht,hp,by omega,fun b hb _=>hblk b hb,hle,fun _ h=>h,fun k i hi=>?_,fun _ h=>.inl h,fun b r hb _=>(hblk b (Tg.1 hb).1).trans hb,fun k i hi h0=>by
  by_cases e1:k=id
  ·subst e1; exact absurd h0 (hfx i hi)
  ·simp [aC.more,e1]⟩⟩
 ·by_cases e1:k=id
  ·subst e1
   simp only [aC.more,SA,Uy]
   exact he _ hle hblk hnew
  ·have hlt:k<A.length:=by simpa using hk
   simp only [aC.more,SD e1]
   rw [Us (TX e1)]
   exact (h.ent k hlt).mono (fun _ h=>h) (fun b hb=>hblk b (h.ok b hb)) hle (fun i hi=>hblk _ (h.low k i hi))
 ·simp at hk
  simp only [aC.more]
  rw [SD (by omega)]
  exact h.out k hk
 ·rcases hcases k i hi with h1 | ⟨h1,h2⟩ <;> rcases hcases k' i' hi' with h1' | ⟨h1',h2'⟩
  ·exact h.one _ _ _ _ (hl k hd) (hl k' hd') h1 h1' eb
  ·subst h2'; have:=h.low _ _ h1; omega
  ·subst h2; have:=h.low _ _ h1'; omega
  ·subst h1; subst h1'; subst h2; subst h2'; exact ⟨rfl,rfl⟩
 ·rcases hcases k i hi with h1 | ⟨h1,h2⟩
  ·exact h.apart _ _ h1 ho
  ·subst h2; have:=h.ok _ ho; omega
 ·rcases hcases k i hi with h1 | ⟨h1,h2⟩
  ·have:=h.low _ _ h1; omega
  ·subst h2; omega
 ·have:=h.ok b hb; omega
 ·rcases hcases k i hi with h1 | ⟨h1,h2⟩
  ·exact .inl ⟨k,i,h1,rfl⟩
  ·subst h2; exact .inr (by omega)
theorem cM.scribble (h:cM w OK g A) (b0:Nat) (hs:w'.heap.size=w.heap.size) (hblk:∀b,b≠b0->w'.heap[b]?=w.heap[b]?) (hok:¬ OK b0)
  (hex:∀k i,A[k]?≠some .dead->i∈g k->i.b≠b0):cM w' OK g A where
 ent k hk:=by
  by_cases hd:A[k]?=some .dead
  ·rw [Sq hk] at hd
   injection hd with hd
   rw [hd]; trivial
  ·exact (h.ent k hk).mono (fun _ h=>h) (fun b hb=>hblk b (fun e=>hok (e ▸ hb))) g.le_refl (fun i hi=>hblk _ (hex k i hd hi))
 out:=h.out
 one:=h.one
 apart:=h.apart
 low k i hi:=by rw [hs]; exact h.low k i hi
 ok b hb:=by rw [hs]; exact h.ok b hb
theorem dx (z:Array Value) (n:Nat):(Builtin.zeroCells z n).size=n*z.size:=by simp [Builtin.zeroCells]
theorem rP {ty:TypeId} {a1 a2 r:AV} {A':ac} (ht:P.underlying t=some (.slice e)) (hx:(∃e',P.underlying xt=some (.slice e'))\/P.underlying xt=some .string) (hi:P.info? e=some i) (hz:i.zero=some z) (hzs:z.cells.size=i.size)
  (hA:cM w OK g A) (h1:a9 w OK g v1 a1) (h2:a9 w OK g v2 a2) (he:aL i.size i.bytes A a1 a2=some (r,A')):z7 P w OK g (Builtin.append_ #[t,xt] ty #[v1,v2]) r A':=by
 unfold aL at he
 split at he
 ·cases he
 ·rename_i xs hsrc
  have hlen:(Builtin.lenOf v2).run P w=.ok xs.length w:=kZ hA h2 hsrc w.drawn
  obtain ⟨news,hnews,hrel⟩:=dl (P:=P) hA h2 hsrc xs.length (SK _)
  rw [SX] at hrel
  split at he
  ·obtain ⟨p0,rfl⟩:=h1.inv_nilS
   split at he
   ·rename_i h0
    simp only [Sx,SH] at he
    obtain ⟨rfl,rfl⟩:=he
    refine ⟨.slice p0 0 0,w,g,?_,.nilS _ _,hA,Ext.refl _ _ _⟩
    have hn0:=hnews w.drawn
    rw [h0] at hlen hn0
    have hnn:news=#[]:=by
     have:=hrel.1
     rw [h0] at this
     exact Array.eq_empty_of_size_eq_zero (by simpa using this)
    subst hnn
    rcases hx with ⟨e',hx⟩ | hx <;> cases p0 <;> simp [Builtin.append_,ay ht,ay hx,ba hi,hlen,show (Builtin.firstCells i.size 0 v2).run P w=.ok #[] w from hn0,storeCells]
   ·rename_i h0
    simp only [Sw,Sx,SH] at he
    obtain ⟨⟨hpos,hb0,hb⟩,rfl,rfl⟩:=he
    obtain ⟨k,hk,hrun⟩:=ej (ty:=ty) (base:=p0) (sLen:=0) (sCap:=0) (olds:=#[]) ht hx hi hz hlen hnews (fun d=>by cases p0 <;> simp [Builtin.firstCells,loadCells,loadCellsFrom]) (by omega) hb0 (by simpa using hb)
    rw [Up] at hk hrun
    have hel:=eG.append (w:=w) (OK:=OK) (g:=g) (c1:=#[]) (xs:=[]) (size:=i.size) ⟨by simp,fun i hi=>by simp at hi⟩ hrel (Builtin.zeroCells z.cells (k-xs.length))
    have hcs:(#[]++news++Builtin.zeroCells z.cells (k-xs.length)).size=k*i.size:=by
     simp only [UX,Array.size_empty,dx,hrel.1,hzs]
     rw [Up,<-SP]; congr 1; omega
    obtain ⟨q1,q2⟩:=hA.pushRow (w':={{w with drawn:=w.drawn+1} with heap:=w.heap.push (.cells (#[]++news++Builtin.zeroCells z.cells (k-xs.length)) e)}) _ e (0,0) rfl rfl rfl rfl (cV _) i.size k false xs hk (by rw [hcs]; exact SK _)
     (fun j hj=>by simpa using hel j (by simpa using hj))
    exact ⟨_,_,_,hrun,.sl _ _ 0 _ _ _ _ (aC.push_self _ _ _) hk (by simp) (by simp) (fun _=>by simp),q1,q2⟩
  ·rename_i id off len
   split at he
   ·rename_i s' gr es hid
    simp only [Sw] at he
    obtain ⟨⟨rfl,hpos,hb0,hb⟩,he⟩:=he
    obtain ⟨inc,cap,ao,hinc,rfl,hl,hn,hcap,ha⟩:=h1.inv_sl
    obtain ⟨hlt',hrow⟩:=Sp.1 hid
    have hdead:A[id]?≠some Ent.dead:=by rw [hid]; simp
    have hent:=hA.ent id hlt'
    rw [hrow] at hent
    obtain ⟨hesz,hne,hnc,c,T,fz,hh,hu,hcs,hel⟩:=hent.2 inc hinc
    obtain ⟨olds,holds,hrelo⟩:=dl (P:=P) hA h1 (show a8 i.size A (.sl id off len)=some ((es.drop off).take len) by simp [a8,hid]) len (by simp; omega)
    have hlsub:((es.drop off).take len).length=len:=by simp; omega
    rw [SR (by omega)] at hrelo
    have hone:=hrel.one hpos
    have hkl:=hA.kill id
    have hdk:(A.set id Ent.dead)[id]?=some .dead:=by rw [SG hlt']
    have hexk:∀k i,(A.set id Ent.dead)[k]?≠some .dead->i∈g k->i.b≠inc.b:=fun k i hd hi hb=>by
     have hki:k≠id:=fun e=>hd (e ▸ hdk)
     rw [Sz (TX hki)] at hd
     exact hki (hA.one k id i inc hd hdead hi hinc hb).1
    by_cases hroom:len+xs.length<=cap
    ·
     by_cases hcap0:cap=0
     ·
      have hx0:xs.length=0:=by omega
      have hl0:len=0:=by omega
      have hxs:xs=[]:=S8.1 hx0
      have hnews0:news.toList=[]:=by
       have:=hrel.1; rw [hx0,UU] at this
       exact S8.1 (by simpa using this)
      have hrun:=gi (ty:=ty) (b:=inc.b) (ao:=ao) (sLen:=len) (sCap:=cap) (w':=w) ht hx hi hlen (hnews w.drawn) hroom (by rw [hnews0]; rfl)
      subst hl0; subst hxs; subst hcap0
      split at he
      ·rename_i hc
       simp only [Sx,SH] at he
       exact absurd rfl hc.2.2
      ·simp only [Sx,SH] at he
       obtain ⟨rfl,rfl⟩:=he
       obtain ⟨p1,p2⟩:=hkl.pushOld id (by simpa using hlt') hdk inc ⟨inc.b,inc.o,0,0,i.size⟩ hinc rfl (.row i.size false []) hexk (fun g' _=>⟨fun _=>⟨by simp,by simp⟩,fun x hx=>by
        simp at hx; subst hx
        exact ⟨rfl,UD _,UD _,c,T,fz,hh,hu,by simp; omega,fun j hj=>by simp at hj⟩⟩)
       rw [Ti] at p1 p2
       refine ⟨_,w,_,hrun,.sl _ A.length 0 _ _ _ ⟨inc.b,inc.o,0,0,i.size⟩ (aC.push_self g A.length _) (by simp) (by simp) (by simp) (fun h=>absurd rfl h),by simpa using p1,?_⟩
       have hfx:∀(k:Nat) (j:Inc),j∈g k->j.esz=0->g.push A.length ⟨inc.b,inc.o,0,0,i.size⟩ k=g k:=fun k j hj _=>by
        by_cases e1:k=A.length
        ·subst e1; rw [hA.out _ (SK _)] at hj; cases hj
        ·simp [aC.push,e1]
       refine {Ext.refl w OK g with gle:=p2,fix:=hfx,fresh:=fun k j hj=>?_}
       unfold aC.push at hj
       split at hj
       ·simp at hj; subst hj; exact .inl ⟨id,inc,hinc,rfl⟩
       ·exact .inl ⟨k,j,hj,rfl⟩
     ·have hao:=ha hcap0
      have hp0:ao+len*i.size=inc.o+(off+len)*i.size:=by rw [hao,hesz,SP]; omega
      have hfit:inc.o+(off+len)*i.size+news.toList.length<=c.size:=by
       have:(off+len+xs.length)*i.size<=inc.cap*i.size:=ST _ (by omega)
       rw [SP] at this
       rw [Tc,hrel.1]; omega
      have hst:=cn P inc.b (ao+len*i.size) T fz news.toList 0 c w hh hu (by rw [hp0,Ts]; exact hfit) hone
      rw [Ts,hp0] at hst
      have hst':(storeCells ⟨inc.b,ao+len*i.size,none⟩ news.toList).run P w=.ok () (w.setRow inc.b (splice c (inc.o+(off+len)*i.size) news.toList)):=by rw [hp0]; exact hst
      have hrun:=gi (ty:=ty) (b:=inc.b) (ao:=ao) (sLen:=len) (sCap:=cap) ht hx hi hlen (hnews w.drawn) hroom hst'
      have hnl:news.toList.length=xs.length*i.size:=by rw [Tc,hrel.1]
      have hnewel:∀ {w':World} {g':aC},(∀b,OK b->w'.heap[b]?=w.heap[b]?)->g.le g'->∀j (hj:j<xs.length),cI w' OK g' (splice c (inc.o+(off+len)*i.size) news.toList) (inc.o+(off+len+j)*i.size) i.size xs[j]:=by
       intro w' g' hokb hg j hj
       obtain ⟨u,u1,u2,u3,u4⟩:=hrel.2 j hj
       refine ⟨u,u1.mono (fun _ h=>h) hokb g' hg,u2,u3,fun q hq=>?_⟩
       have hjq:j*i.size+q<news.toList.length:=by
        rw [hnl]
        have:(j+1)*i.size<=xs.length*i.size:=ST _ hj
        rw [SP] at this; omega
       have e1:=dw c (inc.o+(off+len)*i.size) news.toList hfit (j*i.size+q) hjq
       rw [show inc.o+(off+len+j)*i.size+q=inc.o+(off+len)*i.size+(j*i.size+q) by rw [SP (off+len)]; omega,e1]
       simpa using u4 q hq
      have holdel:∀ {w':World} {g':aC},(∀b,OK b->w'.heap[b]?=w.heap[b]?)->g.le g'->∀j (hj:j<es.length),j<off+len->cI w' OK g' (splice c (inc.o+(off+len)*i.size) news.toList) (inc.o+j*i.size) i.size es[j]:=by
       intro w' g' hokb hg j hj hjl
       refine cI.mono (cI.splice_out (hel j hj (by omega)) hfit (.inl ?_)) (fun _ h=>h) hokb hg
       have:(j+1)*i.size<=(off+len)*i.size:=ST _ hjl
       rw [SP] at this; omega
      have hblk:∀b,b≠inc.b->(w.setRow inc.b (splice c (inc.o+(off+len)*i.size) news.toList)).heap[b]?=w.heap[b]?:=fun b hb=>setRow_other w inc.b b _ hb
      split at he
      ·rename_i hc
       obtain ⟨rfl,hcl,_⟩:=hc
       simp only [Sx,SH] at he
       obtain ⟨rfl,rfl⟩:=he
       have hgid:g.grow id inc (len+xs.length) id=(g id).map (fun i=>if i.b=inc.b then {i with n:=len+xs.length} else i):=by simp [aC.grow]
       have hgle:g.le (g.grow id inc (len+xs.length)):=fun k j hj=>by
        unfold aC.grow
        split
        ·rename_i hk; subst hk
         by_cases hb:j.b=inc.b
         ·refine ⟨len+xs.length,?_,SU.2 ⟨j,hj,by rw [SA hb]⟩⟩
          have:=(hent.2 j hj).2.1; omega
         ·exact ⟨j.n,SK _,SU.2 ⟨j,hj,by rw [SD hb]⟩⟩
        ·exact ⟨j.n,SK _,hj⟩
       obtain ⟨t1,t2⟩:=hA.turn (w':=w.setRow inc.b (splice c (inc.o+(0+len)*i.size) news.toList)) (g':=g.grow id inc (len+xs.length)) id hlt' hdead inc hinc (by simp) rfl rfl rfl hblk (fun r hr _=>by obtain ⟨_,_,_,c0,T0,fz0,hh0,_⟩:=hent.2 inc hinc; rw [hh0] at hr; cases hr) hgle
        (fun k hk=>by simp [aC.grow,hk])
        (fun j hj=>by
         rw [hgid] at hj
         obtain ⟨j0,h0,rfl⟩:=SU.1 hj
         refine ⟨j0,h0,?_⟩
         split <;> rfl)
        (fun j j' hj hj' eb=>by
         rw [hgid] at hj hj'
         obtain ⟨j0,h0,rfl⟩:=SU.1 hj
         obtain ⟨j0',h0',rfl⟩:=SU.1 hj'
         have e1:∀y:Inc,(if y.b=inc.b then {y with n:=len+xs.length} else y).b=y.b:=fun y=>by split <;> rfl
         rw [e1,e1] at eb
         rw [(hA.one id id j0 j0' hdead hdead h0 h0' eb).2])
        (.row i.size true (es++xs)) (fun hokb=>⟨fun h=>(by cases h),fun x hx=>by
         rw [hgid] at hx
         obtain ⟨j0,h0,rfl⟩:=SU.1 hx
         by_cases hb:j0.b=inc.b
         ·obtain rfl:=(hA.one id id j0 inc hdead hdead h0 hinc hb).2
          rw [SA rfl]
          refine ⟨hesz,by simp; omega,by simp; omega,_,T,fz,setRow_heap w j0.b c _ T fz hh,ce hu _ _ hfit,by rw [cE _ _ _ hfit]; exact hcs,fun q hq _=>?_⟩
          by_cases hqe:q<es.length
          ·rw [SS hqe]
           exact holdel hokb hgle q hqe (by omega)
          ·rw [Td (by omega)]
           simp at hq
           have:=hnewel hokb hgle (q-es.length) (by omega)
           rwa [show 0+len+(q-es.length)=q by omega] at this
         ·rw [SD hb]
          obtain ⟨y1,y2,y3,c',T',fz',y4,y5,y6,y7⟩:=hent.2 j0 h0
          refine ⟨y1,by simp; omega,y3,c',T',fz',(hblk _ hb).trans y4,y5,y6,fun q hq hqn=>?_⟩
          rw [SS (show q<es.length by omega)]
          exact (y7 q (by omega) hqn).mono (fun _ h=>h) hokb hgle⟩) (fun ⟨j,hj,hj0⟩=>by have:=(hent.2 j hj).1; omega)
       refine ⟨_,_,_,hrun,?_,t1,t2⟩
       refine .sl _ id 0 _ _ _ {inc with n:=len+xs.length} ?_ hroom (by simp) (by simpa using hcap) (fun _=>by simpa using hao)
       rw [hgid]
       exact SU.2 ⟨inc,hinc,by rw [SA rfl]⟩
      ·simp only [Sx,SH] at he
       obtain ⟨rfl,rfl⟩:=he
       have hokb:∀b,OK b->(w.setRow inc.b (splice c (inc.o+(off+len)*i.size) news.toList)).heap[b]?=w.heap[b]?:=fun b hb=>hblk b (fun e=>hA.apart id inc hinc (e ▸ hb))
       have hsc:=hkl.scribble (w':=w.setRow inc.b (splice c (inc.o+(off+len)*i.size) news.toList)) inc.b (by simp) hblk (hA.apart id inc hinc) hexk
       obtain ⟨p1,p2⟩:=hsc.pushOld id (by simpa using hlt') hdk inc ⟨inc.b,ao,len+xs.length,cap,i.size⟩ hinc rfl (.row i.size false ((es.drop off).take len++xs)) hexk (fun g' hg=>⟨fun _=>⟨by simp,fun x hx=>by
         simp at hx; subst hx; rw [SW,hlsub]⟩,fun x hx=>by
        simp at hx; subst hx
        refine ⟨rfl,by rw [SW,hlsub]; exact SK _,hroom,_,T,fz,setRow_heap w inc.b c _ T fz hh,ce hu _ _ hfit,?_,fun q hq _=>?_⟩
        ·rw [cE _ _ _ hfit]
         have:(off+cap)*i.size<=inc.cap*i.size:=ST _ hcap
         rw [SP] at this
         show ao+cap*i.size<=c.size
         rw [hao,hesz]; omega
        ·show cI _ OK g' _ (ao+q*i.size) i.size _
         by_cases hqe:q<len
         ·rw [SS (by rw [hlsub]; exact hqe)]
          simp only [TG,Tv]
          have:=holdel hokb hg (off+q) (by omega) (by omega)
          rwa [show inc.o+(off+q)*i.size=ao+q*i.size by rw [hao,hesz,SP]; omega] at this
         ·rw [Td (by rw [hlsub]; omega)]
          rw [SW,hlsub] at hq
          have:=hnewel hokb hg (q-len) (by omega)
          simp only [hlsub]
          rwa [show inc.o+(off+len+(q-len))*i.size=ao+q*i.size by rw [show off+len+(q-len)=off+q by omega,hao,hesz,SP]; omega] at this⟩)
       rw [Ti] at p1 p2
       refine ⟨_,_,_,hrun,.sl _ A.length 0 _ _ _ ⟨inc.b,ao,len+xs.length,cap,i.size⟩ (aC.push_self g A.length _) hroom (by simp) (by simp) (fun _=>by simp),by simpa using p1,?_⟩
       refine ⟨rfl,rfl,rfl,by simp,fun b _ hu=>hblk b (fun e=>hu id inc hinc e.symm),p2,fun _ h=>h,fun k j hj=>?_,fun _ h=>.inl h,fun b r hb _=>(hblk b (fun e=>by rw [e,hh] at hb; cases hb)).trans hb,fun k i hi _=>by
        by_cases e1:k=A.length
        ·subst e1; rw [hA.out _ (SK _)] at hi; cases hi
        ·simp [aC.push,e1]⟩
       unfold aC.push at hj
       split at hj
       ·simp at hj; subst hj; exact .inl ⟨id,inc,hinc,rfl⟩
       ·exact .inl ⟨k,j,hj,rfl⟩
    ·
     obtain ⟨k,hk,hrun⟩:=ej (ty:=ty) (base:=some ⟨inc.b,ao,none⟩) (sLen:=len) (sCap:=cap) (olds:=olds) ht hx hi hz hlen hnews holds (by omega) hb0 hb
     have hel2:=eG.append hrelo hrel (Builtin.zeroCells z.cells (k-(len+xs.length)))
     have hcs2:(olds++news++Builtin.zeroCells z.cells (k-(len+xs.length))).size=k*i.size:=by
      simp only [UX,dx,hrel.1,hrelo.1,hzs,hlsub]
      rw [<-SP,<-SP]; congr 1; omega
     split at he
     ·rename_i hc
      obtain ⟨rfl,hcl,_⟩:=hc
      simp only [Sx,SH] at he
      obtain ⟨rfl,rfl⟩:=he
      have hsub:(es.drop 0).take len=es:=by rw [SL,SR (by omega)]
      simp only [hsub] at hel2
      obtain ⟨t1,t2⟩:=hA.addInc (w':={{w with drawn:=w.drawn+1} with heap:=w.heap.push (.cells (olds++news++Builtin.zeroCells z.cells (k-(len+xs.length))) e)}) _ rfl rfl rfl rfl id hlt' hdead (.row i.size true (es++xs)) ⟨w.heap.size,0,len+xs.length,k,i.size⟩ rfl
       (fun g' hg hb hn=>⟨fun h=>(by cases h),fun x hx=>by
        rcases Tj.1 hx with rfl | hx
        ·refine ⟨rfl,by simp; omega,hk,_,e,(0,0),hn,cV _,by rw [hcs2]; simp,fun q hq _=>?_⟩
         have:=(hel2 q hq).mono (OK':=OK) (fun _ h=>h) (fun b hb'=>hb b (hA.ok b hb')) hg
         simpa using this
        ·obtain ⟨y1,y2,y3,c',T',fz',y4,y5,y6,y7⟩:=hent.2 x hx
         refine ⟨y1,by simp; omega,y3,c',T',fz',(hb _ (hA.low id x hx)).trans y4,y5,y6,fun q hq hqn=>?_⟩
         rw [SS (show q<es.length by omega)]
         exact (y7 q (by omega) hqn).mono (fun _ h=>h) (fun b hb'=>hb b (hA.ok b hb')) hg⟩) (fun j hj hj0=>by have:=(hent.2 j hj).1; omega)
      exact ⟨_,_,_,hrun,.sl _ id 0 _ _ _ ⟨w.heap.size,0,len+xs.length,k,i.size⟩ (by simp [aC.more]) hk (by simp) (by simp) (fun _=>by simp),t1,t2⟩
     ·simp only [Sx,SH] at he
      obtain ⟨rfl,rfl⟩:=he
      obtain ⟨q1,q2⟩:=hkl.pushRow (w':={{w with drawn:=w.drawn+1} with heap:=w.heap.push (.cells (olds++news++Builtin.zeroCells z.cells (k-(len+xs.length))) e)}) _ e (0,0) rfl rfl rfl rfl (cV _) i.size k false ((es.drop off).take len++xs) (by rw [SW,hlsub]; exact hk) (by rw [hcs2]; exact SK _) hel2
      rw [Ti] at q1 q2
      have hlen2:((es.drop off).take len++xs).length=len+xs.length:=by rw [SW,hlsub]
      rw [hlen2] at q1 q2
      exact ⟨_,_,_,hrun,.sl _ A.length 0 _ _ _ _ (aC.push_self g A.length _) hk (by simp) (by simp) (fun _=>by simp),by simpa using q1,q2⟩
   ·cases he
  ·cases he
end
section
variable {P:Program} {w:World} {OK:Nat->Prop} {g:aC} {A:ac}
def B7 (A:ac):AV->Option (AV × ac)
 | .str l=>some (.sl A.length 0 l.length,A++[.row 1 false (l.map fun b=>.int .u8 b.toNat)])
 | _=>none
def oG (esz:Nat) (A:ac) (d s:AV):Option (AV × ac):=
 match a8 esz A s with
 | none=>none
 | some xs=>
  match d with
  | .nilS=>some (.int .i64 0,A)
  | .sl id off len=>
   match A[id]? with
   | some (.row s' gr es)=>
    if s'=esz/\0<esz/\gr=false then
     let n:=min xs.length len
     some (.int .i64 n,A.set id (.row esz false (es.take off++xs.take n++es.drop (off+n))))
    else none
   | _=>none
  | _=>none
theorem vG {t2:TypeId} {a1 a2 r:AV} {A':ac} (ht:P.underlying t=some (.slice e)) (hi:P.info? e=some i)
  (hA:cM w OK g A) (h1:a9 w OK g v1 a1) (h2:a9 w OK g v2 a2) (he:oG i.size A a1 a2=some (r,A')):z7 P w OK g (Builtin.copy_ #[t,t2] ty #[v1,v2]) r A':=by
 unfold oG at he
 split at he
 ·cases he
 ·rename_i xs hsrc
  have hlen:(Builtin.lenOf v2).run P w=.ok xs.length w:=kZ hA h2 hsrc w.drawn
  split at he
  ·obtain ⟨p0,rfl⟩:=h1.inv_nilS
   simp only [Sx,SH] at he
   obtain ⟨rfl,rfl⟩:=he
   obtain ⟨news,hnews,hrel⟩:=dl (P:=P) hA h2 hsrc 0 (UD _)
   have h0:(Builtin.firstCells i.size 0 v2).run P w=.ok news w:=hnews w.drawn
   refine ⟨.int .i64 0,w,g,?_,.int _ _ _,hA,Ext.refl _ _ _⟩
   have hm:Nat.min xs.length 0=0:=Nat.min_zero _
   have hnn:news=#[]:=Array.eq_empty_of_size_eq_zero (by simpa using hrel.1)
   subst hnn
   simp only [Builtin.copy_,Sem.run_bind,ay ht,Result.andThen_ok,hlen,ba hi,hm,T9,Tp,T6,h0]
   cases p0 <;> simp [storeCells,goInt]
  ·rename_i id off len
   split at he
   ·rename_i s' gr es hid
    simp only [Sw,Sx,SH] at he
    obtain ⟨⟨rfl,hpos,rfl⟩,rfl,rfl⟩:=he
    obtain ⟨inc,cap,ao,hinc,rfl,hl,hn,hcap,ha⟩:=h1.inv_sl
    obtain ⟨hlt',hrow⟩:=Sp.1 hid
    have hdead:A[id]?≠some Ent.dead:=by rw [hid]; simp
    have hent:=hA.ent id hlt'
    rw [hrow] at hent
    obtain ⟨h0,hinv⟩:=hent
    obtain ⟨hone,hnn⟩:=h0 rfl
    obtain ⟨hesz,hne,hnc,c,T,fz,hh,hu,hcs,hel⟩:=hinv inc hinc
    have hnn':=hnn inc hinc
    obtain ⟨n,hnd⟩:∃n,n=min xs.length len:=⟨_,rfl⟩
    rw [<-hnd]
    obtain ⟨news,hnews,hrel⟩:=dl (P:=P) hA h2 hsrc n (by omega)
    have hnews':(Builtin.firstCells i.size n v2).run P w=.ok news w:=hnews w.drawn
    have honec:=hrel.one hpos
    have hxl:(xs.take n).length=n:=by simp; omega
    have hnl:news.toList.length=n*i.size:=by rw [Tc,hrel.1,hxl]
    have hfit:inc.o+off*i.size+news.toList.length<=c.size:=by
     have:(off+n)*i.size<=inc.cap*i.size:=ST _ (by omega)
     rw [SP] at this
     rw [hnl]; omega
    have hst:(storeCells ⟨inc.b,ao,none⟩ news.toList).run P w=.ok () (w.setRow inc.b (splice c (inc.o+off*i.size) news.toList)):=by
     by_cases hc0:cap=0
     ·have hn0:n=0:=by omega
      have:news.toList=[]:=S8.1 (by rw [hnl,hn0,UU])
      rw [this]
      simp only [splice,S5,UG,Ts,Ua,UE]
      rw [setRow_self w inc.b c T fz hh]; rfl
     ·have hao:=ha hc0
      have:=cn P inc.b ao T fz news.toList 0 c w hh hu (by rw [hao,hesz,Ts]; exact hfit) honec
      rw [this,Ts,hao,hesz]
    have hblk:∀b,b≠inc.b->(w.setRow inc.b (splice c (inc.o+off*i.size) news.toList)).heap[b]?=w.heap[b]?:=fun b hb=>setRow_other w inc.b b _ hb
    have hxe:∀x∈g id,x=inc:=fun x hx=>by
     match hgi:g id,hone,hx,hinc with
     | [],_,hx,_=>cases hx
     | [y],_,hx,hinc=>simp at hx hinc; rw [hx,hinc]
     | _ :: _ :: _,ho,_,_=>simp at ho
    have hl2:(es.take off++xs.take n++es.drop (off+n)).length=es.length:=by simp; omega
    obtain ⟨s1,s2⟩:=hA.turn (w':=w.setRow inc.b (splice c (inc.o+off*i.size) news.toList)) (g':=g) id hlt' hdead inc hinc (by simp) rfl rfl rfl hblk (fun r hr _=>by rw [hh] at hr; cases hr) g.le_refl (fun _ _=>rfl) (fun i hi=>⟨i,hi,rfl⟩)
     (fun i i' hi hi' e=>(hA.one id id i i' hdead hdead hi hi' e).2) (.row i.size false (es.take off++xs.take n++es.drop (off+n))) (fun hokb=>by
      refine ⟨fun _=>⟨hone,fun x hx=>by rw [hl2]; exact hnn x hx⟩,fun x hx=>?_⟩
      obtain rfl:=hxe x hx
      refine ⟨hesz,by rw [hl2]; exact hne,hnc,_,T,fz,setRow_heap w x.b c _ T fz hh,ce hu _ _ hfit,by rw [cE _ _ _ hfit]; exact hcs,fun j hj hjn=>?_⟩
      rw [hl2] at hj
      by_cases c1:j<off
      ·rw [SS (by simp; omega),SS (by simp; omega),TG]
       refine cI.mono (cI.splice_out (hel j hj hjn) hfit (.inl ?_)) (fun _ h=>h) hokb g.le_refl
       have:(j+1)*i.size<=off*i.size:=ST _ c1
       rw [SP] at this; omega
      ·by_cases c2:j<off+n
       ·rw [SS (by simp; omega),Td (by simp; omega)]
        have hto:(es.take off).length=off:=by simp; omega
        simp only [hto]
        obtain ⟨u,u1,u2,u3,u4⟩:=hrel.2 (j-off) (by omega)
        refine ⟨u,u1.mono (fun _ h=>h) hokb g g.le_refl,u2,u3,fun q hq=>?_⟩
        have hjq:(j-off)*i.size+q<news.toList.length:=by
         rw [hnl]
         have:(j-off+1)*i.size<=n*i.size:=ST _ (by omega)
         rw [SP] at this; omega
        have e1:=dw c (x.o+off*i.size) news.toList hfit _ hjq
        have e2:x.o+j*i.size+q=x.o+off*i.size+((j-off)*i.size+q):=by
         have:j*i.size=off*i.size+(j-off)*i.size:=by rw [<-SP]; congr 1; omega
         omega
        rw [e2,e1]
        simpa using u4 q hq
       ·rw [Td (by simp; omega),Tv]
        have hto:(es.take off++xs.take n).length=off+n:=by simp; omega
        simp only [hto,show off+n+(j-(off+n))=j by omega]
        refine cI.mono (cI.splice_out (hel j hj hjn) hfit (.inr ?_)) (fun _ h=>h) hokb g.le_refl
        have:(off+n)*i.size<=j*i.size:=ST _ (by omega)
        rw [SP] at this
        rw [hnl]; omega) (fun _=>rfl)
    refine ⟨.int .i64 n,_,g,?_,.int _ _ _,s1,s2⟩
    have hm:Nat.min xs.length len=n:=hnd.symm
    simp only [Builtin.copy_,Sem.run_bind,ay ht,Result.andThen_ok,hlen,ba hi,hm,T9,Tp,T6,hnews',hst]
    rfl
   ·cases he
  ·cases he
end
section
variable {P:Program} {w:World} {OK:Nat->Prop} {g:aC} {A:ac}
def db (esz bytes:Nat) (A:ac) (s x:AV):Option (AV × ac):=
 match a8 esz A x with
 | none=>none
 | some xs=>
  match s with
  | .nilS=>if xs.length=0 then some (.nilS,A)
   else if 0<esz/\0<bytes/\xs.length*bytes<=140737488355328 then some (.sl A.length 0 xs.length,A++[.row esz false xs]) else none
  | .sl id off len=>
   match A[id]? with
   | some (.row s' _ es)=>
    if s'=esz/\0<esz/\0<bytes/\(len+xs.length)*bytes<=140737488355328 then
     some (.sl A.length 0 (len+xs.length),A.set id .dead++[.row esz false ((es.drop off).take len++xs)])
    else none
   | _=>none
  | .csl id off len=>
   match A[id]? with
   | some (.row s' _ es)=>
    if s'=esz/\0<esz/\0<bytes/\0<xs.length/\(len+xs.length)*bytes<=140737488355328 then
     some (.sl A.length 0 (len+xs.length),A++[.row esz false ((es.drop off).take len++xs)])
    else none
   | _=>none
  | _=>none
theorem qW {ty:TypeId} {a1 a2 r:AV} {A':ac} (ht:P.underlying t=some (.slice e)) (hx:(∃e',P.underlying xt=some (.slice e'))\/P.underlying xt=some .string) (hi:P.info? e=some i) (hz:i.zero=some z) (hzs:z.cells.size=i.size)
  (hA:cM w OK g A) (h1:a9 w OK g v1 a1) (h2:a9 w OK g v2 a2) (he:db i.size i.bytes A a1 a2=some (r,A')):z7 P w OK g (Builtin.append_ #[t,xt] ty #[v1,v2]) r A':=by
 unfold db at he
 split at he
 ·cases he
 ·rename_i xs hsrc
  have hlen:(Builtin.lenOf v2).run P w=.ok xs.length w:=kZ hA h2 hsrc w.drawn
  obtain ⟨news,hnews,hrel⟩:=dl (P:=P) hA h2 hsrc xs.length (SK _)
  rw [SX] at hrel
  split at he
  ·obtain ⟨p0,rfl⟩:=h1.inv_nilS
   split at he
   ·rename_i h0
    simp only [Sx,SH] at he
    obtain ⟨rfl,rfl⟩:=he
    refine ⟨.slice p0 0 0,w,g,?_,.nilS _ _,hA,Ext.refl _ _ _⟩
    have hn0:=hnews w.drawn
    rw [h0] at hlen hn0
    have hnn:news=#[]:=by
     have:=hrel.1
     rw [h0] at this
     exact Array.eq_empty_of_size_eq_zero (by simpa using this)
    subst hnn
    rcases hx with ⟨e',hx⟩ | hx <;> cases p0 <;> simp [Builtin.append_,ay ht,ay hx,ba hi,hlen,show (Builtin.firstCells i.size 0 v2).run P w=.ok #[] w from hn0,storeCells]
   ·rename_i h0
    simp only [Sw,Sx,SH] at he
    obtain ⟨⟨hpos,hb0,hb⟩,rfl,rfl⟩:=he
    obtain ⟨k,hk,hrun⟩:=ej (ty:=ty) (base:=p0) (sLen:=0) (sCap:=0) (olds:=#[]) ht hx hi hz hlen hnews (fun d=>by cases p0 <;> simp [Builtin.firstCells,loadCells,loadCellsFrom]) (by omega) hb0 (by simpa using hb)
    rw [Up] at hk hrun
    have hel:=eG.append (w:=w) (OK:=OK) (g:=g) (c1:=#[]) (xs:=[]) (size:=i.size) ⟨by simp,fun i hi=>by simp at hi⟩ hrel (Builtin.zeroCells z.cells (k-xs.length))
    have hcs:(#[]++news++Builtin.zeroCells z.cells (k-xs.length)).size=k*i.size:=by
     simp only [UX,Array.size_empty,dx,hrel.1,hzs]
     rw [Up,<-SP]; congr 1; omega
    obtain ⟨q1,q2⟩:=hA.pushRow (w':={{w with drawn:=w.drawn+1} with heap:=w.heap.push (.cells (#[]++news++Builtin.zeroCells z.cells (k-xs.length)) e)}) _ e (0,0) rfl rfl rfl rfl (cV _) i.size k false xs hk (by rw [hcs]; exact SK _)
     (fun j hj=>by simpa using hel j (by simpa using hj))
    exact ⟨_,_,_,hrun,.sl _ _ 0 _ _ _ _ (aC.push_self _ _ _) hk (by simp) (by simp) (fun _=>by simp),q1,q2⟩
  ·rename_i id off len
   split at he
   ·rename_i s' gr es hid
    simp only [Sw] at he
    obtain ⟨⟨rfl,hpos,hb0,hb⟩,he⟩:=he
    obtain ⟨inc,cap,ao,hinc,rfl,hl,hn,hcap,ha⟩:=h1.inv_sl
    obtain ⟨hlt',hrow⟩:=Sp.1 hid
    have hdead:A[id]?≠some Ent.dead:=by rw [hid]; simp
    have hent:=hA.ent id hlt'
    rw [hrow] at hent
    obtain ⟨hesz,hne,hnc,c,T,fz,hh,hu,hcs,hel⟩:=hent.2 inc hinc
    obtain ⟨olds,holds,hrelo⟩:=dl (P:=P) hA h1 (show a8 i.size A (.sl id off len)=some ((es.drop off).take len) by simp [a8,hid]) len (by simp; omega)
    have hlsub:((es.drop off).take len).length=len:=by simp; omega
    rw [SR (by omega)] at hrelo
    have hone:=hrel.one hpos
    have hkl:=hA.kill id
    have hdk:(A.set id Ent.dead)[id]?=some .dead:=by rw [SG hlt']
    have hexk:∀k i,(A.set id Ent.dead)[k]?≠some .dead->i∈g k->i.b≠inc.b:=fun k i hd hi hb=>by
     have hki:k≠id:=fun e=>hd (e ▸ hdk)
     rw [Sz (TX hki)] at hd
     exact hki (hA.one k id i inc hd hdead hi hinc hb).1
    by_cases hroom:len+xs.length<=cap
    ·
     by_cases hcap0:cap=0
     ·
      have hx0:xs.length=0:=by omega
      have hl0:len=0:=by omega
      have hxs:xs=[]:=S8.1 hx0
      have hnews0:news.toList=[]:=by
       have:=hrel.1; rw [hx0,UU] at this
       exact S8.1 (by simpa using this)
      have hrun:=gi (ty:=ty) (b:=inc.b) (ao:=ao) (sLen:=len) (sCap:=cap) (w':=w) ht hx hi hlen (hnews w.drawn) hroom (by rw [hnews0]; rfl)
      subst hl0; subst hxs; subst hcap0
      ·simp only [Sx,SH] at he
       obtain ⟨rfl,rfl⟩:=he
       obtain ⟨p1,p2⟩:=hkl.pushOld id (by simpa using hlt') hdk inc ⟨inc.b,inc.o,0,0,i.size⟩ hinc rfl (.row i.size false []) hexk (fun g' _=>⟨fun _=>⟨by simp,by simp⟩,fun x hx=>by
        simp at hx; subst hx
        exact ⟨rfl,UD _,UD _,c,T,fz,hh,hu,by simp; omega,fun j hj=>by simp at hj⟩⟩)
       rw [Ti] at p1 p2
       refine ⟨_,w,_,hrun,.sl _ A.length 0 _ _ _ ⟨inc.b,inc.o,0,0,i.size⟩ (aC.push_self g A.length _) (by simp) (by simp) (by simp) (fun h=>absurd rfl h),by simpa using p1,?_⟩
       have hfx:∀(k:Nat) (j:Inc),j∈g k->j.esz=0->g.push A.length ⟨inc.b,inc.o,0,0,i.size⟩ k=g k:=fun k j hj _=>by
        by_cases e1:k=A.length
        ·subst e1; rw [hA.out _ (SK _)] at hj; cases hj
        ·simp [aC.push,e1]
       refine {Ext.refl w OK g with gle:=p2,fix:=hfx,fresh:=fun k j hj=>?_}
       unfold aC.push at hj
       split at hj
       ·simp at hj; subst hj; exact .inl ⟨id,inc,hinc,rfl⟩
       ·exact .inl ⟨k,j,hj,rfl⟩
     ·have hao:=ha hcap0
      have hp0:ao+len*i.size=inc.o+(off+len)*i.size:=by rw [hao,hesz,SP]; omega
      have hfit:inc.o+(off+len)*i.size+news.toList.length<=c.size:=by
       have:(off+len+xs.length)*i.size<=inc.cap*i.size:=ST _ (by omega)
       rw [SP] at this
       rw [Tc,hrel.1]; omega
      have hst:=cn P inc.b (ao+len*i.size) T fz news.toList 0 c w hh hu (by rw [hp0,Ts]; exact hfit) hone
      rw [Ts,hp0] at hst
      have hst':(storeCells ⟨inc.b,ao+len*i.size,none⟩ news.toList).run P w=.ok () (w.setRow inc.b (splice c (inc.o+(off+len)*i.size) news.toList)):=by rw [hp0]; exact hst
      have hrun:=gi (ty:=ty) (b:=inc.b) (ao:=ao) (sLen:=len) (sCap:=cap) ht hx hi hlen (hnews w.drawn) hroom hst'
      have hnl:news.toList.length=xs.length*i.size:=by rw [Tc,hrel.1]
      have hnewel:∀ {w':World} {g':aC},(∀b,OK b->w'.heap[b]?=w.heap[b]?)->g.le g'->∀j (hj:j<xs.length),cI w' OK g' (splice c (inc.o+(off+len)*i.size) news.toList) (inc.o+(off+len+j)*i.size) i.size xs[j]:=by
       intro w' g' hokb hg j hj
       obtain ⟨u,u1,u2,u3,u4⟩:=hrel.2 j hj
       refine ⟨u,u1.mono (fun _ h=>h) hokb g' hg,u2,u3,fun q hq=>?_⟩
       have hjq:j*i.size+q<news.toList.length:=by
        rw [hnl]
        have:(j+1)*i.size<=xs.length*i.size:=ST _ hj
        rw [SP] at this; omega
       have e1:=dw c (inc.o+(off+len)*i.size) news.toList hfit (j*i.size+q) hjq
       rw [show inc.o+(off+len+j)*i.size+q=inc.o+(off+len)*i.size+(j*i.size+q) by rw [SP (off+len)]; omega,e1]
       simpa using u4 q hq
      have holdel:∀ {w':World} {g':aC},(∀b,OK b->w'.heap[b]?=w.heap[b]?)->g.le g'->∀j (hj:j<es.length),j<off+len->cI w' OK g' (splice c (inc.o+(off+len)*i.size) news.toList) (inc.o+j*i.size) i.size es[j]:=by
       intro w' g' hokb hg j hj hjl
       refine cI.mono (cI.splice_out (hel j hj (by omega)) hfit (.inl ?_)) (fun _ h=>h) hokb hg
       have:(j+1)*i.size<=(off+len)*i.size:=ST _ hjl
       rw [SP] at this; omega
      have hblk:∀b,b≠inc.b->(w.setRow inc.b (splice c (inc.o+(off+len)*i.size) news.toList)).heap[b]?=w.heap[b]?:=fun b hb=>setRow_other w inc.b b _ hb
      ·simp only [Sx,SH] at he
       obtain ⟨rfl,rfl⟩:=he
       have hokb:∀b,OK b->(w.setRow inc.b (splice c (inc.o+(off+len)*i.size) news.toList)).heap[b]?=w.heap[b]?:=fun b hb=>hblk b (fun e=>hA.apart id inc hinc (e ▸ hb))
       have hsc:=hkl.scribble (w':=w.setRow inc.b (splice c (inc.o+(off+len)*i.size) news.toList)) inc.b (by simp) hblk (hA.apart id inc hinc) hexk
       obtain ⟨p1,p2⟩:=hsc.pushOld id (by simpa using hlt') hdk inc ⟨inc.b,ao,len+xs.length,cap,i.size⟩ hinc rfl (.row i.size false ((es.drop off).take len++xs)) hexk (fun g' hg=>⟨fun _=>⟨by simp,fun x hx=>by
         simp at hx; subst hx; rw [SW,hlsub]⟩,fun x hx=>by
        simp at hx; subst hx
        refine ⟨rfl,by rw [SW,hlsub]; exact SK _,hroom,_,T,fz,setRow_heap w inc.b c _ T fz hh,ce hu _ _ hfit,?_,fun q hq _=>?_⟩
        ·rw [cE _ _ _ hfit]
         have:(off+cap)*i.size<=inc.cap*i.size:=ST _ hcap
         rw [SP] at this
         show ao+cap*i.size<=c.size
         rw [hao,hesz]; omega
        ·show cI _ OK g' _ (ao+q*i.size) i.size _
         by_cases hqe:q<len
         ·rw [SS (by rw [hlsub]; exact hqe)]
          simp only [TG,Tv]
          have:=holdel hokb hg (off+q) (by omega) (by omega)
          rwa [show inc.o+(off+q)*i.size=ao+q*i.size by rw [hao,hesz,SP]; omega] at this
         ·rw [Td (by rw [hlsub]; omega)]
          rw [SW,hlsub] at hq
          have:=hnewel hokb hg (q-len) (by omega)
          simp only [hlsub]
          rwa [show inc.o+(off+len+(q-len))*i.size=ao+q*i.size by rw [show off+len+(q-len)=off+q by omega,hao,hesz,SP]; omega] at this⟩)
       rw [Ti] at p1 p2
       refine ⟨_,_,_,hrun,.sl _ A.length 0 _ _ _ ⟨inc.b,ao,len+xs.length,cap,i.size⟩ (aC.push_self g A.length _) hroom (by simp) (by simp) (fun _=>by simp),by simpa using p1,?_⟩
       refine ⟨rfl,rfl,rfl,by simp,fun b _ hu=>hblk b (fun e=>hu id inc hinc e.symm),p2,fun _ h=>h,fun k j hj=>?_,fun _ h=>.inl h,fun b r hb _=>(hblk b (fun e=>by rw [e,hh] at hb; cases hb)).trans hb,fun k i hi _=>by
        by_cases e1:k=A.length
        ·subst e1; rw [hA.out _ (SK _)] at hi; cases hi
        ·simp [aC.push,e1]⟩
       unfold aC.push at hj
       split at hj
       ·simp at hj; subst hj; exact .inl ⟨id,inc,hinc,rfl⟩
       ·exact .inl ⟨k,j,hj,rfl⟩
    ·
     obtain ⟨k,hk,hrun⟩:=ej (ty:=ty) (base:=some ⟨inc.b,ao,none⟩) (sLen:=len) (sCap:=cap) (olds:=olds) ht hx hi hz hlen hnews holds (by omega) hb0 hb
     have hel2:=eG.append hrelo hrel (Builtin.zeroCells z.cells (k-(len+xs.length)))
     have hcs2:(olds++news++Builtin.zeroCells z.cells (k-(len+xs.length))).size=k*i.size:=by
      simp only [UX,dx,hrel.1,hrelo.1,hzs,hlsub]
      rw [<-SP,<-SP]; congr 1; omega
     ·simp only [Sx,SH] at he
      obtain ⟨rfl,rfl⟩:=he
      obtain ⟨q1,q2⟩:=hkl.pushRow (w':={{w with drawn:=w.drawn+1} with heap:=w.heap.push (.cells (olds++news++Builtin.zeroCells z.cells (k-(len+xs.length))) e)}) _ e (0,0) rfl rfl rfl rfl (cV _) i.size k false ((es.drop off).take len++xs) (by rw [SW,hlsub]; exact hk) (by rw [hcs2]; exact SK _) hel2
      rw [Ti] at q1 q2
      have hlen2:((es.drop off).take len++xs).length=len+xs.length:=by rw [SW,hlsub]
      rw [hlen2] at q1 q2
      exact ⟨_,_,_,hrun,.sl _ A.length 0 _ _ _ _ (aC.push_self g A.length _) hk (by simp) (by simp) (fun _=>by simp),by simpa using q1,q2⟩
   ·cases he
  ·rename_i id off len
   split at he
   ·rename_i s' gr es hid
    simp only [Sw,Sx,SH] at he
    obtain ⟨⟨rfl,hpos,hb0,hx0,hb⟩,rfl,rfl⟩:=he
    obtain ⟨inc,ao,hinc,rfl,hn,hcap,ha⟩:=h1.inv_csl
    obtain ⟨hlt',hrow⟩:=Sp.1 hid
    have hent:=hA.ent id hlt'
    rw [hrow] at hent
    obtain ⟨hesz,hne,hnc,c,T,fz,hh,hu,hcs,hel⟩:=hent.2 inc hinc
    have h1':a9 w OK g (.slice (some ⟨inc.b,ao,none⟩) len len) (.sl id off len):=.sl _ id off len len ao inc hinc (SK _) hn hcap ha
    obtain ⟨olds,holds,hrelo⟩:=dl (P:=P) hA h1' (show a8 i.size A (.sl id off len)=some ((es.drop off).take len) by simp [a8,hid]) len (by simp; omega)
    have hlsub:((es.drop off).take len).length=len:=by simp; omega
    rw [SR (by omega)] at hrelo
    obtain ⟨k,hk,hrun⟩:=ej (ty:=ty) (base:=some ⟨inc.b,ao,none⟩) (sLen:=len) (sCap:=len) (olds:=olds) ht hx hi hz hlen hnews holds (by omega) hb0 hb
    have hel2:=eG.append hrelo hrel (Builtin.zeroCells z.cells (k-(len+xs.length)))
    have hcs2:(olds++news++Builtin.zeroCells z.cells (k-(len+xs.length))).size=k*i.size:=by
     simp only [UX,dx,hrel.1,hrelo.1,hzs,hlsub]
     rw [<-SP,<-SP]; congr 1; omega
    obtain ⟨q1,q2⟩:=hA.pushRow (w':={{w with drawn:=w.drawn+1} with heap:=w.heap.push (.cells (olds++news++Builtin.zeroCells z.cells (k-(len+xs.length))) e)}) _ e (0,0) rfl rfl rfl rfl (cV _) i.size k false ((es.drop off).take len++xs) (by rw [SW,hlsub]; exact hk) (by rw [hcs2]; exact SK _) hel2
    have hlen2:((es.drop off).take len++xs).length=len+xs.length:=by rw [SW,hlsub]
    rw [hlen2] at q1 q2
    exact ⟨_,_,_,hrun,.sl _ A.length 0 _ _ _ _ (aC.push_self g A.length _) hk (by simp) (by simp) (fun _=>by simp),q1,q2⟩
   ·cases he
  ·cases he
def nD (esz:Nat) (z:AV) (A:ac):AV->Option (AV × ac)
 | .nilS=>some (.tup [],A)
 | .sl id off len=>
  match A[id]? with
  | some (.row s' gr es)=>
   if s'=esz/\0<esz/\gr=false/\z.solid=true/\off+len<=es.length then some (.tup [],A.set id (.row esz false (es.take off++List.replicate len z++es.drop (off+len)))) else none
  | _=>none
 | _=>none
theorem ue {za a1 r:AV} {A':ac} (ht:P.underlying t=some (.slice e)) (hi:P.info? e=some i) (hz:i.zero=some z) (hzs:z.cells.size=i.size)
  (hA:cM w OK g A) (hzr:a9 w OK g z za) (h1:a9 w OK g v1 a1) (he:nD i.size za A a1=some (r,A')):z7 P w OK g (Builtin.clear_ #[t] ty #[v1]) r A':=by
 unfold nD at he
 split at he
 ·obtain ⟨p0,rfl⟩:=h1.inv_nilS
  simp only [Sx,SH] at he
  obtain ⟨rfl,rfl⟩:=he
  refine ⟨.tuple #[],w,g,?_,.tup _ _ _ (by simp) (fun _=>undef) (fun i hi=>by simp at hi) (fun i hi=>by simp at hi),hA,Ext.refl _ _ _⟩
  cases p0 <;> simp [Builtin.clear_,ay ht]
 ·rename_i id off len
  split at he
  ·rename_i s' gr es hid
   simp only [Sw,Sx,SH] at he
   obtain ⟨⟨rfl,hpos,rfl,hsol,hol⟩,rfl,rfl⟩:=he
   obtain ⟨inc,cap,ao,hinc,rfl,hl,hn,hcap,ha⟩:=h1.inv_sl
   obtain ⟨hlt',hrow⟩:=Sp.1 hid
   have hdead:A[id]?≠some Ent.dead:=by rw [hid]; simp
   have hent:=hA.ent id hlt'
   rw [hrow] at hent
   obtain ⟨h0,hinv⟩:=hent
   obtain ⟨hone,hnn⟩:=h0 rfl
   obtain ⟨hesz,hne,hnc,c,T,fz,hh,hu,hcs,hel⟩:=hinv inc hinc
   have hnn':=hnn inc hinc
   obtain ⟨hcsz,hok,_⟩:=hzr.cells hsol
   obtain ⟨news,hnews⟩:∃news,news=Builtin.zeroCells z.cells len:=⟨_,rfl⟩
   have hns:news.size=len*i.size:=by rw [hnews,dx,hzs]
   have hrel:eG w OK g i.size news (List.replicate len za):=⟨by rw [hns]; simp,fun j hj=>by
    simp only [List.length_replicate] at hj
    simp only [List.getElem_replicate]
    refine ⟨z,hzr,hzs,hok,fun q hq=>?_⟩
    have hlt:j*i.size+q<len*i.size:=by
     have:(j+1)*i.size<=len*i.size:=ST _ (by omega)
     rw [SP] at this; omega
    have hmod:q % i.size=q:=Nat.mod_eq_of_lt hq
    rw [hnews]
    unfold Builtin.zeroCells
    rw [Array.getElem?_map,S0 (by simpa [hzs] using hlt)]
    simp [hmod,hzs,hq]⟩
   have honec:=hrel.one hpos
   have hnl:news.toList.length=len*i.size:=by rw [Tc,hns]
   have hfit:inc.o+off*i.size+news.toList.length<=c.size:=by
    have:(off+len)*i.size<=inc.cap*i.size:=ST _ (by omega)
    rw [SP] at this
    rw [hnl]; omega
   have hst:(storeCells ⟨inc.b,ao,none⟩ news.toList).run P w=.ok () (w.setRow inc.b (splice c (inc.o+off*i.size) news.toList)):=by
    by_cases hc0:cap=0
    ·have hn0:len=0:=by omega
     have:news.toList=[]:=S8.1 (by rw [hnl,hn0,UU])
     rw [this]
     simp only [splice,S5,UG,Ts,Ua,UE]
     rw [setRow_self w inc.b c T fz hh]; rfl
    ·have hao:=ha hc0
     have:=cn P inc.b ao T fz news.toList 0 c w hh hu (by rw [hao,hesz,Ts]; exact hfit) honec
     rw [this,Ts,hao,hesz]
   have hblk:∀b,b≠inc.b->(w.setRow inc.b (splice c (inc.o+off*i.size) news.toList)).heap[b]?=w.heap[b]?:=fun b hb=>setRow_other w inc.b b _ hb
   have hxe:∀x∈g id,x=inc:=fun x hx=>by
    match hgi:g id,hone,hx,hinc with
    | [],_,hx,_=>cases hx
    | [y],_,hx,hinc=>simp at hx hinc; rw [hx,hinc]
    | _ :: _ :: _,ho,_,_=>simp at ho
   have hl2:(es.take off++List.replicate len za++es.drop (off+len)).length=es.length:=by simp; omega
   obtain ⟨s1,s2⟩:=hA.turn (w':=w.setRow inc.b (splice c (inc.o+off*i.size) news.toList)) (g':=g) id hlt' hdead inc hinc (by simp) rfl rfl rfl hblk (fun r hr _=>by rw [hh] at hr; cases hr) g.le_refl (fun _ _=>rfl) (fun i hi=>⟨i,hi,rfl⟩)
    (fun i i' hi hi' e=>(hA.one id id i i' hdead hdead hi hi' e).2) (.row i.size false (es.take off++List.replicate len za++es.drop (off+len))) (fun hokb=>by
     refine ⟨fun _=>⟨hone,fun x hx=>by rw [hl2]; exact hnn x hx⟩,fun x hx=>?_⟩
     obtain rfl:=hxe x hx
     refine ⟨hesz,by rw [hl2]; exact hne,hnc,_,T,fz,setRow_heap w x.b c _ T fz hh,ce hu _ _ hfit,by rw [cE _ _ _ hfit]; exact hcs,fun j hj hjn=>?_⟩
     rw [hl2] at hj
     by_cases c1:j<off
     ·rw [SS (by simp; omega),SS (by simp; omega),TG]
      refine cI.mono (cI.splice_out (hel j hj hjn) hfit (.inl ?_)) (fun _ h=>h) hokb g.le_refl
      have:(j+1)*i.size<=off*i.size:=ST _ c1
      rw [SP] at this; omega
     ·by_cases c2:j<off+len
      ·rw [SS (by simp; omega),Td (by simp; omega)]
       have hto:(es.take off).length=off:=by simp; omega
       simp only [hto]
       obtain ⟨u,u1,u2,u3,u4⟩:=hrel.2 (j-off) (by simp; omega)
       refine ⟨u,u1.mono (fun _ h=>h) hokb g g.le_refl,u2,u3,fun q hq=>?_⟩
       have hjq:(j-off)*i.size+q<news.toList.length:=by
        rw [hnl]
        have:(j-off+1)*i.size<=len*i.size:=ST _ (by omega)
        rw [SP] at this; omega
       have e1:=dw c (x.o+off*i.size) news.toList hfit _ hjq
       have e2:x.o+j*i.size+q=x.o+off*i.size+((j-off)*i.size+q):=by
        have:j*i.size=off*i.size+(j-off)*i.size:=by rw [<-SP]; congr 1; omega
        omega
       rw [e2,e1]
       simpa using u4 q hq
      ·rw [Td (by simp; omega),Tv]
       have hto:(es.take off++List.replicate len za).length=off+len:=by simp; omega
       simp only [hto,show off+len+(j-(off+len))=j by omega]
       refine cI.mono (cI.splice_out (hel j hj hjn) hfit (.inr ?_)) (fun _ h=>h) hokb g.le_refl
       have:(off+len)*i.size<=j*i.size:=ST _ (by omega)
       rw [SP] at this
       rw [hnl]; omega) (fun _=>rfl)
   refine ⟨.tuple #[],_,g,?_,.tup _ _ _ (by simp) (fun _=>undef) (fun i hi=>by simp at hi) (fun i hi=>by simp at hi),s1,s2⟩
   subst hnews
   by_cases hlen0:len=0
   ·subst hlen0
    have hnil:(Builtin.zeroCells z.cells 0).toList=[]:=S8.1 (by rw [hnl]; omega)
    rw [hnil] at hst ⊢
    have e0:w.setRow inc.b (splice c (inc.o+off*i.size) [])=w:=by
     simp only [splice,S5,UG,Ts,Ua,UE]
     exact setRow_self w inc.b c T fz hh
    rw [e0]
    simp [Builtin.clear_,ay ht]
   ·simp only [Builtin.clear_,Sem.run_bind,ay ht,Result.andThen_ok,T9,Tp]
    rw [cz hi hz]
    simp only [Result.andThen_ok,hst]
    rfl
  ·cases he
 ·cases he
end
end Go.Proofs.YtkcjhljbgjpklaaGreat
