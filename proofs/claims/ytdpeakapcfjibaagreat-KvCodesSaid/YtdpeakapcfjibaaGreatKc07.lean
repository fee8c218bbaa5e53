/- Texts laid into one file: L, B, T, OpenS. -/
import Derived.Test.YtdpeakapcfjibaaGreatKc06
set_option linter.unusedVariables false
set_option linter.unusedSimpArgs false
namespace Go.Proofs.YtdpeakapcfjibaaGreat.Mir
open Go Go.RowKit
theorem wpS_app_eq {P : Program} : ∀ (l1 l2 : List SI) (s : St) (K : St → Prop),wpS P (l1 ++ l2) s K = wpS P l1 s fun s'=>wpS P l2 s' K
  | [],l2,s,K=>rfl
  | i :: l1,l2,s,K=>by
    simp only [List.cons_append,wpS,wpS_app_eq l1 l2]
theorem wpS_app {P : Program} {l1 l2 : List SI} {s : St} {K : St → Prop} (h : ∀ K' : St → Prop,(∀ s',wpS P l2 s' K → K' s') → wpS P l1 s K') : wpS P (l1 ++ l2) s K:=by
  rw [wpS_app_eq]
  exact h _ fun _ h=>h
abbrev kI (n : Int) : SV:=.c (.f (.v (.int .i64 n)))
abbrev kT : SV:=.c (.f (.v (.bool true)))
abbrev kF : SV:=.c (.f (.v (.bool false)))
abbrev kN : SV:=.c (.f (.v (.slice none 0 0)))
abbrev kC (f : Nat) : SV:=.c (.fn f [])
abbrev jN : D:=.f (.v (.slice none 0 0))
abbrev jF : D:=.f (.v (.bool false))
abbrev jm (t x : Nat) : SI:=.a t (.mv (.t x))
abbrev jl (t x : Nat) : SI:=.a t (.load1 (.t x))
abbrev jo (t o x : Nat) : SI:=.a t (.off o (.t x))
abbrev jn (t x : Nat) : SI:=.a t (.nilc (.t x))
abbrev gM (t x g : Nat) (b : Bool) : SI:=.g (some t) (.mv (.t x)) g b
abbrev gL (t x g : Nat) (b : Bool) : SI:=.g (some t) (.load1 (.t x)) g b
abbrev gO (t o x g : Nat) (b : Bool) : SI:=.g (some t) (.off o (.t x)) g b
abbrev gN (t x g : Nat) (b : Bool) : SI:=.g (some t) (.nilc (.t x)) g b
abbrev je (t x : Nat) : SI:=.a t (.slen (.t x))
abbrev jx (t n x i : Nat) : SI:=.a t (.idx n (.t x) (.t i))
abbrev jL (t n x : Nat) : SI:=.a t (.loadA n (.t x))
abbrev jE (t n x : Nat) : SI:=.a t (.ext n (.t x))
abbrev jb (t : Nat) (op : BinOp) (x : Nat) (k : Int) : SI:=.a t (.bin op (.t x) (kI k))
abbrev jB (t : Nat) (op : BinOp) (x y : Nat) : SI:=.a t (.bin op (.t x) (.t y))
abbrev jk (t : Nat) (k : Int) : SI:=.a t (.mv (kI k))
abbrev jG (t : Nat) (o : SOp) (g : Nat) (b : Bool) : SI:=.g (some t) o g b
abbrev jq (l : List SI) (y : SCode) : SCode:=.seq (.ops l) y
abbrev jc (t : Nat) (x y : SCode) : SCode:=.cond (.t t) x y
def ap (a b : List SI) : List SI:=a ++ b
theorem W_mv {P : Program} {ts : List D} {H : List Row} {K : D → List Row → Prop} (x : SV) : stepS P ts H (.mv x) K = (K (x.ev ts) H):=id rfl
theorem W_pick {P : Program} {ts : List D} {H : List Row} {K : D → List Row → Prop} (c a b : SV) : stepS P ts H (.pick c a b) K = (pickS (c.ev ts) (K (a.ev ts) H) (K (b.ev ts) H)):=id rfl
theorem W_alloc {P : Program} {ts : List D} {H : List Row} {K : D → List Row → Prop} (T : TypeId) (z : List D) : stepS P ts H (.alloc T z) K = (K (.pt H.length 0) (H ++ [.box T z])):=id rfl
theorem W_box {P : Program} {ts : List D} {H : List Row} {K : D → List Row → Prop} (T : TypeId) (x : SV) : stepS P ts H (.box T x) K = (bind' (boxD (x.ev ts)) fun cs=>K (.pt H.length 0) (H ++ [.box T cs])):=id rfl
theorem W_load1 {P : Program} {ts : List D} {H : List Row} {K : D → List Row → Prop} (a : SV) : stepS P ts H (.load1 a) K = (bind' (load1 H (a.ev ts)) fun d=>K d H):=id rfl
theorem W_loadA {P : Program} {ts : List D} {H : List Row} {K : D → List Row → Prop} (n : Nat) (a : SV) : stepS P ts H (.loadA n a) K = (bind' (loadA H n (a.ev ts)) fun d=>K d H):=id rfl
theorem W_store {P : Program} {ts : List D} {H : List Row} {K : D → List Row → Prop} (n : Nat) (a x : SV) : stepS P ts H (.store n a x) K = (bind' (storeS P H n (a.ev ts) (x.ev ts)) fun H'=>K D.undef H'):=id rfl
theorem W_nilc {P : Program} {ts : List D} {H : List Row} {K : D → List Row → Prop} (x : SV) : stepS P ts H (.nilc x) K = (bind' (nilcD (x.ev ts)) fun d=>K d H):=id rfl
theorem W_off {P : Program} {ts : List D} {H : List Row} {K : D → List Row → Prop} (o : Nat) (a : SV) : stepS P ts H (.off o a) K = (bind' (offD o (a.ev ts)) fun d=>K d H):=id rfl
theorem W_fld1 {P : Program} {ts : List D} {H : List Row} {K : D → List Row → Prop} (o : Nat) (x : SV) : stepS P ts H (.fld1 o x) K = (bind' (fld1 o (x.ev ts)) fun d=>K d H):=id rfl
theorem W_fldA {P : Program} {ts : List D} {H : List Row} {K : D → List Row → Prop} (o n : Nat) (x : SV) : stepS P ts H (.fldA o n x) K = (bind' (fldA o n (x.ev ts)) fun d=>K d H):=id rfl
theorem W_idx {P : Program} {ts : List D} {H : List Row} {K : D → List Row → Prop} (sz : Nat) (x i : SV) : stepS P ts H (.idx sz x i) K = (idxS sz (x.ev ts) (i.ev ts) fun d=>K d H):=id rfl
theorem W_arr {P : Program} {ts : List D} {H : List Row} {K : D → List Row → Prop} (sz n : Nat) (x i : SV) : stepS P ts H (.arr sz n x i) K = (arrS sz n (x.ev ts) (i.ev ts) fun d=>K d H):=id rfl
theorem W_ext {P : Program} {ts : List D} {H : List Row} {K : D → List Row → Prop} (i : Nat) (x : SV) : stepS P ts H (.ext i x) K = (bind' (extD i (x.ev ts)) fun d=>K d H):=id rfl
theorem W_bin {P : Program} {ts : List D} {H : List Row} {K : D → List Row → Prop} (op : BinOp) (x y : SV) : stepS P ts H (.bin op x y) K = (binS op (x.ev ts) (y.ev ts) fun d=>K d H):=id rfl
theorem W_binb {P : Program} {ts : List D} {H : List Row} {K : D → List Row → Prop} (op : BinOp) (x y : SV) : stepS P ts H (.binb op x y) K = (binbS op (x.ev ts) (y.ev ts) fun d=>K d H):=id rfl
theorem W_aeq {P : Program} {ts : List D} {H : List Row} {K : D → List Row → Prop} (eq : Bool) (ks : List Nat) (x y : SV) : stepS P ts H (.aeq eq ks x y) K = (aeqS eq ks (x.ev ts) (y.ev ts) fun d=>K d H):=id rfl
theorem W_nilq {P : Program} {ts : List D} {H : List Row} {K : D → List Row → Prop} (eq : Bool) (k : Nat) (x y : SV) : stepS P ts H (.nilq eq k x y) K = (nilqS k (x.ev ts) (y.ev ts) fun b=>K (D.bool (if eq then b else !b)) H):=id rfl
theorem W_unot {P : Program} {ts : List D} {H : List Row} {K : D → List Row → Prop} (x : SV) : stepS P ts H (.unot x) K = (bind' (notS (x.ev ts)) fun d=>K d H):=id rfl
theorem W_fn {P : Program} {ts : List D} {H : List Row} {K : D → List Row → Prop} (f : FuncId) (caps : List SV) : stepS P ts H (.fn f caps) K = (K (.fn f (caps.map (SV.ev ts))) H):=id rfl
theorem W_mkmap {P : Program} {ts : List D} {H : List Row} {K : D → List Row → Prop}  : stepS P ts H (.mkmap) K = (K (.mp H.length) (H ++ [.map []])):=id rfl
theorem W_mkslice {P : Program} {ts : List D} {H : List Row} {K : D → List Row → Prop} (T : TypeId) (sz b : Nat) (z : List F) (l c : SV) : stepS P ts H (.mkslice T sz b z l c) K = (bind' (intOf? (l.ev ts)) fun a=>bind' (intOf? (c.ev ts)) fun c=>((0 < a ∨ c = 0) ∧ 0 ≤ a ∧ a ≤ c ∧ b * c ≤ 140737488355328 ∧ c.toNat * sz ≤ 16777216) ∧ K (.sl H.length 0 a.toNat) (H ++ [.data T ((List.range (a.toNat * sz)).map fun j=>z.getD (j % sz) (.v Go.undef))])):=id rfl
theorem W_bld {P : Program} {ts : List D} {H : List Row} {K : D → List Row → Prop} (z : List D) (parts : List (Nat × Nat × SV)) : stepS P ts H (.bld z parts) K = (bind' (fillS z (parts.map fun p=>(p.1,p.2.1,p.2.2.ev ts))) fun ds=>K (.ag ds) H):=id rfl
theorem W_bsl {P : Program} {ts : List D} {H : List Row} {K : D → List Row → Prop} (T : TypeId) (sz len : Nat) (z : List D) (parts : List (Nat × SV)) : stepS P ts H (.bsl T sz len z parts) K = (bind' (fillS z (parts.map fun p=>(p.1,sz,p.2.ev ts))) fun ds=>bind' (freezeAll P H ds) fun xu=>K (.sl H.length 0 len) (applyUpd H xu.2 ++ [.data T xu.1])):=id rfl
theorem W_app {P : Program} {ts : List D} {H : List Row} {K : D → List Row → Prop} (T : TypeId) (sz b : Nat) (s x : SV) : stepS P ts H (.app T sz b s x) K = (appS H T sz b (s.ev ts) (x.ev ts) K):=id rfl
theorem W_slen {P : Program} {ts : List D} {H : List Row} {K : D → List Row → Prop} (x : SV) : stepS P ts H (.slen x) K = (bind' (slcS (x.ev ts)) fun n=>K (D.int n) H):=id rfl
theorem W_mlen {P : Program} {ts : List D} {H : List Row} {K : D → List Row → Prop} (x : SV) : stepS P ts H (.mlen x) K = (bind' (mapEs H (x.ev ts)) fun es=>K (D.int es.length) H):=id rfl
theorem W_conv {P : Program} {ts : List D} {H : List Row} {K : D → List Row → Prop} (k : IntKind) (x : SV) : stepS P ts H (.conv k x) K = (bind' (convS k (x.ev ts)) fun d=>K d H):=id rfl
theorem W_s2b {P : Program} {ts : List D} {H : List Row} {K : D → List Row → Prop} (x : SV) : stepS P ts H (.s2b x) K = (bind' (strOf? (x.ev ts)) fun s=>s.size ≤ most ∧ K (.f (.s (s.data.toList.map fun b=>.v (.int .u8 b.toNat)) s.size)) H):=id rfl
theorem W_b2s {P : Program} {ts : List D} {H : List Row} {K : D → List Row → Prop} (x : SV) : stepS P ts H (.b2s x) K = (bind' (elemsS H 1 (x.ev ts)) fun p=>bind' (bytesOf? (p.2.map .f)) fun l=>p.2.length = p.1 ∧ K (.f (.v (.string ⟨l.toArray⟩))) H):=id rfl
theorem W_strlen {P : Program} {ts : List D} {H : List Row} {K : D → List Row → Prop} (x : SV) : stepS P ts H (.strlen x) K = (bind' (strOf? (x.ev ts)) fun s=>K (D.int s.size) H):=id rfl
theorem W_aidx {P : Program} {ts : List D} {H : List Row} {K : D → List Row → Prop} (sz n : Nat) (x i : SV) : stepS P ts H (.aidx sz n x i) K = (aidxS sz n (x.ev ts) (i.ev ts) fun d=>K d H):=id rfl
theorem W_sidx {P : Program} {ts : List D} {H : List Row} {K : D → List Row → Prop} (x i : SV) : stepS P ts H (.sidx x i) K = (bind' (strOf? (x.ev ts)) fun s=>bind' (intOf? (i.ev ts)) fun i=>bind' (if 0 ≤ i then s.data.toList[i.toNat]? else none) fun b=>K (.f (.v (.int .u8 b.toNat))) H):=id rfl
theorem W_ssub {P : Program} {ts : List D} {H : List Row} {K : D → List Row → Prop} (x : SV) (lo hi : Option SV) : stepS P ts H (.ssub x lo hi) K = (bind' (ssubS (x.ev ts) (lo.map (SV.ev ts)) (hi.map (SV.ev ts))) fun d=>K d H):=id rfl
theorem W_look {P : Program} {ts : List D} {H : List Row} {K : D → List Row → Prop} (ok : Bool) (K0 : TypeId) (z : D) (m k : SV) : stepS P ts H (.look ok K0 z m k) K = (bind' (lookS P H ok K0 z (m.ev ts) (k.ev ts)) fun d=>K d H):=id rfl
theorem W_mput {P : Program} {ts : List D} {H : List Row} {K : D → List Row → Prop} (K0 : TypeId) (m k x : SV) : stepS P ts H (.mput K0 m k x) K = (bind' (mputS P H K0 (m.ev ts) (k.ev ts) (x.ev ts)) fun H'=>K D.undef H'):=id rfl
theorem W_mdel {P : Program} {ts : List D} {H : List Row} {K : D → List Row → Prop} (K0 : TypeId) (m k : SV) : stepS P ts H (.mdel K0 m k) K = (bind' (mdelS P H K0 (m.ev ts) (k.ev ts)) fun H'=>K (.tp []) H'):=id rfl
theorem W_mm {P : Program} {ts : List D} {H : List Row} {K : D → List Row → Prop} (mx : Bool) (x y : SV) : stepS P ts H (.mm mx x y) K = (bind' (intOf? (x.ev ts)) fun a=>bind' (intOf? (y.ev ts)) fun b=>K (D.int (if mx then max a b else min a b)) H):=id rfl
theorem W_call {P : Program} {ts : List D} {H : List Row} {K : D → List Row → Prop} (f : SV) (args : List SV) : stepS P ts H (.call f args) K = (callW P (f.ev ts) (args.map (SV.ev ts)) H K):=id rfl
theorem W_sub0 {P : Program} {ts : List D} {H : List Row} {K : D → List Row → Prop} (sz : Nat) (E : TypeId) (x : SV) : stepS P ts H (.sub sz E x none none none) K = (bind' (slcS (x.ev ts)) fun n=>(0 ≤ (0:Int) ∧ (0:Int) ≤ n ∧ (n:Int) ≤ n) ∧ bind' (subS H sz E (x.ev ts) (0:Int).toNat (n:Int).toNat) fun d=>K d H):=id rfl
theorem W_subl {P : Program} {ts : List D} {H : List Row} {K : D → List Row → Prop} (sz : Nat) (E : TypeId) (x l : SV) : stepS P ts H (.sub sz E x (some l) none none) K = (bind' (slcS (x.ev ts)) fun n=>bind' (intOf? (l.ev ts)) fun l=>(0 ≤ l ∧ l ≤ n ∧ (n:Int) ≤ n) ∧ bind' (subS H sz E (x.ev ts) l.toNat (n:Int).toNat) fun d=>K d H):=id rfl
theorem W_subh {P : Program} {ts : List D} {H : List Row} {K : D → List Row → Prop} (sz : Nat) (E : TypeId) (x h : SV) : stepS P ts H (.sub sz E x none (some h) none) K = (bind' (slcS (x.ev ts)) fun n=>bind' (intOf? (h.ev ts)) fun h=>(0 ≤ (0:Int) ∧ 0 ≤ h ∧ h ≤ n) ∧ bind' (subS H sz E (x.ev ts) (0:Int).toNat h.toNat) fun d=>K d H):=id rfl
theorem W_sublh {P : Program} {ts : List D} {H : List Row} {K : D → List Row → Prop} (sz : Nat) (E : TypeId) (x l h : SV) : stepS P ts H (.sub sz E x (some l) (some h) none) K = (bind' (slcS (x.ev ts)) fun n=>bind' (intOf? (l.ev ts)) fun l=>bind' (intOf? (h.ev ts)) fun h=>(0 ≤ l ∧ l ≤ h ∧ h ≤ n) ∧ bind' (subS H sz E (x.ev ts) l.toNat h.toNat) fun d=>K d H):=id rfl
theorem W_subm {P : Program} {ts : List D} {H : List Row} {K : D → List Row → Prop} (sz : Nat) (E : TypeId) (x l h m : SV) : stepS P ts H (.sub sz E x (some l) (some h) (some m)) K = (bind' (slcS (x.ev ts)) fun n=>bind' (intOf? (l.ev ts)) fun l=>bind' (intOf? (h.ev ts)) fun h=>(0 ≤ l ∧ l ≤ h ∧ h ≤ n) ∧ (intOf? (m.ev ts) = some l ∧ l = h ∧ (some h).isSome = true) ∧ K (mxS (x.ev ts)) H):=id rfl
theorem W_subm0 {P : Program} {ts : List D} {H : List Row} {K : D → List Row → Prop} (sz : Nat) (E : TypeId) (x h m : SV) : stepS P ts H (.sub sz E x none (some h) (some m)) K = (bind' (slcS (x.ev ts)) fun n=>bind' (intOf? (h.ev ts)) fun h=>(0 ≤ (0:Int) ∧ 0 ≤ h ∧ h ≤ n) ∧ (intOf? (m.ev ts) = some 0 ∧ (0:Int) = h ∧ (some h).isSome = true) ∧ K (mxS (x.ev ts)) H):=id rfl
theorem ev_t {ts : List D} {n : Nat} : (SV.t n).ev ts = ts.getD n D.undef:=id rfl
theorem ev_c {ts : List D} {d : D} : (SV.c d).ev ts = d:=id rfl
theorem boxD_f {x : F} : boxD (.f x) = some ([.f x]):=id rfl
theorem okCell_f {x : F} : okCell (.f x) = true:=id rfl
theorem cells_f {x : F} : (D.f x).cells = [.f x]:=id rfl
theorem boxD_sl {r o n : Nat} : boxD (.sl r o n) = some ([.sl r o n]):=id rfl
theorem okCell_sl {r o n : Nat} : okCell (.sl r o n) = true:=id rfl
theorem cells_sl {r o n : Nat} : (D.sl r o n).cells = [.sl r o n]:=id rfl
theorem boxD_pt {r o : Nat} : boxD (.pt r o) = some ([.pt r o]):=id rfl
theorem okCell_pt {r o : Nat} : okCell (.pt r o) = true:=id rfl
theorem cells_pt {r o : Nat} : (D.pt r o).cells = [.pt r o]:=id rfl
theorem boxD_mp {r : Nat} : boxD (.mp r) = some ([.mp r]):=id rfl
theorem okCell_mp {r : Nat} : okCell (.mp r) = true:=id rfl
theorem cells_mp {r : Nat} : (D.mp r).cells = [.mp r]:=id rfl
theorem boxD_rf {xs : List F} : boxD (.rf xs) = some ([.rf xs]):=id rfl
theorem okCell_rf {xs : List F} : okCell (.rf xs) = true:=id rfl
theorem cells_rf {xs : List F} : (D.rf xs).cells = [.rf xs]:=id rfl
theorem boxD_ag {ds : List D} : boxD (.ag ds) = some (ds):=id rfl
theorem okCell_ag {ds : List D} : okCell (.ag ds) = true:=id rfl
theorem cells_ag {ds : List D} : (D.ag ds).cells = ds:=id rfl
theorem boxD_fn {f : FuncId} {ds : List D} : boxD (.fn f ds) = some ([.fn f ds]):=id rfl
theorem okCell_fn {f : FuncId} {ds : List D} : okCell (.fn f ds) = true:=id rfl
theorem cells_fn {f : FuncId} {ds : List D} : (D.fn f ds).cells = [.fn f ds]:=id rfl
def load1R (o : Option Row) (off : Nat) : Option D:=match o with
  | some row=>match row.cells with
    | some xs=>xs[off]?
    | none=>none
  | none=>none
theorem load1_pt {H : List Row} {r off : Nat} : load1 H (.pt r off) = load1R H[r]? off:=id rfl
theorem load1_rf {H : List Row} {xs : List F} : load1 H (.rf xs) = (xs[0]?).map .f:=id rfl
theorem load1R_box {T : TypeId} {ds : List D} {off : Nat} : load1R (some (.box T ds)) off = ds[off]?:=id rfl
theorem load1R_data {T : TypeId} {xs : List F} {off : Nat} : load1R (some (.data T xs)) off = (xs[off]?).map .f:=by simp [load1R,Row.cells]
theorem load1R_froz {T : TypeId} {xs : List F} {off : Nat} : load1R (some (.froz T xs)) off = (xs[off]?).map .f:=by simp [load1R,Row.cells]
def loadAR (n : Nat) (o : Option Row) (off : Nat) : Option D:=match o with
  | some row=>match row.cells with
    | some xs=>if off + n ≤ xs.length then some (.ag ((xs.drop off).take n)) else none
    | none=>none
  | none=>none
theorem loadA_pt {H : List Row} {n r off : Nat} : loadA H n (.pt r off) = loadAR n H[r]? off:=id rfl
theorem loadA_rf {H : List Row} {n : Nat} {xs : List F} : loadA H n (.rf xs) = if n ≤ xs.length then some (.ag ((xs.map .f).take n)) else none:=id rfl
theorem loadAR_box {n : Nat} {T : TypeId} {ds : List D} {off : Nat} : loadAR n (some (.box T ds)) off = if off + n ≤ ds.length then some (.ag ((ds.drop off).take n)) else none:=id rfl
theorem loadAR_data {n : Nat} {T : TypeId} {xs : List F} {off : Nat} : loadAR n (some (.data T xs)) off = if off + n ≤ xs.length then some (.ag (((xs.drop off).take n).map .f)) else none:=by simp [loadAR,Row.cells,List.map_take,List.map_drop]
theorem loadAR_froz {n : Nat} {T : TypeId} {xs : List F} {off : Nat} : loadAR n (some (.froz T xs)) off = if off + n ≤ xs.length then some (.ag (((xs.drop off).take n).map .f)) else none:=by simp [loadAR,Row.cells,List.map_take,List.map_drop]
theorem offD_pt {o r off : Nat} : offD o (.pt r off) = some (.pt r (off + o)):=id rfl
theorem offD_rf {o : Nat} {xs : List F} : offD o (.rf xs) = some (.rf (xs.drop o)):=id rfl
theorem fld1_ag {o : Nat} {ds : List D} : fld1 o (.ag ds) = ds[o]?:=id rfl
theorem fldA_ag {o n : Nat} {ds : List D} : fldA o n (.ag ds) = if o + n ≤ ds.length then some (.ag ((ds.drop o).take n)) else none:=id rfl
theorem nilcD_pt {r o : Nat} : nilcD (.pt r o) = some (.pt r o):=id rfl
theorem nilcD_rf {xs : List F} : nilcD (.rf xs) = some (.rf xs):=id rfl
theorem nilcD_fn {f : FuncId} {cs : List D} : nilcD (.fn f cs) = some (.fn f cs):=id rfl
theorem extD_tp {i : Nat} {ds : List D} : extD i (.tp ds) = ds[i]?:=id rfl
def storeR (P : Program) (H : List Row) (n r off : Nat) (x : D) (o : Option Row) : Option (List Row):=match o with
  | some (.box U xs)=>if okCell x = true ∧ x.cells.length = n ∧ off + n ≤ xs.length then some (H.set r (.box U (putL off x.cells xs))) else none
  | some (.data U xs)=>if okCell x = true ∧ x.cells.length = n ∧ off + n ≤ xs.length ∧ 0 < n then
      match freezeAll P H x.cells with
      | some (ys,us)=>match (applyUpd H us)[r]? with
        | some (.data U ws)=>some ((applyUpd H us).set r (.data U (splice ws off ys)))
        | _=>none
      | none=>none
    else none
  | _=>none
theorem splice_one {α : Type} {xs : List α} {off : Nat} {x : α} (h : off < xs.length) : splice xs off [x] = xs.set off x:=by
  rw [List.set_eq_take_append_cons_drop,if_pos h]
  simp [splice]
theorem storeS_pt {P : Program} {H : List Row} {n r off : Nat} {x : D} : storeS P H n (.pt r off) x = storeR P H n r off x H[r]?:=id rfl
theorem storeR_box {P : Program} {H : List Row} {n r off : Nat} {x : D} {U : TypeId} {xs : List D} : storeR P H n r off x (some (.box U xs)) = if okCell x = true ∧ x.cells.length = n ∧ off + n ≤ xs.length then some (H.set r (.box U (putL off x.cells xs))) else none:=id rfl
theorem storeR_f {P : Program} {H : List Row} {r off : Nat} {x : F} {U : TypeId} {xs : List F} (h : H[r]? = some (.data U xs)) : storeR P H 1 r off (.f x) (some (.data U xs)) = if off + 1 ≤ xs.length then some (H.set r (.data U (xs.set off x))) else none:=by
  unfold storeR
  simp only [okCell,D.cells,freezeAll,freeze1,applyUpd,List.append_nil,List.length_cons,List.length_nil,h,true_and,Nat.reduceAdd,Nat.zero_lt_one,and_true]
  split
  · rw [splice_one (by omega)]
  · rfl
theorem putL_nil0 {α : Type} {cs : List α} : putL 0 [] cs = cs:=by cases cs<;>rfl
theorem putL_cons0 {α : Type} {y c : α} {ys cs : List α} : putL 0 (y :: ys) (c :: cs) = y :: putL 0 ys cs:=id rfl
theorem putL_succ {α : Type} {n : Nat} {c : α} {ys cs : List α} : putL (n + 1) ys (c :: cs) = c :: putL n ys cs:=id rfl
theorem binS_int {op : BinOp} {k k2 : IntKind} {a b : Int} {K : D → Prop} : binS op (.f (.v (.int k a))) (.f (.v (.int k2 b))) K = (shQ op k k2 ∧ intS op k a b K):=id rfl
theorem shQ_self {op : BinOp} {k : IntKind} : shQ op k k = True:=by cases op<;>simp [shQ]
theorem shQ_shl {k k2 : IntKind} : shQ .shl k k2 = True:=id rfl
theorem shQ_shr {k k2 : IntKind} : shQ .shr k k2 = True:=id rfl
theorem binS_str {op : BinOp} {a b : ByteArray} {K : D → Prop} : binS op (.f (.v (.string a))) (.f (.v (.string b))) K = strS op a b K:=id rfl
theorem aeqS_ag {eq : Bool} {ks : List Nat} {xs ys : List D} {K : D → Prop} : aeqS eq ks (.ag xs) (.ag ys) K = bind' (eqL ks xs ys) fun b=>K (.f (.v (.bool (if eq then b else !b)))):=id rfl
theorem aidxS_ag {sz n : Nat} {ds : List D} {k : IntKind} {a : Int} {K : D → Prop} : aidxS sz n (.ag ds) (.f (.v (.int k a))) K = ((0 ≤ a ∧ a < n) ∧ bind' (ds[a.toNat * sz]?) K):=id rfl
theorem binbS_b {op : BinOp} {a b : Bool} {K : D → Prop} : binbS op (.f (.v (.bool a))) (.f (.v (.bool b))) K = boolS op a b K:=id rfl
theorem intS_shl {k : IntKind} {a b : Int} {K : D → Prop} : intS .shl k a b K = (0 ≤ b ∧ K (.f (.v (.int k (k.wrap (a * 2 ^ (min b.toNat k.bits))))))):=id rfl
theorem intS_shr {k : IntKind} {a b : Int} {K : D → Prop} : intS .shr k a b K = (0 ≤ b ∧ K (.f (.v (.int k (a.fdiv (2 ^ (min b.toNat k.bits))))))):=id rfl
theorem intS_and {k : IntKind} {a b : Int} {K : D → Prop} : intS .and k a b K = (K (.f (.v (.int k (k.wrap (BitVec.ofInt k.bits a &&& BitVec.ofInt k.bits b).toNat))))):=id rfl
theorem intS_or {k : IntKind} {a b : Int} {K : D → Prop} : intS .or k a b K = (K (.f (.v (.int k (k.wrap (BitVec.ofInt k.bits a ||| BitVec.ofInt k.bits b).toNat))))):=id rfl
theorem intS_xor {k : IntKind} {a b : Int} {K : D → Prop} : intS .xor k a b K = (K (.f (.v (.int k (k.wrap (BitVec.ofInt k.bits a ^^^ BitVec.ofInt k.bits b).toNat))))):=id rfl
theorem intS_add {k : IntKind} {a b : Int} {K : D → Prop} : intS .add k a b K = (K (.f (.v (.int k (k.wrap (a + b)))))):=id rfl
theorem intS_sub {k : IntKind} {a b : Int} {K : D → Prop} : intS .sub k a b K = (K (.f (.v (.int k (k.wrap (a - b)))))):=id rfl
theorem intS_mul {k : IntKind} {a b : Int} {K : D → Prop} : intS .mul k a b K = (K (.f (.v (.int k (k.wrap (a * b)))))):=id rfl
theorem intS_quo {k : IntKind} {a b : Int} {K : D → Prop} : intS .quo k a b K = (b ≠ 0 ∧ K (.f (.v (.int k (k.wrap (a.tdiv b)))))):=id rfl
theorem intS_rem {k : IntKind} {a b : Int} {K : D → Prop} : intS .rem k a b K = (b ≠ 0 ∧ K (.f (.v (.int k (a.tmod b))))):=id rfl
theorem intS_eql {k : IntKind} {a b : Int} {K : D → Prop} : intS .eql k a b K = (Two (a = b) (K (.f (.v (.bool true)))) (K (.f (.v (.bool false))))):=id rfl
theorem intS_neq {k : IntKind} {a b : Int} {K : D → Prop} : intS .neq k a b K = (Two (a = b) (K (.f (.v (.bool false)))) (K (.f (.v (.bool true))))):=id rfl
theorem intS_lss {k : IntKind} {a b : Int} {K : D → Prop} : intS .lss k a b K = (Two (a < b) (K (.f (.v (.bool true)))) (K (.f (.v (.bool false))))):=id rfl
theorem intS_leq {k : IntKind} {a b : Int} {K : D → Prop} : intS .leq k a b K = (Two (a ≤ b) (K (.f (.v (.bool true)))) (K (.f (.v (.bool false))))):=id rfl
theorem intS_gtr {k : IntKind} {a b : Int} {K : D → Prop} : intS .gtr k a b K = (Two (b < a) (K (.f (.v (.bool true)))) (K (.f (.v (.bool false))))):=id rfl
theorem intS_geq {k : IntKind} {a b : Int} {K : D → Prop} : intS .geq k a b K = (Two (b ≤ a) (K (.f (.v (.bool true)))) (K (.f (.v (.bool false))))):=id rfl
theorem strS_add {a b : ByteArray} {K : D → Prop} : strS .add a b K = (a.size + b.size ≤ 9223372036854775807 ∧ K (.f (.v (.string (a ++ b))))):=id rfl
theorem strS_eql {a b : ByteArray} {K : D → Prop} : strS .eql a b K = (Two (a = b) (K (.f (.v (.bool true)))) (K (.f (.v (.bool false))))):=id rfl
theorem strS_neq {a b : ByteArray} {K : D → Prop} : strS .neq a b K = (Two (a = b) (K (.f (.v (.bool false)))) (K (.f (.v (.bool true))))):=id rfl
theorem strS_lss {a b : ByteArray} {K : D → Prop} : strS .lss a b K = (Two (Op.bytesLess a.toList b.toList = true) (K (.f (.v (.bool true)))) (K (.f (.v (.bool false))))):=id rfl
theorem strS_gtr {a b : ByteArray} {K : D → Prop} : strS .gtr a b K = (Two (Op.bytesLess b.toList a.toList = true) (K (.f (.v (.bool true)))) (K (.f (.v (.bool false))))):=id rfl
theorem strS_leq {a b : ByteArray} {K : D → Prop} : strS .leq a b K = (Two (Op.bytesLess b.toList a.toList = true) (K (.f (.v (.bool false)))) (K (.f (.v (.bool true))))):=id rfl
theorem strS_geq {a b : ByteArray} {K : D → Prop} : strS .geq a b K = (Two (Op.bytesLess a.toList b.toList = true) (K (.f (.v (.bool false)))) (K (.f (.v (.bool true))))):=id rfl
theorem boolS_eql {a b : Bool} {K : D → Prop} : boolS .eql a b K = K (.f (.v (.bool (a == b)))):=id rfl
theorem boolS_neq {a b : Bool} {K : D → Prop} : boolS .neq a b K = K (.f (.v (.bool (!(a == b))))):=id rfl
theorem idxS_sl {sz r off n : Nat} {k : IntKind} {i : Int} {K : D → Prop} : idxS sz (.sl r off n) (.f (.v (.int k i))) K = ((0 ≤ i ∧ i < n) ∧ K (.pt r (off + i.toNat * sz))):=id rfl
theorem idxS_s {sz n : Nat} {xs : List F} {k : IntKind} {i : Int} {K : D → Prop} : idxS sz (.f (.s xs n)) (.f (.v (.int k i))) K = ((0 ≤ i ∧ i < n) ∧ K (.rf (xs.drop (i.toNat * sz)))):=id rfl
theorem arrS_pt {sz n r off : Nat} {k : IntKind} {i : Int} {K : D → Prop} : arrS sz n (.pt r off) (.f (.v (.int k i))) K = ((0 ≤ i ∧ i < n) ∧ K (.pt r (off + i.toNat * sz))):=id rfl
theorem pickS_t {p q : Prop} : pickS (.f (.v (.bool true))) p q = p:=Bsel_true
theorem pickS_f {p q : Prop} : pickS (.f (.v (.bool false))) p q = q:=Bsel_false
theorem pickS_b {b : Bool} {p q : Prop} : pickS (.f (.v (.bool b))) p q = Bsel b p q:=id rfl
theorem notS_b {b : Bool} : notS (.f (.v (.bool b))) = some (.f (.v (.bool (!b)))):=id rfl
theorem convS_i {k k2 : IntKind} {n : Int} : convS k (.f (.v (.int k2 n))) = some (.f (.v (.int k (k.wrap n)))):=id rfl
theorem intOf_i {n : Int} : intOf? (.f (.v (.int .i64 n))) = some n:=id rfl
theorem strOf_s {s : ByteArray} : strOf? (.f (.v (.string s))) = some s:=id rfl
theorem slcS_sl {r o n : Nat} : slcS (.sl r o n) = some n:=id rfl
theorem slcS_s {xs : List F} {n : Nat} : slcS (.f (.s xs n)) = some n:=id rfl
theorem slcS_e : slcS (.f .e) = some 0:=id rfl
theorem slcS_nil : slcS (.f (.v (.slice none 0 0))) = some 0:=id rfl
def nilR (k : Nat) (p q : Option (Nat × Bool)) : Option Bool:=match p,q with
  | some (i,a),some (j,b)=>if k = i ∧ k = j ∧ (a = true ∨ b = true) then some (a && b) else none
  | _,_=>none
theorem nilS_R {k : Nat} {x y : D} : nilS k x y = nilR k (isNil x) (isNil y):=id rfl
theorem nilR_ss {k i j : Nat} {a b : Bool} : nilR k (some (i,a)) (some (j,b)) = if k = i ∧ k = j ∧ (a = true ∨ b = true) then some (a && b) else none:=id rfl
theorem isNil_141 : isNil (.f (.v (.slice none 0 0))) = some (0,true):=id rfl
theorem isNil_142 : isNil (.f (.v (.pointer none))) = some (1,true):=id rfl
theorem isNil_143 : isNil (.f (.v (.map none))) = some (2,true):=id rfl
theorem nilq_144 {k : Nat} {y : D} {K : Bool → Prop} : nilqS k (.f (.v (.slice none 0 0))) y K = bind' (nilS k (.f (.v (.slice none 0 0))) y) K:=id rfl
theorem nilq_145 {k : Nat} {y : D} {K : Bool → Prop} : nilqS k (.f (.v (.pointer none))) y K = bind' (nilS k (.f (.v (.pointer none))) y) K:=id rfl
theorem nilq_146 {k : Nat} {y : D} {K : Bool → Prop} : nilqS k (.f (.v (.map none))) y K = bind' (nilS k (.f (.v (.map none))) y) K:=id rfl
theorem nilq_147 {k : Nat} {y : D} {K : Bool → Prop} : nilqS k (.f .e) y K = bind' (nilS k (.f .e) y) K:=id rfl
theorem nilq_148 {r o : Nat} {k : Nat} {y : D} {K : Bool → Prop} : nilqS k (.pt r o) y K = bind' (nilS k (.pt r o) y) K:=id rfl
theorem nilq_149 {r : Nat} {k : Nat} {y : D} {K : Bool → Prop} : nilqS k (.mp r) y K = bind' (nilS k (.mp r) y) K:=id rfl
theorem nilq_150 {xs : List F} {k : Nat} {y : D} {K : Bool → Prop} : nilqS k (.rf xs) y K = bind' (nilS k (.rf xs) y) K:=id rfl
theorem isNil_s {xs : List F} {n : Nat} : isNil (.f (.s xs (n + 1))) = some (0,false):=id rfl
theorem isNil_sl {r o n : Nat} : isNil (.sl r o (n + 1)) = some (0,false):=id rfl
theorem isNil_pt {r o : Nat} : isNil (.pt r o) = some (1,false):=id rfl
theorem isNil_rf {xs : List F} : isNil (.rf xs) = some (1,false):=id rfl
theorem isNil_mp {r : Nat} : isNil (.mp r) = some (2,false):=id rfl
def subR (sz : Nat) (E : TypeId) (r off l h : Nat) (o : Option Row) : Option D:=match o with
  | some (.data U xs)=>if l = h then some (.f (.s [] 0)) else if 0 < xs.length ∧ some U = some E then some (.sl r (off + l * sz) (h - l)) else none
  | some (.froz U _)=>if l = h then some (.f (.s [] 0)) else if some U = some E then some (.sl r (off + l * sz) (h - l)) else none
  | _=>if l = h then some (.f (.s [] 0)) else none
theorem subS_sl {H : List Row} {sz : Nat} {E : TypeId} {r off n l h : Nat} : subS H sz E (.sl r off n) l h = subR sz E r off l h H[r]?:=by
  unfold subS rowType subR
  dsimp only
  split<;>split<;>simp only [*]
  all_goals first|(split<;>simp_all)|simp_all
theorem subR_data {sz : Nat} {E U : TypeId} {r off l h : Nat} {xs : List F} : subR sz E r off l h (some (.data U xs)) = if l = h then some (.f (.s [] 0)) else if 0 < xs.length ∧ some U = some E then some (.sl r (off + l * sz) (h - l)) else none:=id rfl
theorem subR_froz {sz : Nat} {E U : TypeId} {r off l h : Nat} {xs : List F} : subR sz E r off l h (some (.froz U xs)) = if l = h then some (.f (.s [] 0)) else if some U = some E then some (.sl r (off + l * sz) (h - l)) else none:=id rfl
theorem subS_s {H : List Row} {sz : Nat} {E : TypeId} {xs : List F} {n l h : Nat} : subS H sz E (.f (.s xs n)) l h = some (.f (.s ((xs.drop (l * sz)).take ((h - l) * sz)) (h - l))):=id rfl
theorem subS_e {H : List Row} {sz : Nat} {E : TypeId} {l h : Nat} : subS H sz E (.f .e) l h = some (.f .e):=id rfl
theorem subS_nil {H : List Row} {sz : Nat} {E : TypeId} {l h : Nat} : subS H sz E (.f (.v (.slice none 0 0))) l h = some (.f (.v (.slice none 0 0))):=id rfl
theorem mxS_nil : mxS (.f (.v (.slice none 0 0))) = .f (.v (.slice none 0 0)):=id rfl
theorem mxS_s {xs : List F} {n : Nat} : mxS (.f (.s xs n)) = .f .e:=id rfl
theorem mxS_e : mxS (.f .e) = .f .e:=id rfl
theorem mxS_sl {r o n : Nat} : mxS (.sl r o n) = .f .e:=id rfl
theorem fillS_nil {cs : List D} : fillS cs [] = some cs:=id rfl
theorem fillS_cons {cs : List D} {off size : Nat} {d : D} {rest : List (Nat × Nat × D)} : fillS cs ((off,size,d) :: rest) = if okCell d = true ∧ d.cells.length = size ∧ off + size ≤ cs.length then fillS (putL off d.cells cs) rest else none:=id rfl
theorem freeze_nil {P : Program} {H : List Row} : freezeAll P H [] = some ([],[]):=id rfl
def freezeR (x : F) (o : Option (List F × List (Nat × Row))) : Option (List F × List (Nat × Row)):=match o with
  | some (xs,us)=>some (x :: xs,us)
  | none=>none
theorem freeze_f {P : Program} {H : List Row} {x : F} {ds : List D} : freezeAll P H (.f x :: ds) = freezeR x (freezeAll P H ds):=by
  simp only [freezeAll,freeze1,applyUpd,List.nil_append]
  cases freezeAll P H ds<;>rfl
theorem freezeR_s {x : F} {xs : List F} {us : List (Nat × Row)} : freezeR x (some (xs,us)) = some (x :: xs,us):=id rfl
theorem applyUpd_nil {H : List Row} : applyUpd H [] = H:=id rfl
theorem fs_nil : fs? [] = some []:=id rfl
theorem fs_cons {x : F} {ds : List D} : fs? (.f x :: ds) = (fs? ds).map (x :: ·):=id rfl
theorem elemsS_nil {H : List Row} {sz : Nat} : elemsS H sz (.f (.v (.slice none 0 0))) = some (0,[]):=id rfl
theorem elemsS_e {H : List Row} {sz : Nat} : elemsS H sz (.f .e) = some (0,[]):=id rfl
theorem elemsS_s {H : List Row} {sz n : Nat} {xs : List F} : elemsS H sz (.f (.s xs n)) = some (n,xs):=id rfl
def elemsR (sz off n : Nat) (o : Option Row) : Option (Nat × List F):=match o with
  | some (.data _ xs)=>if off + n * sz ≤ xs.length then some (n,(xs.drop off).take (n * sz)) else none
  | some (.froz _ xs)=>if off + n * sz ≤ xs.length then some (n,(xs.drop off).take (n * sz)) else none
  | some (.box _ ds)=>match fs? ds with
    | some xs=>if off + n * sz ≤ xs.length then some (n,(xs.drop off).take (n * sz)) else none
    | none=>none
  | _=>none
theorem elemsS_sl {H : List Row} {sz r off n : Nat} : elemsS H sz (.sl r off n) = elemsR sz off n H[r]?:=id rfl
theorem elemsR_data {sz off n : Nat} {T : TypeId} {xs : List F} : elemsR sz off n (some (.data T xs)) = if off + n * sz ≤ xs.length then some (n,(xs.drop off).take (n * sz)) else none:=id rfl
theorem elemsR_froz {sz off n : Nat} {T : TypeId} {xs : List F} : elemsR sz off n (some (.froz T xs)) = if off + n * sz ≤ xs.length then some (n,(xs.drop off).take (n * sz)) else none:=id rfl
theorem appS_nil {H : List Row} {T : TypeId} {sz b : Nat} {x : D} {K : D → List Row → Prop} : appS H T sz b (.f (.v (.slice none 0 0))) x K = bind' (elemsS H sz x) fun p=>Two (p.1 = 0) (K (.f (.v (.slice none 0 0))) H) (p.2.length = p.1 * sz ∧ p.1 * b ≤ most ∧ p.1 ≤ most ∧ K (.sl H.length 0 p.1) (H ++ [.data T p.2])):=id rfl
theorem appS_e {H : List Row} {T : TypeId} {sz b : Nat} {x : D} {K : D → List Row → Prop} : appS H T sz b (.f .e) x K = bind' (elemsS H sz x) fun p=>Two (p.1 = 0) (K (.f .e) H) (p.2.length = p.1 * sz ∧ p.1 * b ≤ most ∧ p.1 ≤ most ∧ K (.sl H.length 0 p.1) (H ++ [.data T p.2])):=id rfl
def appR (H : List Row) (T : TypeId) (sz b r off n m : Nat) (ys : List F) (K : D → List Row → Prop) (o : Option Row) : Prop:=match o with
  | some (.data U xs)=>U = T ∧ ys.length = m * sz ∧ xs.length = off + n * sz ∧ (n + m) * b ≤ most ∧ n + m ≤ most ∧ K (.sl H.length 0 (n + m)) (H.set r .dead ++ [.data T (xs.drop off ++ ys)])
  | _=>False
theorem appS_sl {H : List Row} {T : TypeId} {sz b : Nat} {x : D} {K : D → List Row → Prop} {r off n : Nat} : appS H T sz b (.sl r off n) x K = bind' (elemsS H sz x) fun p=>Two (p.1 = 0) (K (.sl r off n) H) (appR H T sz b r off n p.1 p.2 K H[r]?):=id rfl
theorem appR_data {H : List Row} {T U : TypeId} {sz b r off n m : Nat} {ys xs : List F} {K : D → List Row → Prop} : appR H T sz b r off n m ys K (some (.data U xs)) = (U = T ∧ ys.length = m * sz ∧ xs.length = off + n * sz ∧ (n + m) * b ≤ most ∧ n + m ≤ most ∧ K (.sl H.length 0 (n + m)) (H.set r .dead ++ [.data T (xs.drop off ++ ys)])):=id rfl
theorem mapEs_nil {H : List Row} : mapEs H (.f (.v (.map none))) = some []:=id rfl
def mapER (o : Option Row) : Option (List (Value × D)):=match o with
  | some (.map es)=>some es
  | _=>none
theorem mapEs_mp {H : List Row} {r : Nat} : mapEs H (.mp r) = mapER H[r]?:=id rfl
theorem mapER_map {es : List (Value × D)} : mapER (some (.map es)) = some es:=id rfl
theorem wantV_t {w : Bool} {p q : Prop} {b : Bool} : wantV (some (.f (.v (.bool b)))) w p q = if w then Bsel b p q else Bsel b q p:=id rfl
theorem wantV_u {w : Bool} {p q : Prop} {ds : List D} : wantV (some (.tp ds)) w p q = q:=id rfl
theorem Dint {n : Int} : D.int n = .f (.v (.int .i64 n)):=id rfl
theorem Dbool {b : Bool} : D.bool b = .f (.v (.bool b)):=id rfl
theorem Dv {x : Value} : D.v x = .f (.v x):=id rfl
theorem Dundef : D.undef = .tp []:=id rfl
theorem ren_nil {N r : Nat} : ren [] N r = N + r:=by simp [ren]
theorem renE_f {ρ : Nat → Nat} {x : F} : renE ρ (.f x) = .f x:=id rfl
theorem renE_sl {ρ : Nat → Nat} {r o n : Nat} : renE ρ (.sl r o n) = .sl (ρ r) o n:=id rfl
theorem renE_pt {ρ : Nat → Nat} {r o : Nat} : renE ρ (.pt r o) = .pt (ρ r) o:=id rfl
theorem renE_mp {ρ : Nat → Nat} {r : Nat} : renE ρ (.mp r) = .mp (ρ r):=id rfl
theorem renE_rf {ρ : Nat → Nat} {xs : List F} : renE ρ (.rf xs) = .rf xs:=id rfl
theorem renE_ag {ρ : Nat → Nat} {ds : List D} : renE ρ (.ag ds) = .ag (ds.map (renE ρ)):=by simp [renE,renE_go]
theorem renE_tp {ρ : Nat → Nat} {ds : List D} : renE ρ (.tp ds) = .tp (ds.map (renE ρ)):=by simp [renE,renE_go]
theorem renE_fn {ρ : Nat → Nat} {f : FuncId} {ds : List D} : renE ρ (.fn f ds) = .fn f (ds.map (renE ρ)):=by simp [renE,renE_go]
theorem renR_box {ρ : Nat → Nat} {T : TypeId} {ds : List D} : renR ρ (.box T ds) = .box T (ds.map (renE ρ)):=id rfl
theorem renR_data {ρ : Nat → Nat} {T : TypeId} {xs : List F} : renR ρ (.data T xs) = .data T xs:=id rfl
theorem renR_froz {ρ : Nat → Nat} {T : TypeId} {xs : List F} : renR ρ (.froz T xs) = .froz T xs:=id rfl
theorem renR_map {ρ : Nat → Nat} {es : List (Value × D)} : renR ρ (.map es) = .map es:=id rfl
theorem renR_dead {ρ : Nat → Nat} : renR ρ .dead = .dead:=id rfl
theorem putRows_nil {ρ : Nat → Nat} {rows H : List Row} : putRows ρ [] rows H = H:=by cases rows<;>rfl
theorem putRows_cons {ρ : Nat → Nat} {r : Nat} {ι : List Nat} {row : Row} {rows H : List Row} : putRows ρ (r :: ι) (row :: rows) H = putRows ρ ι rows (H.set r (renR ρ row)):=id rfl
theorem putD_some {ts : List D} {t : Nat} {d : D} : putD! ts (some t) d = ts.set t d:=id rfl
theorem putD_none {ts : List D} {d : D} : putD! ts none d = ts:=id rfl
theorem range_zero : List.range 0 = []:=id rfl
theorem wpDr_nil {P : Program} {b own : List Nat} {n0 i : Nat} {log : List (List Nat × List Nat)} {ts : List D} {H : List Row} {dr : List Nat} {K : St → Prop} : wpDr P b n0 [] i own log ⟨ts,H,dr⟩ K = K ⟨ts,H,[]⟩:=id rfl
def drStep (P : Program) (b own : List Nat) (n0 i : Nat) (log : List (List Nat × List Nat)) (o : SOp) (V : List Nat) (ts : List D) (H : List Row) (next : List Nat → List (List Nat × List Nat) → D → List Row → Prop) : Prop :=
  stepDr P ts (maskV V H) o fun w d H'=>H' = (effS w V H.length d H').heap (maskV V H) ∧
    Chk (chkS n0 own (b.getD i 0) V (o.vs.map (SV.ev ts)) (maskV V H) (effS w V H.length d H') log) ∧
    next (own ++ (effS w V H.length d H').news.map fun _=>i) (log ++ [(V,(effS w V H.length d H').upd.map (·.1))]) d ((effS w V H.length d H').heap H)
@[congr] theorem drStep_congr {P : Program} {b own own' : List Nat} {n0 i i' : Nat} {log log' : List (List Nat × List Nat)} {o : SOp} {V V' : List Nat} {ts ts' : List D} {H H' : List Row} {next : List Nat → List (List Nat × List Nat) → D → List Row → Prop} (h1 : own = own') (h5 : log = log') (h2 : V = V') (h3 : ts = ts') (h4 : H = H') (h6 : i = i') : drStep P b own n0 i log o V ts H next = drStep P b own' n0 i' log' o V' ts' H' next:=by rw [h1,h2,h3,h4,h5,h6]
theorem wpDr_a {P : Program} {b own : List Nat} {n0 i : Nat} {log : List (List Nat × List Nat)} {l : List SI} {ts : List D} {H : List Row} {dr : List Nat} {K : St → Prop} {t : Nat} {o : SOp} : wpDr P b n0 (.a t o :: l) i own log ⟨ts,H,dr⟩ K = drStep P b own n0 i log o (viewS ts H o) ts H fun own1 log1 d H1=>wpDr P b n0 l (i + 1) own1 log1 ⟨ts.set t d,H1,[]⟩ K:=id rfl
theorem wpDr_n {P : Program} {b own : List Nat} {n0 i : Nat} {log : List (List Nat × List Nat)} {l : List SI} {ts : List D} {H : List Row} {dr : List Nat} {K : St → Prop} {o : SOp} : wpDr P b n0 (.n o :: l) i own log ⟨ts,H,dr⟩ K = drStep P b own n0 i log o (viewS ts H o) ts H fun own1 log1 d H1=>wpDr P b n0 l (i + 1) own1 log1 ⟨ts,H1,[]⟩ K:=id rfl
theorem wpDr_g {P : Program} {b own : List Nat} {n0 i : Nat} {log : List (List Nat × List Nat)} {l : List SI} {ts : List D} {H : List Row} {dr : List Nat} {K : St → Prop} {d : Option Nat} {t : Nat} {w : Bool} {o : SOp} : wpDr P b n0 (.g d o t w :: l) i own log ⟨ts,H,dr⟩ K = wantV ts[t]? w (drStep P b own n0 i log o (viewS ts H o) ts H fun own1 log1 r H1=>wpDr P b n0 l (i + 1) own1 log1 ⟨putD! ts d r,H1,[]⟩ K) (wpDr P b n0 l (i + 1) own (log ++ [([],[])]) ⟨putD! ts d D.undef,H,[]⟩ K):=id rfl
theorem drStep_def {P : Program} {b own : List Nat} {n0 i : Nat} {log : List (List Nat × List Nat)} {o : SOp} {V : List Nat} {ts : List D} {H : List Row} {next : List Nat → List (List Nat × List Nat) → D → List Row → Prop} : drStep P b own n0 i log o V ts H next = stepDr P ts (maskV V H) o fun w d H1=>H1 = (effS w V H.length d H1).heap (maskV V H) ∧ Chk (chkS n0 own (b.getD i 0) V (o.vs.map (SV.ev ts)) (maskV V H) (effS w V H.length d H1) log) ∧ next (own ++ (effS w V H.length d H1).news.map fun _=>i) (log ++ [(V,(effS w V H.length d H1).upd.map (·.1))]) d ((effS w V H.length d H1).heap H):=id rfl
theorem stepDr_mv {P : Program} {ts : List D} {H : List Row} {K : Bool → D → List Row → Prop} (x : SV) : stepDr P ts H (.mv x) K = ((K false) (x.ev ts) H):=id rfl
theorem viewS_mv {ts : List D} {H : List Row} (x : SV) : viewS ts H (.mv x) = []:=id rfl
theorem turns_mv (x : SV) : SOp.turns (.mv x) = false:=id rfl
theorem stepDr_pick {P : Program} {ts : List D} {H : List Row} {K : Bool → D → List Row → Prop} (c a b : SV) : stepDr P ts H (.pick c a b) K = (pickS (c.ev ts) ((K false) (a.ev ts) H) ((K false) (b.ev ts) H)):=id rfl
theorem viewS_pick {ts : List D} {H : List Row} (c a b : SV) : viewS ts H (.pick c a b) = []:=id rfl
theorem turns_pick (c a b : SV) : SOp.turns (.pick c a b) = false:=id rfl
theorem stepDr_alloc {P : Program} {ts : List D} {H : List Row} {K : Bool → D → List Row → Prop} (T : TypeId) (z : List D) : stepDr P ts H (.alloc T z) K = ((K false) (.pt H.length 0) (H ++ [.box T z])):=id rfl
theorem viewS_alloc {ts : List D} {H : List Row} (T : TypeId) (z : List D) : viewS ts H (.alloc T z) = []:=id rfl
theorem turns_alloc (T : TypeId) (z : List D) : SOp.turns (.alloc T z) = false:=id rfl
theorem stepDr_box {P : Program} {ts : List D} {H : List Row} {K : Bool → D → List Row → Prop} (T : TypeId) (x : SV) : stepDr P ts H (.box T x) K = (bind' (boxD (x.ev ts)) fun cs=>(K false) (.pt H.length 0) (H ++ [.box T cs])):=id rfl
theorem viewS_box {ts : List D} {H : List Row} (T : TypeId) (x : SV) : viewS ts H (.box T x) = []:=id rfl
theorem turns_box (T : TypeId) (x : SV) : SOp.turns (.box T x) = false:=id rfl
theorem stepDr_load1 {P : Program} {ts : List D} {H : List Row} {K : Bool → D → List Row → Prop} (a : SV) : stepDr P ts H (.load1 a) K = (bind' (load1 H (a.ev ts)) fun d=>(K false) d H):=id rfl
theorem viewS_load1 {ts : List D} {H : List Row} (a : SV) : viewS ts H (.load1 a) = dedN (refsL ([a.ev ts])):=id rfl
theorem turns_load1 (a : SV) : SOp.turns (.load1 a) = false:=id rfl
theorem stepDr_loadA {P : Program} {ts : List D} {H : List Row} {K : Bool → D → List Row → Prop} (n : Nat) (a : SV) : stepDr P ts H (.loadA n a) K = (bind' (loadA H n (a.ev ts)) fun d=>(K false) d H):=id rfl
theorem viewS_loadA {ts : List D} {H : List Row} (n : Nat) (a : SV) : viewS ts H (.loadA n a) = dedN (refsL ([a.ev ts])):=id rfl
theorem turns_loadA (n : Nat) (a : SV) : SOp.turns (.loadA n a) = false:=id rfl
theorem stepDr_store {P : Program} {ts : List D} {H : List Row} {K : Bool → D → List Row → Prop} (n : Nat) (a x : SV) : stepDr P ts H (.store n a x) K = (bind' (storeS P H n (a.ev ts) (x.ev ts)) fun H'=>(K true) D.undef H'):=id rfl
theorem viewS_store {ts : List D} {H : List Row} (n : Nat) (a x : SV) : viewS ts H (.store n a x) = dedN (refsL ([a.ev ts,x.ev ts])):=id rfl
theorem turns_store (n : Nat) (a x : SV) : SOp.turns (.store n a x) = true:=id rfl
theorem stepDr_nilc {P : Program} {ts : List D} {H : List Row} {K : Bool → D → List Row → Prop} (x : SV) : stepDr P ts H (.nilc x) K = (bind' (nilcD (x.ev ts)) fun d=>(K false) d H):=id rfl
theorem viewS_nilc {ts : List D} {H : List Row} (x : SV) : viewS ts H (.nilc x) = []:=id rfl
theorem turns_nilc (x : SV) : SOp.turns (.nilc x) = false:=id rfl
theorem stepDr_off {P : Program} {ts : List D} {H : List Row} {K : Bool → D → List Row → Prop} (o : Nat) (a : SV) : stepDr P ts H (.off o a) K = (bind' (offD o (a.ev ts)) fun d=>(K false) d H):=id rfl
theorem viewS_off {ts : List D} {H : List Row} (o : Nat) (a : SV) : viewS ts H (.off o a) = []:=id rfl
theorem turns_off (o : Nat) (a : SV) : SOp.turns (.off o a) = false:=id rfl
theorem stepDr_fld1 {P : Program} {ts : List D} {H : List Row} {K : Bool → D → List Row → Prop} (o : Nat) (x : SV) : stepDr P ts H (.fld1 o x) K = (bind' (fld1 o (x.ev ts)) fun d=>(K false) d H):=id rfl
theorem viewS_fld1 {ts : List D} {H : List Row} (o : Nat) (x : SV) : viewS ts H (.fld1 o x) = []:=id rfl
theorem turns_fld1 (o : Nat) (x : SV) : SOp.turns (.fld1 o x) = false:=id rfl
theorem stepDr_fldA {P : Program} {ts : List D} {H : List Row} {K : Bool → D → List Row → Prop} (o n : Nat) (x : SV) : stepDr P ts H (.fldA o n x) K = (bind' (fldA o n (x.ev ts)) fun d=>(K false) d H):=id rfl
theorem viewS_fldA {ts : List D} {H : List Row} (o n : Nat) (x : SV) : viewS ts H (.fldA o n x) = []:=id rfl
theorem turns_fldA (o n : Nat) (x : SV) : SOp.turns (.fldA o n x) = false:=id rfl
theorem stepDr_idx {P : Program} {ts : List D} {H : List Row} {K : Bool → D → List Row → Prop} (sz : Nat) (x i : SV) : stepDr P ts H (.idx sz x i) K = (idxS sz (x.ev ts) (i.ev ts) fun d=>(K false) d H):=id rfl
theorem viewS_idx {ts : List D} {H : List Row} (sz : Nat) (x i : SV) : viewS ts H (.idx sz x i) = []:=id rfl
theorem turns_idx (sz : Nat) (x i : SV) : SOp.turns (.idx sz x i) = false:=id rfl
theorem stepDr_arr {P : Program} {ts : List D} {H : List Row} {K : Bool → D → List Row → Prop} (sz n : Nat) (x i : SV) : stepDr P ts H (.arr sz n x i) K = (arrS sz n (x.ev ts) (i.ev ts) fun d=>(K false) d H):=id rfl
theorem viewS_arr {ts : List D} {H : List Row} (sz n : Nat) (x i : SV) : viewS ts H (.arr sz n x i) = []:=id rfl
theorem turns_arr (sz n : Nat) (x i : SV) : SOp.turns (.arr sz n x i) = false:=id rfl
theorem stepDr_ext {P : Program} {ts : List D} {H : List Row} {K : Bool → D → List Row → Prop} (i : Nat) (x : SV) : stepDr P ts H (.ext i x) K = (bind' (extD i (x.ev ts)) fun d=>(K false) d H):=id rfl
theorem viewS_ext {ts : List D} {H : List Row} (i : Nat) (x : SV) : viewS ts H (.ext i x) = []:=id rfl
theorem turns_ext (i : Nat) (x : SV) : SOp.turns (.ext i x) = false:=id rfl
theorem stepDr_bin {P : Program} {ts : List D} {H : List Row} {K : Bool → D → List Row → Prop} (op : BinOp) (x y : SV) : stepDr P ts H (.bin op x y) K = (binS op (x.ev ts) (y.ev ts) fun d=>(K false) d H):=id rfl
theorem viewS_bin {ts : List D} {H : List Row} (op : BinOp) (x y : SV) : viewS ts H (.bin op x y) = []:=id rfl
theorem turns_bin (op : BinOp) (x y : SV) : SOp.turns (.bin op x y) = false:=id rfl
theorem stepDr_binb {P : Program} {ts : List D} {H : List Row} {K : Bool → D → List Row → Prop} (op : BinOp) (x y : SV) : stepDr P ts H (.binb op x y) K = (binbS op (x.ev ts) (y.ev ts) fun d=>(K false) d H):=id rfl
theorem viewS_binb {ts : List D} {H : List Row} (op : BinOp) (x y : SV) : viewS ts H (.binb op x y) = []:=id rfl
theorem turns_binb (op : BinOp) (x y : SV) : SOp.turns (.binb op x y) = false:=id rfl
theorem stepDr_aeq {P : Program} {ts : List D} {H : List Row} {K : Bool → D → List Row → Prop} (eq : Bool) (ks : List Nat) (x y : SV) : stepDr P ts H (.aeq eq ks x y) K = (aeqS eq ks (x.ev ts) (y.ev ts) fun d=>(K false) d H):=id rfl
theorem viewS_aeq {ts : List D} {H : List Row} (eq : Bool) (ks : List Nat) (x y : SV) : viewS ts H (.aeq eq ks x y) = []:=id rfl
theorem turns_aeq (eq : Bool) (ks : List Nat) (x y : SV) : SOp.turns (.aeq eq ks x y) = false:=id rfl
theorem stepDr_unot {P : Program} {ts : List D} {H : List Row} {K : Bool → D → List Row → Prop} (x : SV) : stepDr P ts H (.unot x) K = (bind' (notS (x.ev ts)) fun d=>(K false) d H):=id rfl
theorem viewS_unot {ts : List D} {H : List Row} (x : SV) : viewS ts H (.unot x) = []:=id rfl
theorem turns_unot (x : SV) : SOp.turns (.unot x) = false:=id rfl
theorem stepDr_fn {P : Program} {ts : List D} {H : List Row} {K : Bool → D → List Row → Prop} (f : FuncId) (caps : List SV) : stepDr P ts H (.fn f caps) K = ((K false) (.fn f (caps.map (SV.ev ts))) H):=id rfl
theorem viewS_fn {ts : List D} {H : List Row} (f : FuncId) (caps : List SV) : viewS ts H (.fn f caps) = []:=id rfl
theorem turns_fn (f : FuncId) (caps : List SV) : SOp.turns (.fn f caps) = false:=id rfl
theorem stepDr_mkmap {P : Program} {ts : List D} {H : List Row} {K : Bool → D → List Row → Prop}  : stepDr P ts H (.mkmap) K = ((K false) (.mp H.length) (H ++ [.map []])):=id rfl
theorem viewS_mkmap {ts : List D} {H : List Row}  : viewS ts H (.mkmap) = []:=id rfl
theorem turns_mkmap  : SOp.turns (.mkmap) = false:=id rfl
theorem stepDr_mkslice {P : Program} {ts : List D} {H : List Row} {K : Bool → D → List Row → Prop} (T : TypeId) (sz b : Nat) (z : List F) (l c : SV) : stepDr P ts H (.mkslice T sz b z l c) K = (bind' (intOf? (l.ev ts)) fun a=>bind' (intOf? (c.ev ts)) fun c=>((0 < a ∨ c = 0) ∧ 0 ≤ a ∧ a ≤ c ∧ b * c ≤ 140737488355328 ∧ c.toNat * sz ≤ 16777216) ∧ (K false) (.sl H.length 0 a.toNat) (H ++ [.data T ((List.range (a.toNat * sz)).map fun j=>z.getD (j % sz) (.v Go.undef))])):=id rfl
theorem viewS_mkslice {ts : List D} {H : List Row} (T : TypeId) (sz b : Nat) (z : List F) (l c : SV) : viewS ts H (.mkslice T sz b z l c) = []:=id rfl
theorem turns_mkslice (T : TypeId) (sz b : Nat) (z : List F) (l c : SV) : SOp.turns (.mkslice T sz b z l c) = false:=id rfl
theorem stepDr_bld {P : Program} {ts : List D} {H : List Row} {K : Bool → D → List Row → Prop} (z : List D) (parts : List (Nat × Nat × SV)) : stepDr P ts H (.bld z parts) K = (bind' (fillS z (parts.map fun p=>(p.1,p.2.1,p.2.2.ev ts))) fun ds=>(K false) (.ag ds) H):=id rfl
theorem viewS_bld {ts : List D} {H : List Row} (z : List D) (parts : List (Nat × Nat × SV)) : viewS ts H (.bld z parts) = []:=id rfl
theorem turns_bld (z : List D) (parts : List (Nat × Nat × SV)) : SOp.turns (.bld z parts) = false:=id rfl
theorem stepDr_bsl {P : Program} {ts : List D} {H : List Row} {K : Bool → D → List Row → Prop} (T : TypeId) (sz len : Nat) (z : List D) (parts : List (Nat × SV)) : stepDr P ts H (.bsl T sz len z parts) K = (bind' (fillS z (parts.map fun p=>(p.1,sz,p.2.ev ts))) fun ds=>bind' (freezeAll P H ds) fun xu=>(K true) (.sl H.length 0 len) (applyUpd H xu.2 ++ [.data T xu.1])):=id rfl
theorem viewS_bsl {ts : List D} {H : List Row} (T : TypeId) (sz len : Nat) (z : List D) (parts : List (Nat × SV)) : viewS ts H (.bsl T sz len z parts) = dedN (refsL ((parts.map fun p=>p.2).map (SV.ev ts))):=id rfl
theorem turns_bsl (T : TypeId) (sz len : Nat) (z : List D) (parts : List (Nat × SV)) : SOp.turns (.bsl T sz len z parts) = true:=id rfl
theorem stepDr_app {P : Program} {ts : List D} {H : List Row} {K : Bool → D → List Row → Prop} (T : TypeId) (sz b : Nat) (s x : SV) : stepDr P ts H (.app T sz b s x) K = (appS H T sz b (s.ev ts) (x.ev ts) (K true)):=id rfl
theorem viewS_app {ts : List D} {H : List Row} (T : TypeId) (sz b : Nat) (s x : SV) : viewS ts H (.app T sz b s x) = dedN (refsL ([s.ev ts,x.ev ts])):=id rfl
theorem turns_app (T : TypeId) (sz b : Nat) (s x : SV) : SOp.turns (.app T sz b s x) = true:=id rfl
theorem stepDr_slen {P : Program} {ts : List D} {H : List Row} {K : Bool → D → List Row → Prop} (x : SV) : stepDr P ts H (.slen x) K = (bind' (slcS (x.ev ts)) fun n=>(K false) (D.int n) H):=id rfl
theorem viewS_slen {ts : List D} {H : List Row} (x : SV) : viewS ts H (.slen x) = []:=id rfl
theorem turns_slen (x : SV) : SOp.turns (.slen x) = false:=id rfl
theorem stepDr_mlen {P : Program} {ts : List D} {H : List Row} {K : Bool → D → List Row → Prop} (x : SV) : stepDr P ts H (.mlen x) K = (bind' (mapEs H (x.ev ts)) fun es=>(K false) (D.int es.length) H):=id rfl
theorem viewS_mlen {ts : List D} {H : List Row} (x : SV) : viewS ts H (.mlen x) = dedN (refsL ([x.ev ts])):=id rfl
theorem turns_mlen (x : SV) : SOp.turns (.mlen x) = false:=id rfl
theorem stepDr_conv {P : Program} {ts : List D} {H : List Row} {K : Bool → D → List Row → Prop} (k : IntKind) (x : SV) : stepDr P ts H (.conv k x) K = (bind' (convS k (x.ev ts)) fun d=>(K false) d H):=id rfl
theorem viewS_conv {ts : List D} {H : List Row} (k : IntKind) (x : SV) : viewS ts H (.conv k x) = []:=id rfl
theorem turns_conv (k : IntKind) (x : SV) : SOp.turns (.conv k x) = false:=id rfl
theorem stepDr_s2b {P : Program} {ts : List D} {H : List Row} {K : Bool → D → List Row → Prop} (x : SV) : stepDr P ts H (.s2b x) K = (bind' (strOf? (x.ev ts)) fun s=>s.size ≤ most ∧ (K false) (.f (.s (s.data.toList.map fun b=>.v (.int .u8 b.toNat)) s.size)) H):=id rfl
theorem viewS_s2b {ts : List D} {H : List Row} (x : SV) : viewS ts H (.s2b x) = []:=id rfl
theorem turns_s2b (x : SV) : SOp.turns (.s2b x) = false:=id rfl
theorem stepDr_b2s {P : Program} {ts : List D} {H : List Row} {K : Bool → D → List Row → Prop} (x : SV) : stepDr P ts H (.b2s x) K = (bind' (elemsS H 1 (x.ev ts)) fun p=>bind' (bytesOf? (p.2.map .f)) fun l=>p.2.length = p.1 ∧ (K false) (.f (.v (.string ⟨l.toArray⟩))) H):=id rfl
theorem viewS_b2s {ts : List D} {H : List Row} (x : SV) : viewS ts H (.b2s x) = dedN (refsL ([x.ev ts])):=id rfl
theorem turns_b2s (x : SV) : SOp.turns (.b2s x) = false:=id rfl
theorem stepDr_strlen {P : Program} {ts : List D} {H : List Row} {K : Bool → D → List Row → Prop} (x : SV) : stepDr P ts H (.strlen x) K = (bind' (strOf? (x.ev ts)) fun s=>(K false) (D.int s.size) H):=id rfl
theorem viewS_strlen {ts : List D} {H : List Row} (x : SV) : viewS ts H (.strlen x) = []:=id rfl
theorem turns_strlen (x : SV) : SOp.turns (.strlen x) = false:=id rfl
theorem stepDr_aidx {P : Program} {ts : List D} {H : List Row} {K : Bool → D → List Row → Prop} (sz n : Nat) (x i : SV) : stepDr P ts H (.aidx sz n x i) K = (aidxS sz n (x.ev ts) (i.ev ts) fun d=>(K false) d H):=id rfl
theorem viewS_aidx {ts : List D} {H : List Row} (sz n : Nat) (x i : SV) : viewS ts H (.aidx sz n x i) = []:=id rfl
theorem turns_aidx (sz n : Nat) (x i : SV) : SOp.turns (.aidx sz n x i) = false:=id rfl
theorem stepDr_sidx {P : Program} {ts : List D} {H : List Row} {K : Bool → D → List Row → Prop} (x i : SV) : stepDr P ts H (.sidx x i) K = (bind' (strOf? (x.ev ts)) fun s=>bind' (intOf? (i.ev ts)) fun i=>bind' (if 0 ≤ i then s.data.toList[i.toNat]? else none) fun b=>(K false) (.f (.v (.int .u8 b.toNat))) H):=id rfl
theorem viewS_sidx {ts : List D} {H : List Row} (x i : SV) : viewS ts H (.sidx x i) = []:=id rfl
theorem turns_sidx (x i : SV) : SOp.turns (.sidx x i) = false:=id rfl
theorem stepDr_ssub {P : Program} {ts : List D} {H : List Row} {K : Bool → D → List Row → Prop} (x : SV) (lo hi : Option SV) : stepDr P ts H (.ssub x lo hi) K = (bind' (ssubS (x.ev ts) (lo.map (SV.ev ts)) (hi.map (SV.ev ts))) fun d=>(K false) d H):=id rfl
theorem viewS_ssub {ts : List D} {H : List Row} (x : SV) (lo hi : Option SV) : viewS ts H (.ssub x lo hi) = []:=id rfl
theorem turns_ssub (x : SV) (lo hi : Option SV) : SOp.turns (.ssub x lo hi) = false:=id rfl
theorem stepDr_look {P : Program} {ts : List D} {H : List Row} {K : Bool → D → List Row → Prop} (ok : Bool) (K0 : TypeId) (z : D) (m k : SV) : stepDr P ts H (.look ok K0 z m k) K = (bind' (lookS P H ok K0 z (m.ev ts) (k.ev ts)) fun d=>(K false) d H):=id rfl
theorem viewS_look {ts : List D} {H : List Row} (ok : Bool) (K0 : TypeId) (z : D) (m k : SV) : viewS ts H (.look ok K0 z m k) = dedN (refsL ([m.ev ts,k.ev ts])):=id rfl
theorem turns_look (ok : Bool) (K0 : TypeId) (z : D) (m k : SV) : SOp.turns (.look ok K0 z m k) = false:=id rfl
theorem stepDr_mput {P : Program} {ts : List D} {H : List Row} {K : Bool → D → List Row → Prop} (K0 : TypeId) (m k x : SV) : stepDr P ts H (.mput K0 m k x) K = (bind' (mputS P H K0 (m.ev ts) (k.ev ts) (x.ev ts)) fun H'=>(K true) D.undef H'):=id rfl
theorem viewS_mput {ts : List D} {H : List Row} (K0 : TypeId) (m k x : SV) : viewS ts H (.mput K0 m k x) = dedN (refsL ([m.ev ts,k.ev ts,x.ev ts])):=id rfl
theorem turns_mput (K0 : TypeId) (m k x : SV) : SOp.turns (.mput K0 m k x) = true:=id rfl
theorem stepDr_mdel {P : Program} {ts : List D} {H : List Row} {K : Bool → D → List Row → Prop} (K0 : TypeId) (m k : SV) : stepDr P ts H (.mdel K0 m k) K = (bind' (mdelS P H K0 (m.ev ts) (k.ev ts)) fun H'=>(K true) (.tp []) H'):=id rfl
theorem viewS_mdel {ts : List D} {H : List Row} (K0 : TypeId) (m k : SV) : viewS ts H (.mdel K0 m k) = dedN (refsL ([m.ev ts,k.ev ts])):=id rfl
theorem turns_mdel (K0 : TypeId) (m k : SV) : SOp.turns (.mdel K0 m k) = true:=id rfl
theorem stepDr_mm {P : Program} {ts : List D} {H : List Row} {K : Bool → D → List Row → Prop} (mx : Bool) (x y : SV) : stepDr P ts H (.mm mx x y) K = (bind' (intOf? (x.ev ts)) fun a=>bind' (intOf? (y.ev ts)) fun b=>(K false) (D.int (if mx then max a b else min a b)) H):=id rfl
theorem viewS_mm {ts : List D} {H : List Row} (mx : Bool) (x y : SV) : viewS ts H (.mm mx x y) = []:=id rfl
theorem turns_mm (mx : Bool) (x y : SV) : SOp.turns (.mm mx x y) = false:=id rfl
theorem stepDr_call {P : Program} {ts : List D} {H : List Row} {K : Bool → D → List Row → Prop} (f : SV) (args : List SV) : stepDr P ts H (.call f args) K = callDr P (f.ev ts) (args.map (SV.ev ts)) H K:=id rfl
theorem viewS_call {ts : List D} {H : List Row} (f : SV) (args : List SV) : viewS ts H (.call f args) = dedN (lvl H (lvl H (lvl H (refsL (args.map (SV.ev ts)) ++ (f.ev ts).refs)))):=id rfl
theorem turns_call (f : SV) (args : List SV) : SOp.turns (.call f args) = true:=id rfl
theorem stepDr_sub0 {P : Program} {ts : List D} {H : List Row} {K : Bool → D → List Row → Prop} (sz : Nat) (E : TypeId) (x : SV) : stepDr P ts H (.sub sz E x none none none) K = (bind' (slcS (x.ev ts)) fun n=>(0 ≤ (0:Int) ∧ (0:Int) ≤ n ∧ (n:Int) ≤ n) ∧ bind' (subS H sz E (x.ev ts) (0:Int).toNat (n:Int).toNat) fun d=>(K false) d H):=id rfl
theorem viewS_sub0 {ts : List D} {H : List Row} (sz : Nat) (E : TypeId) (x : SV) : viewS ts H (.sub sz E x none none none) = dedN (refsL ([x.ev ts])):=id rfl
theorem turns_sub0 (sz : Nat) (E : TypeId) (x : SV) : SOp.turns (.sub sz E x none none none) = false:=id rfl
theorem stepDr_subl {P : Program} {ts : List D} {H : List Row} {K : Bool → D → List Row → Prop} (sz : Nat) (E : TypeId) (x l : SV) : stepDr P ts H (.sub sz E x (some l) none none) K = (bind' (slcS (x.ev ts)) fun n=>bind' (intOf? (l.ev ts)) fun l=>(0 ≤ l ∧ l ≤ n ∧ (n:Int) ≤ n) ∧ bind' (subS H sz E (x.ev ts) l.toNat (n:Int).toNat) fun d=>(K false) d H):=id rfl
theorem viewS_subl {ts : List D} {H : List Row} (sz : Nat) (E : TypeId) (x l : SV) : viewS ts H (.sub sz E x (some l) none none) = dedN (refsL ([x.ev ts,l.ev ts])):=id rfl
theorem turns_subl (sz : Nat) (E : TypeId) (x l : SV) : SOp.turns (.sub sz E x (some l) none none) = false:=id rfl
theorem stepDr_subh {P : Program} {ts : List D} {H : List Row} {K : Bool → D → List Row → Prop} (sz : Nat) (E : TypeId) (x h : SV) : stepDr P ts H (.sub sz E x none (some h) none) K = (bind' (slcS (x.ev ts)) fun n=>bind' (intOf? (h.ev ts)) fun h=>(0 ≤ (0:Int) ∧ 0 ≤ h ∧ h ≤ n) ∧ bind' (subS H sz E (x.ev ts) (0:Int).toNat h.toNat) fun d=>(K false) d H):=id rfl
theorem viewS_subh {ts : List D} {H : List Row} (sz : Nat) (E : TypeId) (x h : SV) : viewS ts H (.sub sz E x none (some h) none) = dedN (refsL ([x.ev ts,h.ev ts])):=id rfl
theorem turns_subh (sz : Nat) (E : TypeId) (x h : SV) : SOp.turns (.sub sz E x none (some h) none) = false:=id rfl
theorem stepDr_sublh {P : Program} {ts : List D} {H : List Row} {K : Bool → D → List Row → Prop} (sz : Nat) (E : TypeId) (x l h : SV) : stepDr P ts H (.sub sz E x (some l) (some h) none) K = (bind' (slcS (x.ev ts)) fun n=>bind' (intOf? (l.ev ts)) fun l=>bind' (intOf? (h.ev ts)) fun h=>(0 ≤ l ∧ l ≤ h ∧ h ≤ n) ∧ bind' (subS H sz E (x.ev ts) l.toNat h.toNat) fun d=>(K false) d H):=id rfl
theorem viewS_sublh {ts : List D} {H : List Row} (sz : Nat) (E : TypeId) (x l h : SV) : viewS ts H (.sub sz E x (some l) (some h) none) = dedN (refsL ([x.ev ts,l.ev ts,h.ev ts])):=id rfl
theorem turns_sublh (sz : Nat) (E : TypeId) (x l h : SV) : SOp.turns (.sub sz E x (some l) (some h) none) = false:=id rfl
theorem stepDr_subm {P : Program} {ts : List D} {H : List Row} {K : Bool → D → List Row → Prop} (sz : Nat) (E : TypeId) (x l h m : SV) : stepDr P ts H (.sub sz E x (some l) (some h) (some m)) K = (bind' (slcS (x.ev ts)) fun n=>bind' (intOf? (l.ev ts)) fun l=>bind' (intOf? (h.ev ts)) fun h=>(0 ≤ l ∧ l ≤ h ∧ h ≤ n) ∧ (intOf? (m.ev ts) = some l ∧ l = h ∧ (some h).isSome = true) ∧ (K false) (mxS (x.ev ts)) H):=id rfl
theorem viewS_subm {ts : List D} {H : List Row} (sz : Nat) (E : TypeId) (x l h m : SV) : viewS ts H (.sub sz E x (some l) (some h) (some m)) = dedN (refsL ([x.ev ts,l.ev ts,h.ev ts,m.ev ts])):=id rfl
theorem turns_subm (sz : Nat) (E : TypeId) (x l h m : SV) : SOp.turns (.sub sz E x (some l) (some h) (some m)) = false:=id rfl
theorem stepDr_subm0 {P : Program} {ts : List D} {H : List Row} {K : Bool → D → List Row → Prop} (sz : Nat) (E : TypeId) (x h m : SV) : stepDr P ts H (.sub sz E x none (some h) (some m)) K = (bind' (slcS (x.ev ts)) fun n=>bind' (intOf? (h.ev ts)) fun h=>(0 ≤ (0:Int) ∧ 0 ≤ h ∧ h ≤ n) ∧ (intOf? (m.ev ts) = some 0 ∧ (0:Int) = h ∧ (some h).isSome = true) ∧ (K false) (mxS (x.ev ts)) H):=id rfl
theorem viewS_subm0 {ts : List D} {H : List Row} (sz : Nat) (E : TypeId) (x h m : SV) : viewS ts H (.sub sz E x none (some h) (some m)) = dedN (refsL ([x.ev ts,h.ev ts,m.ev ts])):=id rfl
theorem turns_subm0 (sz : Nat) (E : TypeId) (x h m : SV) : SOp.turns (.sub sz E x none (some h) (some m)) = false:=id rfl
def hasB : List Nat → Nat → Bool
  | [],_=>false
  | x :: xs,i=>if x = i then true else hasB xs i
theorem hasB_eq : ∀ (V : List Nat) (i : Nat),hasB V i = V.contains i
  | [],_=>rfl
  | x :: xs,i=>by
    simp only [hasB,List.contains_cons,hasB_eq xs i]
    by_cases h : x = i
    · simp [h]
    · simp [h,Ne.symm h]
def msk (V : List Nat) : Nat → List Row → List Row
  | _,[]=>[]
  | i,r :: H=>(if hasB V i = true then r else .dead) :: msk V (i + 1) H
theorem msk_eq (V : List Nat) : ∀ (H : List Row) (k : Nat),((H.zipIdx k).map fun p=>if V.contains p.2 then p.1 else .dead) = msk V k H
  | [],_=>rfl
  | r :: H,k=>by
    simp only [List.zipIdx_cons,List.map_cons,msk,hasB_eq]
    rw [msk_eq V H (k + 1)]
theorem maskV_msk {V : List Nat} {H : List Row} : maskV V H = msk V 0 H:=msk_eq V H 0
theorem msk_nil {V : List Nat} {i : Nat} : msk V i [] = []:=id rfl
theorem msk_cons {V : List Nat} {i : Nat} {r : Row} {H : List Row} : msk V i (r :: H) = (if hasB V i = true then r else .dead) :: msk V (i + 1) H:=id rfl
theorem hasB_nil {i : Nat} : hasB [] i = false:=id rfl
theorem hasB_cons {x i : Nat} {xs : List Nat} : hasB (x :: xs) i = if x = i then true else hasB xs i:=id rfl
theorem dedN_nil : dedN [] = []:=id rfl
theorem dedN_cons {x : Nat} {xs : List Nat} : dedN (x :: xs) = if hasB xs x = true then dedN xs else x :: dedN xs:=by rw [hasB_eq];rfl
theorem refsL_nil : refsL [] = []:=id rfl
theorem refsL_cons {d : D} {ds : List D} : refsL (d :: ds) = d.refs ++ refsL ds:=id rfl
theorem refs_f {x : F} : D.refs (.f x) = []:=id rfl
theorem refs_sl {r o n : Nat} : D.refs (.sl r o n) = [r]:=id rfl
theorem refs_pt {r o : Nat} : D.refs (.pt r o) = [r]:=id rfl
theorem refs_mp {r : Nat} : D.refs (.mp r) = [r]:=id rfl
theorem refs_rf {xs : List F} : D.refs (.rf xs) = []:=id rfl
theorem refs_junk : D.refs .junk = []:=id rfl
theorem refs_goL (ds : List D) : D.refs.go ds = refsL ds:=by
  induction ds with
  | nil=>rfl
  | cons d ds ih=>simp only [D.refs.go,refsL,ih]
theorem refs_ag {ds : List D} : D.refs (.ag ds) = refsL ds:=by rw [D.refs,refs_goL]
theorem refs_tp {ds : List D} : D.refs (.tp ds) = refsL ds:=by rw [D.refs,refs_goL]
theorem refs_fn {f : FuncId} {ds : List D} : D.refs (.fn f ds) = refsL ds:=by rw [D.refs,refs_goL]
theorem lvl_nil {H : List Row} : lvl H [] = []:=id rfl
theorem lvl_cons {H : List Row} {r : Nat} {rs : List Nat} : lvl H (r :: rs) = r :: (rowRefs H[r]? ++ lvl H rs):=id rfl
theorem rowRefs_box {T : TypeId} {ds : List D} : rowRefs (some (.box T ds)) = refsL ds:=by
  simp only [rowRefs,Row.refs]
  induction ds with
  | nil=>rfl
  | cons d ds ih=>simp only [List.flatMap_cons,refsL,ih]
theorem rowRefs_data {T : TypeId} {xs : List F} : rowRefs (some (.data T xs)) = []:=id rfl
theorem rowRefs_froz {T : TypeId} {xs : List F} : rowRefs (some (.froz T xs)) = []:=id rfl
theorem rowRefs_map {es : List (Value × D)} : rowRefs (some (.map es)) = []:=id rfl
theorem rowRefs_dead  : rowRefs (some (.dead)) = []:=id rfl
theorem effS_f {V : List Nat} {n : Nat} {d : D} {H1 : List Row} : effS false V n d H1 = ⟨d,[],H1.drop n⟩:=id rfl
theorem effS_t {V : List Nat} {n : Nat} {d : D} {H1 : List Row} : effS true V n d H1 = ⟨d,V.map fun r=>(r,H1.getD r .dead),H1.drop n⟩:=id rfl
theorem heap_mk {d : D} {u : List (Nat × Row)} {n H : List Row} : (⟨d,u,n⟩ : Eff).heap H = applyUpd H u ++ n:=id rfl
theorem applyUpd_cons {H : List Row} {i : Nat} {r : Row} {us : List (Nat × Row)} : applyUpd H ((i,r) :: us) = applyUpd (H.set i r) us:=id rfl
theorem getD_0 {α : Type} {a d : α} {l : List α} : (a :: l).getD 0 d = a:=id rfl
theorem getD_s {α : Type} {a d : α} {l : List α} {n : Nat} : (a :: l).getD (n + 1) d = l.getD n d:=id rfl
section
variable {P : Program}
theorem callDr_emb {g : FuncId} {caps args args0 : List D} {H H0 H1 : List Row} {d0 : D} {K : Bool → D → List Row → Prop} (h : Con P g args0 H0 fun d H'=>d = d0 ∧ H' = H1) (ι : List Nat) (hb : embOk ι H.length H0 args0 = true) (ha : args ++ caps = args0.map (renE (ren ι H.length)))
    (hr : (ι.map fun r=>H.getD r .dead) = H0.map (renR (ren ι H.length)))
    (hk : K true (renE (ren ι H.length) d0) (putRows (ren ι H.length) ι H1 H ++ (H1.drop H0.length).map (renR (ren ι H.length)))) : callDr P (.fn g caps) args H K:=by
  obtain ⟨g',caps',e,hc⟩:=callW_emb (K:=fun d H'=>d = renE (ren ι H.length) d0 ∧ H' = putRows (ren ι H.length) ι H1 H ++ (H1.drop H0.length).map (renR (ren ι H.length))) h ι hb ha hr (fun d H' ⟨h1,h2⟩=>by rw [h1,h2];exact ⟨rfl,rfl⟩)
  injection e with e1 e2
  subst e1;subst e2
  exact ⟨true,g,caps,_,_,rfl,hc,hk⟩
end
def storeF (H : List Row) (r off : Nat) (x : F) (o : Option Row) : Option (List Row):=match o with
  | some (.box U xs)=>if off + 1 ≤ xs.length then some (H.set r (.box U (putL off [.f x] xs))) else none
  | some (.data U xs)=>if off + 1 ≤ xs.length then some (H.set r (.data U (xs.set off x))) else none
  | _=>none
theorem storeF_box {H : List Row} {r off : Nat} {x : F} {U : TypeId} {xs : List D} : storeF H r off x (some (.box U xs)) = if off + 1 ≤ xs.length then some (H.set r (.box U (putL off [.f x] xs))) else none:=id rfl
theorem storeF_data {H : List Row} {r off : Nat} {x : F} {U : TypeId} {xs : List F} : storeF H r off x (some (.data U xs)) = if off + 1 ≤ xs.length then some (H.set r (.data U (xs.set off x))) else none:=id rfl
theorem storeS_1f {P : Program} {H : List Row} {r off : Nat} {x : F} : storeS P H 1 (.pt r off) (.f x) = storeF H r off x H[r]?:=by
  rw [storeS_pt]
  generalize hr : H[r]? = o
  cases o with
  | none=>rfl
  | some row =>
    cases row with
    | data U xs=>rw [storeR_f hr];rfl
    | box U xs=>simp [storeR,storeF,okCell,D.cells]
    | _=>rfl
theorem storeS_n {P : Program} {H : List Row} {n r off : Nat} {x : D} : storeS P H (n + 2) (.pt r off) x = storeR P H (n + 2) r off x H[r]?:=storeS_pt
theorem storeS_1sl {P : Program} {H : List Row} {r off a b c : Nat} : storeS P H 1 (.pt r off) (.sl a b c) = storeR P H 1 r off (.sl a b c) H[r]?:=storeS_pt
theorem storeS_1pt {P : Program} {H : List Row} {r off a b : Nat} : storeS P H 1 (.pt r off) (.pt a b) = storeR P H 1 r off (.pt a b) H[r]?:=storeS_pt
theorem storeS_1mp {P : Program} {H : List Row} {r off a : Nat} : storeS P H 1 (.pt r off) (.mp a) = storeR P H 1 r off (.mp a) H[r]?:=storeS_pt
theorem storeS_1rf {P : Program} {H : List Row} {r off : Nat} {a : List F} : storeS P H 1 (.pt r off) (.rf a) = storeR P H 1 r off (.rf a) H[r]?:=storeS_pt
theorem storeS_1fn {P : Program} {H : List Row} {r off : Nat} {f : FuncId} {a : List D} : storeS P H 1 (.pt r off) (.fn f a) = storeR P H 1 r off (.fn f a) H[r]?:=storeS_pt
end Go.Proofs.YtdpeakapcfjibaaGreat.Mir
namespace Go.Proofs.YtdpeakapcfjibaaGreat.Mir
open Go Go.RowKit
theorem LD : (((((((type_of% @W_mv ∧ type_of% @W_pick) ∧ (type_of% @W_alloc ∧ type_of% @W_box)) ∧ ((type_of% @W_load1 ∧ type_of% @W_loadA) ∧ (type_of% @W_store ∧ type_of% @W_nilc))) ∧ (((type_of% @W_off ∧ type_of% @W_fld1) ∧ (type_of% @W_fldA ∧ type_of% @W_idx)) ∧ ((type_of% @W_arr ∧ type_of% @W_ext) ∧ (type_of% @W_bin ∧ (type_of% @W_binb ∧ type_of% @W_aeq))))) ∧ ((((type_of% @W_nilq ∧ type_of% @W_unot) ∧ (type_of% @W_fn ∧ type_of% @W_mkmap)) ∧ ((type_of% @W_mkslice ∧ type_of% @W_bld) ∧ (type_of% @W_bsl ∧ (type_of% @W_app ∧ type_of% @W_slen)))) ∧ (((type_of% @W_mlen ∧ type_of% @W_conv) ∧ (type_of% @W_s2b ∧ type_of% @W_b2s)) ∧ ((type_of% @W_strlen ∧ type_of% @W_aidx) ∧ (type_of% @W_sidx ∧ (type_of% @W_ssub ∧ type_of% @W_look)))))) ∧ (((((type_of% @W_mput ∧ type_of% @W_mdel) ∧ (type_of% @W_mm ∧ type_of% @W_call)) ∧ ((type_of% @W_sub0 ∧ type_of% @W_subl) ∧ (type_of% @W_subh ∧ (type_of% @W_sublh ∧ type_of% @W_subm)))) ∧ (((type_of% @W_subm0 ∧ type_of% @binS_int) ∧ (type_of% @binS_str ∧ type_of% @aeqS_ag)) ∧ ((type_of% @aidxS_ag ∧ type_of% @binbS_b) ∧ (type_of% @intS_shl ∧ (type_of% @intS_shr ∧ type_of% @intS_and))))) ∧ ((((type_of% @intS_or ∧ type_of% @intS_xor) ∧ (type_of% @intS_add ∧ type_of% @intS_sub)) ∧ ((type_of% @intS_mul ∧ type_of% @intS_quo) ∧ (type_of% @intS_rem ∧ (type_of% @intS_eql ∧ type_of% @intS_neq)))) ∧ (((type_of% @intS_lss ∧ type_of% @intS_leq) ∧ (type_of% @intS_gtr ∧ type_of% @intS_geq)) ∧ ((type_of% @strS_add ∧ type_of% @strS_eql) ∧ (type_of% @strS_neq ∧ (type_of% @strS_lss ∧ type_of% @strS_gtr))))))) ∧ ((((((type_of% @strS_leq ∧ type_of% @strS_geq) ∧ (type_of% @boolS_eql ∧ type_of% @boolS_neq)) ∧ ((type_of% @idxS_sl ∧ type_of% @idxS_s) ∧ (type_of% @arrS_pt ∧ (type_of% @pickS_t ∧ type_of% @pickS_f)))) ∧ (((type_of% @pickS_b ∧ type_of% @nilq_144) ∧ (type_of% @nilq_145 ∧ type_of% @nilq_146)) ∧ ((type_of% @nilq_147 ∧ type_of% @nilq_148) ∧ (type_of% @nilq_149 ∧ (type_of% @nilq_150 ∧ type_of% @appS_nil))))) ∧ ((((type_of% @appS_e ∧ type_of% @appS_sl) ∧ (type_of% @appR_data ∧ type_of% @wantV_t)) ∧ ((type_of% @wantV_u ∧ type_of% @stepDr_mv) ∧ (type_of% @stepDr_pick ∧ (type_of% @stepDr_alloc ∧ type_of% @stepDr_box)))) ∧ (((type_of% @stepDr_load1 ∧ type_of% @stepDr_loadA) ∧ (type_of% @stepDr_store ∧ type_of% @stepDr_nilc)) ∧ ((type_of% @stepDr_off ∧ type_of% @stepDr_fld1) ∧ (type_of% @stepDr_fldA ∧ (type_of% @stepDr_idx ∧ type_of% @stepDr_arr)))))) ∧ (((((type_of% @stepDr_ext ∧ type_of% @stepDr_bin) ∧ (type_of% @stepDr_binb ∧ type_of% @stepDr_aeq)) ∧ ((type_of% @stepDr_unot ∧ type_of% @stepDr_fn) ∧ (type_of% @stepDr_mkmap ∧ (type_of% @stepDr_mkslice ∧ type_of% @stepDr_bld)))) ∧ (((type_of% @stepDr_bsl ∧ type_of% @stepDr_app) ∧ (type_of% @stepDr_slen ∧ type_of% @stepDr_mlen)) ∧ ((type_of% @stepDr_conv ∧ type_of% @stepDr_s2b) ∧ (type_of% @stepDr_b2s ∧ (type_of% @stepDr_strlen ∧ type_of% @stepDr_aidx))))) ∧ ((((type_of% @stepDr_sidx ∧ type_of% @stepDr_ssub) ∧ (type_of% @stepDr_look ∧ type_of% @stepDr_mput)) ∧ ((type_of% @stepDr_mdel ∧ type_of% @stepDr_mm) ∧ (type_of% @stepDr_call ∧ (type_of% @stepDr_sub0 ∧ type_of% @stepDr_subl)))) ∧ (((type_of% @stepDr_subh ∧ type_of% @stepDr_sublh) ∧ (type_of% @stepDr_subm ∧ type_of% @stepDr_subm0)) ∧ ((type_of% @Bsel_true ∧ type_of% @Bsel_false) ∧ (type_of% @bind'_some ∧ (type_of% @Two_true ∧ type_of% @Two_false)))))))):=(.intro (.intro (.intro (.intro (.intro (.intro (.intro @W_mv @W_pick) (.intro @W_alloc @W_box)) (.intro (.intro @W_load1 @W_loadA) (.intro @W_store @W_nilc))) (.intro (.intro (.intro @W_off @W_fld1) (.intro @W_fldA @W_idx)) (.intro (.intro @W_arr @W_ext) (.intro @W_bin (.intro @W_binb @W_aeq))))) (.intro (.intro (.intro (.intro @W_nilq @W_unot) (.intro @W_fn @W_mkmap)) (.intro (.intro @W_mkslice @W_bld) (.intro @W_bsl (.intro @W_app @W_slen)))) (.intro (.intro (.intro @W_mlen @W_conv) (.intro @W_s2b @W_b2s)) (.intro (.intro @W_strlen @W_aidx) (.intro @W_sidx (.intro @W_ssub @W_look)))))) (.intro (.intro (.intro (.intro (.intro @W_mput @W_mdel) (.intro @W_mm @W_call)) (.intro (.intro @W_sub0 @W_subl) (.intro @W_subh (.intro @W_sublh @W_subm)))) (.intro (.intro (.intro @W_subm0 @binS_int) (.intro @binS_str @aeqS_ag)) (.intro (.intro @aidxS_ag @binbS_b) (.intro @intS_shl (.intro @intS_shr @intS_and))))) (.intro (.intro (.intro (.intro @intS_or @intS_xor) (.intro @intS_add @intS_sub)) (.intro (.intro @intS_mul @intS_quo) (.intro @intS_rem (.intro @intS_eql @intS_neq)))) (.intro (.intro (.intro @intS_lss @intS_leq) (.intro @intS_gtr @intS_geq)) (.intro (.intro @strS_add @strS_eql) (.intro @strS_neq (.intro @strS_lss @strS_gtr))))))) (.intro (.intro (.intro (.intro (.intro (.intro @strS_leq @strS_geq) (.intro @boolS_eql @boolS_neq)) (.intro (.intro @idxS_sl @idxS_s) (.intro @arrS_pt (.intro @pickS_t @pickS_f)))) (.intro (.intro (.intro @pickS_b @nilq_144) (.intro @nilq_145 @nilq_146)) (.intro (.intro @nilq_147 @nilq_148) (.intro @nilq_149 (.intro @nilq_150 @appS_nil))))) (.intro (.intro (.intro (.intro @appS_e @appS_sl) (.intro @appR_data @wantV_t)) (.intro (.intro @wantV_u @stepDr_mv) (.intro @stepDr_pick (.intro @stepDr_alloc @stepDr_box)))) (.intro (.intro (.intro @stepDr_load1 @stepDr_loadA) (.intro @stepDr_store @stepDr_nilc)) (.intro (.intro @stepDr_off @stepDr_fld1) (.intro @stepDr_fldA (.intro @stepDr_idx @stepDr_arr)))))) (.intro (.intro (.intro (.intro (.intro @stepDr_ext @stepDr_bin) (.intro @stepDr_binb @stepDr_aeq)) (.intro (.intro @stepDr_unot @stepDr_fn) (.intro @stepDr_mkmap (.intro @stepDr_mkslice @stepDr_bld)))) (.intro (.intro (.intro @stepDr_bsl @stepDr_app) (.intro @stepDr_slen @stepDr_mlen)) (.intro (.intro @stepDr_conv @stepDr_s2b) (.intro @stepDr_b2s (.intro @stepDr_strlen @stepDr_aidx))))) (.intro (.intro (.intro (.intro @stepDr_sidx @stepDr_ssub) (.intro @stepDr_look @stepDr_mput)) (.intro (.intro @stepDr_mdel @stepDr_mm) (.intro @stepDr_call (.intro @stepDr_sub0 @stepDr_subl)))) (.intro (.intro (.intro @stepDr_subh @stepDr_sublh) (.intro @stepDr_subm @stepDr_subm0)) (.intro (.intro @Bsel_true @Bsel_false) (.intro @bind'_some (.intro @Two_true @Two_false))))))))
theorem LU : (((((((type_of% @ev_t ∧ (type_of% @ev_c ∧ type_of% @boxD_f)) ∧ ((type_of% @okCell_f ∧ type_of% @cells_f) ∧ (type_of% @boxD_sl ∧ type_of% @okCell_sl))) ∧ (((type_of% @cells_sl ∧ type_of% @boxD_pt) ∧ (type_of% @okCell_pt ∧ type_of% @cells_pt)) ∧ ((type_of% @boxD_mp ∧ type_of% @okCell_mp) ∧ (type_of% @cells_mp ∧ type_of% @boxD_rf)))) ∧ ((((type_of% @okCell_rf ∧ type_of% @cells_rf) ∧ (type_of% @boxD_ag ∧ type_of% @okCell_ag)) ∧ ((type_of% @cells_ag ∧ type_of% @boxD_fn) ∧ (type_of% @okCell_fn ∧ type_of% @cells_fn))) ∧ (((type_of% @load1_pt ∧ type_of% @load1_rf) ∧ (type_of% @load1R_box ∧ type_of% @load1R_data)) ∧ ((type_of% @load1R_froz ∧ type_of% @loadA_pt) ∧ (type_of% @loadAR_box ∧ type_of% @loadAR_data))))) ∧ ((((type_of% @loadAR_froz ∧ (type_of% @offD_pt ∧ type_of% @offD_rf)) ∧ ((type_of% @fld1_ag ∧ type_of% @fldA_ag) ∧ (type_of% @nilcD_pt ∧ type_of% @nilcD_rf))) ∧ (((type_of% @nilcD_fn ∧ type_of% @extD_tp) ∧ (type_of% @storeR_box ∧ type_of% @storeR_f)) ∧ ((type_of% @putL_nil0 ∧ type_of% @putL_cons0) ∧ (type_of% @putL_succ ∧ type_of% @shQ_self)))) ∧ ((((type_of% @shQ_shl ∧ type_of% @shQ_shr) ∧ (type_of% @notS_b ∧ type_of% @convS_i)) ∧ ((type_of% @intOf_i ∧ type_of% @strOf_s) ∧ (type_of% @slcS_sl ∧ type_of% @slcS_s))) ∧ (((type_of% @slcS_e ∧ type_of% @slcS_nil) ∧ (type_of% @nilS_R ∧ type_of% @nilR_ss)) ∧ ((type_of% @isNil_141 ∧ type_of% @isNil_142) ∧ (type_of% @isNil_143 ∧ type_of% @isNil_s)))))) ∧ (((((type_of% @isNil_sl ∧ (type_of% @isNil_pt ∧ type_of% @isNil_rf)) ∧ ((type_of% @isNil_mp ∧ type_of% @subS_sl) ∧ (type_of% @subR_data ∧ type_of% @subR_froz))) ∧ (((type_of% @subS_s ∧ type_of% @subS_e) ∧ (type_of% @subS_nil ∧ type_of% @mxS_nil)) ∧ ((type_of% @mxS_s ∧ type_of% @mxS_e) ∧ (type_of% @mxS_sl ∧ type_of% @fillS_nil)))) ∧ ((((type_of% @fillS_cons ∧ type_of% @freeze_nil) ∧ (type_of% @freeze_f ∧ type_of% @freezeR_s)) ∧ ((type_of% @applyUpd_nil ∧ type_of% @fs_nil) ∧ (type_of% @fs_cons ∧ type_of% @elemsS_nil))) ∧ (((type_of% @elemsS_e ∧ type_of% @elemsS_s) ∧ (type_of% @elemsS_sl ∧ type_of% @elemsR_data)) ∧ ((type_of% @elemsR_froz ∧ type_of% @mapEs_nil) ∧ (type_of% @mapEs_mp ∧ type_of% @mapER_map))))) ∧ ((((type_of% @Dint ∧ (type_of% @Dbool ∧ type_of% @Dv)) ∧ ((type_of% @Dundef ∧ type_of% @ren_nil) ∧ (type_of% @renE_f ∧ type_of% @renE_sl))) ∧ (((type_of% @renE_pt ∧ type_of% @renE_mp) ∧ (type_of% @renE_rf ∧ type_of% @renE_ag)) ∧ ((type_of% @renE_tp ∧ type_of% @renE_fn) ∧ (type_of% @renR_box ∧ type_of% @renR_data)))) ∧ ((((type_of% @renR_froz ∧ type_of% @renR_map) ∧ (type_of% @renR_dead ∧ type_of% @putRows_nil)) ∧ ((type_of% @putRows_cons ∧ type_of% @putD_some) ∧ (type_of% @putD_none ∧ type_of% @range_zero))) ∧ (((type_of% @wpDr_nil ∧ type_of% @wpDr_a) ∧ (type_of% @wpDr_n ∧ type_of% @wpDr_g)) ∧ ((type_of% @drStep_def ∧ type_of% @viewS_mv) ∧ (type_of% @turns_mv ∧ type_of% @viewS_pick))))))) ∧ ((((((type_of% @turns_pick ∧ (type_of% @viewS_alloc ∧ type_of% @turns_alloc)) ∧ ((type_of% @viewS_box ∧ type_of% @turns_box) ∧ (type_of% @viewS_load1 ∧ type_of% @turns_load1))) ∧ (((type_of% @viewS_loadA ∧ type_of% @turns_loadA) ∧ (type_of% @viewS_store ∧ type_of% @turns_store)) ∧ ((type_of% @viewS_nilc ∧ type_of% @turns_nilc) ∧ (type_of% @viewS_off ∧ type_of% @turns_off)))) ∧ ((((type_of% @viewS_fld1 ∧ type_of% @turns_fld1) ∧ (type_of% @viewS_fldA ∧ type_of% @turns_fldA)) ∧ ((type_of% @viewS_idx ∧ type_of% @turns_idx) ∧ (type_of% @viewS_arr ∧ type_of% @turns_arr))) ∧ (((type_of% @viewS_ext ∧ type_of% @turns_ext) ∧ (type_of% @viewS_bin ∧ type_of% @turns_bin)) ∧ ((type_of% @viewS_binb ∧ type_of% @turns_binb) ∧ (type_of% @viewS_aeq ∧ type_of% @turns_aeq))))) ∧ ((((type_of% @viewS_unot ∧ (type_of% @turns_unot ∧ type_of% @viewS_fn)) ∧ ((type_of% @turns_fn ∧ type_of% @viewS_mkmap) ∧ (type_of% @turns_mkmap ∧ type_of% @viewS_mkslice))) ∧ (((type_of% @turns_mkslice ∧ type_of% @viewS_bld) ∧ (type_of% @turns_bld ∧ type_of% @viewS_bsl)) ∧ ((type_of% @turns_bsl ∧ type_of% @viewS_app) ∧ (type_of% @turns_app ∧ type_of% @viewS_slen)))) ∧ ((((type_of% @turns_slen ∧ type_of% @viewS_mlen) ∧ (type_of% @turns_mlen ∧ type_of% @viewS_conv)) ∧ ((type_of% @turns_conv ∧ type_of% @viewS_s2b) ∧ (type_of% @turns_s2b ∧ type_of% @viewS_b2s))) ∧ (((type_of% @turns_b2s ∧ type_of% @viewS_strlen) ∧ (type_of% @turns_strlen ∧ type_of% @viewS_aidx)) ∧ ((type_of% @turns_aidx ∧ type_of% @viewS_sidx) ∧ (type_of% @turns_sidx ∧ type_of% @viewS_ssub)))))) ∧ (((((type_of% @turns_ssub ∧ (type_of% @viewS_look ∧ type_of% @turns_look)) ∧ ((type_of% @viewS_mput ∧ type_of% @turns_mput) ∧ (type_of% @viewS_mdel ∧ type_of% @turns_mdel))) ∧ (((type_of% @viewS_mm ∧ type_of% @turns_mm) ∧ (type_of% @viewS_call ∧ type_of% @turns_call)) ∧ ((type_of% @viewS_sub0 ∧ type_of% @turns_sub0) ∧ (type_of% @viewS_subl ∧ type_of% @turns_subl)))) ∧ ((((type_of% @viewS_subh ∧ type_of% @turns_subh) ∧ (type_of% @viewS_sublh ∧ type_of% @turns_sublh)) ∧ ((type_of% @viewS_subm ∧ type_of% @turns_subm) ∧ (type_of% @viewS_subm0 ∧ type_of% @turns_subm0))) ∧ (((type_of% @maskV_msk ∧ type_of% @msk_nil) ∧ (type_of% @msk_cons ∧ type_of% @hasB_nil)) ∧ ((type_of% @hasB_cons ∧ type_of% @dedN_nil) ∧ (type_of% @dedN_cons ∧ type_of% @refsL_nil))))) ∧ (((((type_of% @refsL_cons ∧ type_of% @refs_f) ∧ (type_of% @refs_sl ∧ type_of% @refs_pt)) ∧ ((type_of% @refs_mp ∧ type_of% @refs_rf) ∧ (type_of% @refs_junk ∧ type_of% @refs_ag))) ∧ (((type_of% @refs_tp ∧ type_of% @refs_fn) ∧ (type_of% @lvl_nil ∧ type_of% @lvl_cons)) ∧ ((type_of% @rowRefs_box ∧ type_of% @rowRefs_data) ∧ (type_of% @rowRefs_froz ∧ type_of% @rowRefs_map)))) ∧ ((((type_of% @rowRefs_dead ∧ type_of% @effS_f) ∧ (type_of% @effS_t ∧ type_of% @heap_mk)) ∧ ((type_of% @applyUpd_cons ∧ type_of% @getD_0) ∧ (type_of% @getD_s ∧ type_of% @storeF_box))) ∧ (((type_of% @storeF_data ∧ type_of% @storeS_1f) ∧ (type_of% @storeS_n ∧ type_of% @storeS_1sl)) ∧ ((type_of% @storeS_1pt ∧ type_of% @storeS_1mp) ∧ (type_of% @storeS_1rf ∧ type_of% @storeS_1fn)))))))):=(.intro (.intro (.intro (.intro (.intro (.intro (.intro @ev_t (.intro @ev_c @boxD_f)) (.intro (.intro @okCell_f @cells_f) (.intro @boxD_sl @okCell_sl))) (.intro (.intro (.intro @cells_sl @boxD_pt) (.intro @okCell_pt @cells_pt)) (.intro (.intro @boxD_mp @okCell_mp) (.intro @cells_mp @boxD_rf)))) (.intro (.intro (.intro (.intro @okCell_rf @cells_rf) (.intro @boxD_ag @okCell_ag)) (.intro (.intro @cells_ag @boxD_fn) (.intro @okCell_fn @cells_fn))) (.intro (.intro (.intro @load1_pt @load1_rf) (.intro @load1R_box @load1R_data)) (.intro (.intro @load1R_froz @loadA_pt) (.intro @loadAR_box @loadAR_data))))) (.intro (.intro (.intro (.intro @loadAR_froz (.intro @offD_pt @offD_rf)) (.intro (.intro @fld1_ag @fldA_ag) (.intro @nilcD_pt @nilcD_rf))) (.intro (.intro (.intro @nilcD_fn @extD_tp) (.intro @storeR_box @storeR_f)) (.intro (.intro @putL_nil0 @putL_cons0) (.intro @putL_succ @shQ_self)))) (.intro (.intro (.intro (.intro @shQ_shl @shQ_shr) (.intro @notS_b @convS_i)) (.intro (.intro @intOf_i @strOf_s) (.intro @slcS_sl @slcS_s))) (.intro (.intro (.intro @slcS_e @slcS_nil) (.intro @nilS_R @nilR_ss)) (.intro (.intro @isNil_141 @isNil_142) (.intro @isNil_143 @isNil_s)))))) (.intro (.intro (.intro (.intro (.intro @isNil_sl (.intro @isNil_pt @isNil_rf)) (.intro (.intro @isNil_mp @subS_sl) (.intro @subR_data @subR_froz))) (.intro (.intro (.intro @subS_s @subS_e) (.intro @subS_nil @mxS_nil)) (.intro (.intro @mxS_s @mxS_e) (.intro @mxS_sl @fillS_nil)))) (.intro (.intro (.intro (.intro @fillS_cons @freeze_nil) (.intro @freeze_f @freezeR_s)) (.intro (.intro @applyUpd_nil @fs_nil) (.intro @fs_cons @elemsS_nil))) (.intro (.intro (.intro @elemsS_e @elemsS_s) (.intro @elemsS_sl @elemsR_data)) (.intro (.intro @elemsR_froz @mapEs_nil) (.intro @mapEs_mp @mapER_map))))) (.intro (.intro (.intro (.intro @Dint (.intro @Dbool @Dv)) (.intro (.intro @Dundef @ren_nil) (.intro @renE_f @renE_sl))) (.intro (.intro (.intro @renE_pt @renE_mp) (.intro @renE_rf @renE_ag)) (.intro (.intro @renE_tp @renE_fn) (.intro @renR_box @renR_data)))) (.intro (.intro (.intro (.intro @renR_froz @renR_map) (.intro @renR_dead @putRows_nil)) (.intro (.intro @putRows_cons @putD_some) (.intro @putD_none @range_zero))) (.intro (.intro (.intro @wpDr_nil @wpDr_a) (.intro @wpDr_n @wpDr_g)) (.intro (.intro @drStep_def @viewS_mv) (.intro @turns_mv @viewS_pick))))))) (.intro (.intro (.intro (.intro (.intro (.intro @turns_pick (.intro @viewS_alloc @turns_alloc)) (.intro (.intro @viewS_box @turns_box) (.intro @viewS_load1 @turns_load1))) (.intro (.intro (.intro @viewS_loadA @turns_loadA) (.intro @viewS_store @turns_store)) (.intro (.intro @viewS_nilc @turns_nilc) (.intro @viewS_off @turns_off)))) (.intro (.intro (.intro (.intro @viewS_fld1 @turns_fld1) (.intro @viewS_fldA @turns_fldA)) (.intro (.intro @viewS_idx @turns_idx) (.intro @viewS_arr @turns_arr))) (.intro (.intro (.intro @viewS_ext @turns_ext) (.intro @viewS_bin @turns_bin)) (.intro (.intro @viewS_binb @turns_binb) (.intro @viewS_aeq @turns_aeq))))) (.intro (.intro (.intro (.intro @viewS_unot (.intro @turns_unot @viewS_fn)) (.intro (.intro @turns_fn @viewS_mkmap) (.intro @turns_mkmap @viewS_mkslice))) (.intro (.intro (.intro @turns_mkslice @viewS_bld) (.intro @turns_bld @viewS_bsl)) (.intro (.intro @turns_bsl @viewS_app) (.intro @turns_app @viewS_slen)))) (.intro (.intro (.intro (.intro @turns_slen @viewS_mlen) (.intro @turns_mlen @viewS_conv)) (.intro (.intro @turns_conv @viewS_s2b) (.intro @turns_s2b @viewS_b2s))) (.intro (.intro (.intro @turns_b2s @viewS_strlen) (.intro @turns_strlen @viewS_aidx)) (.intro (.intro @turns_aidx @viewS_sidx) (.intro @turns_sidx @viewS_ssub)))))) (.intro (.intro (.intro (.intro (.intro @turns_ssub (.intro @viewS_look @turns_look)) (.intro (.intro @viewS_mput @turns_mput) (.intro @viewS_mdel @turns_mdel))) (.intro (.intro (.intro @viewS_mm @turns_mm) (.intro @viewS_call @turns_call)) (.intro (.intro @viewS_sub0 @turns_sub0) (.intro @viewS_subl @turns_subl)))) (.intro (.intro (.intro (.intro @viewS_subh @turns_subh) (.intro @viewS_sublh @turns_sublh)) (.intro (.intro @viewS_subm @turns_subm) (.intro @viewS_subm0 @turns_subm0))) (.intro (.intro (.intro @maskV_msk @msk_nil) (.intro @msk_cons @hasB_nil)) (.intro (.intro @hasB_cons @dedN_nil) (.intro @dedN_cons @refsL_nil))))) (.intro (.intro (.intro (.intro (.intro @refsL_cons @refs_f) (.intro @refs_sl @refs_pt)) (.intro (.intro @refs_mp @refs_rf) (.intro @refs_junk @refs_ag))) (.intro (.intro (.intro @refs_tp @refs_fn) (.intro @lvl_nil @lvl_cons)) (.intro (.intro @rowRefs_box @rowRefs_data) (.intro @rowRefs_froz @rowRefs_map)))) (.intro (.intro (.intro (.intro @rowRefs_dead @effS_f) (.intro @effS_t @heap_mk)) (.intro (.intro @applyUpd_cons @getD_0) (.intro @getD_s @storeF_box))) (.intro (.intro (.intro @storeF_data @storeS_1f) (.intro @storeS_n @storeS_1sl)) (.intro (.intro @storeS_1pt @storeS_1mp) (.intro @storeS_1rf @storeS_1fn))))))))
theorem LS : (((((type_of% @wpS_nil ∧ (type_of% @wpS_a ∧ type_of% @wpS_n)) ∧ (type_of% @wpS_g ∧ (type_of% @frm_get ∧ type_of% @frm_getD))) ∧ ((type_of% @frm_set ∧ (type_of% @look_cons ∧ type_of% @look_nil)) ∧ ((type_of% @List.set_cons_succ.{0} ∧ type_of% @List.set_cons_zero.{0}) ∧ (type_of% @List.getElem?_cons_succ.{0} ∧ type_of% @List.getElem?_cons_zero.{0})))) ∧ (((type_of% @List.length_cons.{0} ∧ (type_of% @List.length_nil.{0} ∧ type_of% @List.cons_append.{0})) ∧ ((type_of% @List.nil_append.{0} ∧ type_of% @List.map_cons.{0,0}) ∧ (type_of% @List.map_nil.{0,0} ∧ type_of% @List.take_succ_cons.{0}))) ∧ ((type_of% @List.take_zero.{0} ∧ (type_of% @List.drop_succ_cons.{0} ∧ type_of% @List.drop_zero.{0})) ∧ ((type_of% @Option.map_some.{0,0} ∧ type_of% @Option.map_none.{0,0}) ∧ (type_of% @Nat.add_zero ∧ type_of% @Nat.zero_add))))) ∧ ((((type_of% @Nat.mul_one ∧ (type_of% @Int.toNat_natCast ∧ type_of% @Nat.mul_zero)) ∧ (type_of% @Nat.zero_mul ∧ (type_of% @true_and ∧ type_of% @and_true))) ∧ ((type_of% @wrap_in ∧ (type_of% @List.getElem?_drop.{0} ∧ type_of% @List.getElem?_map.{0,0})) ∧ ((type_of% @List.length_map.{0,0} ∧ type_of% @Int.natCast_nonneg) ∧ (type_of% @getElem?_some_of ∧ type_of% @Bool.false_eq_true)))) ∧ (((type_of% @decide_true ∧ (type_of% @decide_false ∧ type_of% @Bool.not_true)) ∧ ((type_of% @Bool.not_false ∧ type_of% @and_self) ∧ (type_of% @eq_self.{0} ∧ type_of% @false_implies))) ∧ ((type_of% @or_self ∧ (type_of% @Bool.and_self ∧ type_of% @false_or)) ∧ ((type_of% @or_false ∧ type_of% @Bool.false_and) ∧ (type_of% @Bool.true_beq ∧ type_of% @Bool.false_beq)))))):=(.intro (.intro (.intro (.intro (.intro @wpS_nil (.intro @wpS_a @wpS_n)) (.intro @wpS_g (.intro @frm_get @frm_getD))) (.intro (.intro @frm_set (.intro @look_cons @look_nil)) (.intro (.intro @List.set_cons_succ.{0} @List.set_cons_zero.{0}) (.intro @List.getElem?_cons_succ.{0} @List.getElem?_cons_zero.{0})))) (.intro (.intro (.intro @List.length_cons.{0} (.intro @List.length_nil.{0} @List.cons_append.{0})) (.intro (.intro @List.nil_append.{0} @List.map_cons.{0,0}) (.intro @List.map_nil.{0,0} @List.take_succ_cons.{0}))) (.intro (.intro @List.take_zero.{0} (.intro @List.drop_succ_cons.{0} @List.drop_zero.{0})) (.intro (.intro @Option.map_some.{0,0} @Option.map_none.{0,0}) (.intro @Nat.add_zero @Nat.zero_add))))) (.intro (.intro (.intro (.intro @Nat.mul_one (.intro @Int.toNat_natCast @Nat.mul_zero)) (.intro @Nat.zero_mul (.intro @true_and @and_true))) (.intro (.intro @wrap_in (.intro @List.getElem?_drop.{0} @List.getElem?_map.{0,0})) (.intro (.intro @List.length_map.{0,0} @Int.natCast_nonneg) (.intro @getElem?_some_of @Bool.false_eq_true)))) (.intro (.intro (.intro @decide_true (.intro @decide_false @Bool.not_true)) (.intro (.intro @Bool.not_false @and_self) (.intro @eq_self.{0} @false_implies))) (.intro (.intro @or_self (.intro @Bool.and_self @false_or)) (.intro (.intro @or_false @Bool.false_and) (.intro @Bool.true_beq @Bool.false_beq))))))
theorem isHS {P : Program} {n : Nat} {c : SCode} {s : St} {Q : Out → St → Prop} (h : HS P n c s Q) : HS P n c s Q:=h
theorem isRet {n : Nat} {l : List SR} {Q : D → List Row → Prop} {s : St} (h : RetS n l Q s) : RetS n l Q s:=h
theorem isCall {P : Program} {f : D} {l : List D} {H : List Row} {K : D → List Row → Prop} (h : callW P f l H K) : callW P f l H K:=h
theorem if_some {α : Type} {c : Prop} [Decidable c] {a : α} (h : c) : (if c then some a else none) = some a:=if_pos h
abbrev iF (n : Int) : F:=.v (.int .i64 n)
abbrev bF (b : Bool) : F:=.v (.bool b)
def fI (l : List Int) : F:=.s (l.map iF) l.length
def fB (l : List Bool) : F:=.s (l.map bF) l.length
theorem set_map_b {l : List Bool} {i : Nat} {b : Bool} : (l.map bF).set i (.v (.bool b)) = (l.set i b).map bF:=by rw [List.map_set]
theorem app_map_i {l : List Int} {z : Int} : l.map iF ++ [.v (.int .i64 z)] = (l ++ [z]).map iF:=by rw [List.map_append];rfl
theorem most_eq : most = 140737488355328:=id rfl
theorem flat_at {α : Type} [Inhabited α] {cs : α → List F} {n : Nat} (hn : ∀ x,(cs x).length = n) {l : List α} {k j : Nat} (hk : k < l.length) (hj : j < n) : (l.flatMap cs)[k * n + j]? = (cs (gt l k))[j]?:=by
  rw [gt_eq hk]
  exact (flat_getF cs n hn l k hk j hj)
where
  flat_getF {α : Type} (f : α → List F) (n : Nat) (hf : ∀ x,(f x).length = n) : ∀ (xs : List α) (k : Nat) (hk : k < xs.length) (i : Nat),i < n → (xs.flatMap f)[k * n + i]? = (f xs[k])[i]?
    | [],k,hk,_,_=>by simp at hk
    | x :: xs,0,_,i,hi=>by
      rw [List.flatMap_cons,Nat.zero_mul,Nat.zero_add,List.getElem?_append_left (by rw [hf];exact hi)];rfl
    | x :: xs,k + 1,hk,i,hi=>by
      rw [List.flatMap_cons,List.getElem?_append_right (by rw [hf,Nat.add_mul];omega),hf,show (k + 1) * n + i - n = k * n + i by rw [Nat.add_mul];omega]
      exact flat_getF f n hf xs k (by simpa using hk) i hi
theorem flat_len' {α : Type} {cs : α → List F} {n : Nat} (hn : ∀ x,(cs x).length = n) (l : List α) : (l.flatMap cs).length = l.length * n:=by
  induction l with
  | nil=>simp
  | cons x l ih=>rw [List.flatMap_cons,List.length_append,hn,ih,List.length_cons,Nat.add_mul];omega
structure Nd where
  ns : List Int
  tr : Int
  le : Int
  deriving Inhabited,DecidableEq
def Nd.cs (d : Nd) : List F:=[fI d.ns,iF d.tr,iF d.le]
def fG (g : List Nd) : F:=.s (g.flatMap Nd.cs) g.length
def OutN (P : Program) (n0 : Nat) {α : Type} (st : α → St) (p : α → Prop) (o : Out) (s : St) : Prop:=o = .normal ∧ ∃ y,View P n0 s (st y) ∧ p y
theorem OutN.mk {P : Program} {n0 : Nat} {α : Type} {st : α → St} {p : α → Prop} {s : St} (keep : List Nat) (y : α) (h : sweepW n0 keep s = some (st y)) (hp : p y) : OutN P n0 st p .normal s:=⟨rfl,y,View.sweep h,hp⟩
theorem HS.cutn {P : Program} {n0 : Nat} {c : SCode} {s : St} {Q : Out → St → Prop} {α : Type} (st : α → St) (p : α → Prop) (h1 : HS P n0 c s (OutN P n0 st p)) (h2 : ∀ y,p y → ∀ s',View P n0 s' (st y) → Q .normal s') : HS P n0 c s Q :=
  h1.mono fun o s' ⟨ho,y,hs,hp⟩=>by rw [ho];exact h2 y hp s' hs
def OutS (n0 : Nat) (keep : List Nat) (i : Nat) {α : Type} (st : α → St) (p : α → Prop) (o : Out) (s : St) : Prop:=o = .exit i ∧ ∃ y,sweepW n0 keep s = some (st y) ∧ p y
theorem wpDr_aK {P : Program} {b : List Nat} {n0 i t n : Nat} {o : SOp} {l : List SI} {own : List Nat} {log : List (List Nat × List Nat)} {e : List (Nat × D)} {H : List Row} {dr : List Nat} {K : St → Prop}
    (h : ∀ N : List Nat → List (List Nat × List Nat) → D → List Row → Prop,(∀ own1 log1 d H1,wpDr P b n0 l (i + 1) own1 log1 ⟨frm n ((t,d) :: e),H1,[]⟩ K → N own1 log1 d H1) → drStep P b own n0 i log o (viewS (frm n e) H o) (frm n e) H N) : wpDr P b n0 (.a t o :: l) i own log ⟨frm n e,H,dr⟩ K:=by
  rw [wpDr_a];exact h _ fun _ _ _ _ h=>by rw [frm_set];exact h
theorem wpDr_nK {P : Program} {b : List Nat} {n0 i n : Nat} {o : SOp} {l : List SI} {own : List Nat} {log : List (List Nat × List Nat)} {e : List (Nat × D)} {H : List Row} {dr : List Nat} {K : St → Prop}
    (h : ∀ N : List Nat → List (List Nat × List Nat) → D → List Row → Prop,(∀ own1 log1 d H1,wpDr P b n0 l (i + 1) own1 log1 ⟨frm n e,H1,[]⟩ K → N own1 log1 d H1) → drStep P b own n0 i log o (viewS (frm n e) H o) (frm n e) H N) : wpDr P b n0 (.n o :: l) i own log ⟨frm n e,H,dr⟩ K:=by
  rw [wpDr_n];exact h _ fun _ _ _ _ h=>h
abbrev Bs:=List UInt8
abbrev uF (b : UInt8) : F:=.v (.int .u8 (b.toNat : Nat))
def fY (l : List UInt8) : F:=.s (l.map uF) l.length
def BB (l : List UInt8) : ByteArray:=⟨l.toArray⟩
theorem bytes_map : ∀ a : List UInt8,bytesOf? ((a.map uF).map .f) = some a
  | []=>rfl
  | x :: a=>by
    have ih:=bytes_map a
    simp only [List.map_cons,bytesOf?,ih,Option.map_some]
    simp
theorem bb_data {l : Bs} : (BB l).data.toList = l:=rfl
theorem bb_len {l : Bs} : (BB l).size = l.length:=rfl
theorem bb_inj {a b : Bs} : (BB a = BB b) = (a = b):=by
  apply propext
  constructor
  · intro h
    have:=congrArg (fun x : ByteArray=>x.data.toList) h
    exact this
  · intro h;rw [h]
theorem bb_nil {a : Bs} : (BB a = ⟨#[]⟩) = (a = []):=bb_inj (b:=[])
theorem slcS_fG {g : List Nd} : slcS (.f (fG g)) = some g.length:=id rfl
theorem idxS_fG {g : List Nd} {sz : Nat} {k : IntKind} {i : Int} {K : D → Prop} : idxS sz (.f (fG g)) (.f (.v (.int k i))) K = ((0 ≤ i ∧ i < g.length) ∧ K (.rf ((g.flatMap Nd.cs).drop (i.toNat * sz)))):=id rfl
theorem elemsS_fG {H : List Row} {g : List Nd} {sz : Nat} : elemsS H sz (.f (fG g)) = some (g.length,g.flatMap Nd.cs):=id rfl
theorem slcS_fY {g : Bs} : slcS (.f (fY g)) = some g.length:=id rfl
theorem idxS_fY {g : Bs} {sz : Nat} {k : IntKind} {i : Int} {K : D → Prop} : idxS sz (.f (fY g)) (.f (.v (.int k i))) K = ((0 ≤ i ∧ i < g.length) ∧ K (.rf ((g.map uF).drop (i.toNat * sz)))):=id rfl
theorem elemsS_fY' {H : List Row} {g : Bs} {sz : Nat} : elemsS H sz (.f (fY g)) = some (g.length,g.map uF):=id rfl
theorem slcS_fI {g : List Int} : slcS (.f (fI g)) = some g.length:=id rfl
theorem idxS_fI {g : List Int} {sz : Nat} {k : IntKind} {i : Int} {K : D → Prop} : idxS sz (.f (fI g)) (.f (.v (.int k i))) K = ((0 ≤ i ∧ i < g.length) ∧ K (.rf ((g.map iF).drop (i.toNat * sz)))):=id rfl
theorem elemsS_fI {H : List Row} {g : List Int} {sz : Nat} : elemsS H sz (.f (fI g)) = some (g.length,g.map iF):=id rfl
theorem slcS_fB {g : List Bool} : slcS (.f (fB g)) = some g.length:=id rfl
theorem idxS_fB {g : List Bool} {sz : Nat} {k : IntKind} {i : Int} {K : D → Prop} : idxS sz (.f (fB g)) (.f (.v (.int k i))) K = ((0 ≤ i ∧ i < g.length) ∧ K (.rf ((g.map bF).drop (i.toNat * sz)))):=id rfl
theorem elemsS_fB {H : List Row} {g : List Bool} {sz : Nat} : elemsS H sz (.f (fB g)) = some (g.length,g.map bF):=id rfl
def Nz (n : Nat) (p q : Prop) : Prop:=(n = 0 → p) ∧ q
theorem nilq_fT {k : Nat} {xs : List F} {n : Nat} {K : Bool → Prop} : nilqS k (.f (.s xs n)) (.f (.v (.slice none 0 0))) K = (k = 0 ∧ Nz n (K true) (K false)):=id rfl
theorem nilq_fY {k : Nat} {g : Bs} {K : Bool → Prop} : nilqS k (.f (fY g)) (.f (.v (.slice none 0 0))) K = (k = 0 ∧ Nz g.length (K true) (K false)):=id rfl
theorem nilq_fG {k : Nat} {g : List Nd} {K : Bool → Prop} : nilqS k (.f (fG g)) (.f (.v (.slice none 0 0))) K = (k = 0 ∧ Nz g.length (K true) (K false)):=id rfl
theorem nilq_fI {k : Nat} {g : List Int} {K : Bool → Prop} : nilqS k (.f (fI g)) (.f (.v (.slice none 0 0))) K = (k = 0 ∧ Nz g.length (K true) (K false)):=id rfl
theorem nilq_slT {k r o n : Nat} {K : Bool → Prop} : nilqS k (.sl r o n) (.f (.v (.slice none 0 0))) K = (k = 0 ∧ Nz n (K true) (K false)):=id rfl
theorem LT : ((((type_of% @if_some ∧ (type_of% @most_eq ∧ type_of% @set_map_b)) ∧ (type_of% @app_map_i ∧ (type_of% @bb_data ∧ type_of% @bb_len))) ∧ ((type_of% @bb_inj ∧ (type_of% @bb_nil ∧ type_of% @slcS_fG)) ∧ (type_of% @idxS_fG ∧ (type_of% @elemsS_fG ∧ type_of% @slcS_fY)))) ∧ (((type_of% @idxS_fY ∧ (type_of% @elemsS_fY' ∧ type_of% @slcS_fI)) ∧ (type_of% @idxS_fI ∧ (type_of% @elemsS_fI ∧ type_of% @slcS_fB))) ∧ ((type_of% @idxS_fB ∧ (type_of% @elemsS_fB ∧ type_of% @nilq_fT)) ∧ ((type_of% @nilq_fY ∧ type_of% @nilq_fG) ∧ (type_of% @nilq_fI ∧ type_of% @nilq_slT))))) :=
  ⟨⟨⟨⟨@if_some,⟨@most_eq,@set_map_b⟩⟩,⟨@app_map_i,⟨@bb_data,@bb_len⟩⟩⟩,⟨⟨@bb_inj,⟨@bb_nil,@slcS_fG⟩⟩,⟨@idxS_fG,⟨@elemsS_fG,@slcS_fY⟩⟩⟩⟩,⟨⟨⟨@idxS_fY,⟨@elemsS_fY',@slcS_fI⟩⟩,⟨@idxS_fI,⟨@elemsS_fI,@slcS_fB⟩⟩⟩,⟨⟨@idxS_fB,⟨@elemsS_fB,@nilq_fT⟩⟩,⟨⟨@nilq_fY,@nilq_fG⟩,⟨@nilq_fI,@nilq_slT⟩⟩⟩⟩⟩
theorem View.fix {P : Program} {n0 : Nat} {ts : List D} {H : List Row} {dr : List Nat} {i : Nat} {d : D} {x : F} {us : List (Nat × Row)} (ht : ts[i]? = some d) (hf : freeze1 P H d = some (x,us)) :
    View P n0 ⟨ts,H,dr⟩ ⟨ts.set i (.f x),applyUpd H us,[]⟩:=by
  intro X w0 φ0 H0 w φ a _ hr
  have hv : ∃ u,a.tmps.toList[i]? = some u:=by
    have h1:=hr.sim.tmps.1
    have h2 : i < ts.length:=(List.getElem?_eq_some_iff.1 ht).1
    exact ⟨a.tmps.toList[i]'(by dsimp only at h1;omega),by simp⟩
  obtain ⟨u,hu⟩:=hv
  obtain ⟨h1,h2⟩:=freeze1_ok hr.sim.heap (hr.sim.tmps.2 i d u ht hu) hf
  refine ⟨φ,⟨⟨h1.ok,⟨?_,fun j d' u' hd hu'=>?_⟩,hr.sim.defers⟩,⟨?_,hr.ons.same,hr.ons.keep,fun b hb=>hr.ons.fresh b (h1.live b hb)⟩⟩⟩
  · dsimp only;rw [List.length_set];exact hr.sim.tmps.1
  · dsimp only at hd ⊢
    rw [h1.len]
    rw [List.getElem?_set] at hd
    split at hd
    · rename_i e;subst e
      have hx : D.f x = d':=by split at hd<;>first|exact Option.some.inj hd|cases hd
      subst hx
      rw [hu] at hu'
      cases hu'
      exact .f h2
    · exact (hr.sim.tmps.2 j d' u' hd hu').keep (L:=fun _=>False) (Keep.refl _ _) (fun _ h=>h.elim) h1.av (fun _ _=>rfl) (Nat.le_refl _)
  · dsimp only;rw [h1.len];exact hr.ons.len
theorem fix_data {P : Program} {H : List Row} {r m k b : Nat} {T : TypeId} {xs : List F} {z : List Value} (hr : H[r]? = some (.data T xs)) (hi : inf P T = some (k,b,z)) (hm : m ≠ 0) (hn : xs.length = m * k) (hk : 0 < k) :
    freeze1 P H (.sl r 0 m) = some (.s xs m,[(r,.froz T xs)]):=by
  have h2 : 0 + m * k ≤ xs.length ∧ 0 < k:=⟨by omega,hk⟩
  have h3 : (xs.drop 0).take (m * k) = xs:=by rw [List.drop_zero,← hn,List.take_length]
  simp only [freeze1,hr,hi,h3,if_neg hm,if_pos h2]
theorem fix_froz {P : Program} {H : List Row} {r m k b : Nat} {T : TypeId} {xs : List F} {z : List Value} (hr : H[r]? = some (.froz T xs)) (hi : inf P T = some (k,b,z)) (hm : m ≠ 0) (hn : xs.length = m * k) :
    freeze1 P H (.sl r 0 m) = some (.s xs m,[]):=by
  have h2 : 0 + m * k ≤ xs.length:=by omega
  have h3 : (xs.drop 0).take (m * k) = xs:=by rw [List.drop_zero,← hn,List.take_length]
  simp only [freeze1,hr,hi,h3,if_neg hm,if_pos h2]
theorem View.frz {P : Program} {n0 n : Nat} {e : List (Nat × D)} {H : List Row} {dr : List Nat} (i : Nat) {r m k b : Nat} {T : TypeId} {xs : List F} {z : List Value} (ht : look i e = .sl r 0 m) (hr : H[r]? = some (.data T xs)) (hi : inf P T = some (k,b,z)) (hm : m ≠ 0) (hn : xs.length = m * k) (hin : i < n) (hk : 0 < k) :
    View P n0 ⟨Mir.frm n e,H,dr⟩ ⟨Mir.frm n ((i,.f (.s xs m)) :: e),H.set r (.froz T xs),[]⟩:=by
  have:=View.fix (P:=P) (n0:=n0) (dr:=dr) (ts:=Mir.frm n e) (i:=i) (d:=.sl r 0 m) (by rw [frm_get hin,ht]) (fix_data hr hi hm hn hk)
  rw [frm_set] at this
  exact this
theorem r1 : type_of% @HS.seq:=@HS.seq
theorem r2 : type_of% @HS.block:=@HS.block
theorem r3 : type_of% @HS.exit:=@HS.exit
theorem r4 : type_of% @HS.ret:=@HS.ret
theorem r5 : type_of% @HS.skip:=@HS.skip
theorem s1 : type_of% @isHS:=@isHS
theorem s2 : type_of% @isRet:=@isRet
theorem s3 : type_of% @isCall:=@isCall
theorem rK {n0 : Nat} {s : St} {Q : Out → St → Prop} {l : List SI} (h : ∀ K : St → Prop,(∀ s',Q .normal s' → K s') → wpS Tryz.prog l s K) : HS Tryz.prog n0 (.ops l) s Q:=HS.opsK good h
theorem rL {n0 : Nat} {s : St} {Q : Out → St → Prop} {l : List SI} {b : List Nat} (h : ∀ K : St → Prop,(∀ s',Q .normal s' → K s') → wpDr Tryz.prog b s.H.length l 0 [] [] s K) : HS Tryz.prog n0 (.drw l b) s Q:=HS.drw good h
class Wa (p : Prop) (q : outParam Prop) : Prop where h : q → p
class Wr (p : Prop) (q : outParam Prop) : Prop where h : q → p
class Ws (p : Prop) (q : outParam Prop) : Prop where h : q → p
class Wb (p : Prop) (α : outParam Type) (a : outParam (α → Prop)) (q : outParam (α → Prop)) : Prop where h : (∀ x,a x → q x) → p
class We (p : Prop) (α : outParam Type) (a : outParam (α → Prop)) (q : outParam (α → Prop)) : Prop where h : (∀ x,a x → q x) → p
class Wd (p : Prop) (α : outParam Type) (a : outParam (α → Prop)) (b : outParam (Prop → Prop)) (q : outParam (α → Prop → Prop)) : Prop where h : (∀ x m,a x → b m → q x m) → p
class Wt (p : Prop) (c a b : outParam Prop) : Prop where h : (c → a) → (¬ c → b) → p
class Wu (p : Prop) (c : outParam Bool) (a b : outParam Prop) : Prop where h : (c = true → a) → (c = false → b) → p
class Wz (p : Prop) : Prop where h : p → p
section
variable {P : Program} {n0 : Nat} {s : St} {Q : Out → St → Prop}
instance {x y : SCode} : Ws (HS P n0 (.seq x y) s Q) (HS P n0 x s (thenQ (fun s'=>HS P n0 y s' Q) Q)):=⟨HS.seq⟩
instance {i : Nat} {x : SCode} : Wa (HS P n0 (.block i x) s Q) (HS P n0 x s (blockQ i Q)):=⟨HS.block⟩
instance {i : Nat} : Wa (HS P n0 (.exit i) s Q) (Q (.exit i) s):=⟨HS.exit⟩
instance : Wr (HS P n0 .ret s Q) (Q .ret s):=⟨HS.ret⟩
instance : Wa (HS P n0 .skip s Q) (Q .normal s):=⟨HS.skip⟩
instance {next : St → Prop} : Wa (thenQ next Q .normal s) (next s):=⟨thenQ_n⟩
instance {i : Nat} : Wa (blockQ i Q .normal s) (Q .normal s):=⟨blockQ_n⟩
instance {next : St → Prop} : Wa (thenQ next Q .ret s) (Q .ret s):=⟨thenQ_r⟩
instance {i : Nat} : Wa (blockQ i Q .ret s) (Q .ret s):=⟨blockQ_r⟩
instance {next : St → Prop} {i : Nat} : Wa (thenQ next Q (.exit i) s) (Q (.exit i) s):=⟨thenQ_x⟩
instance {i : Nat} : Wa (blockQ i Q (.exit i) s) (Q .normal s):=⟨blockQ_hit⟩
instance {rs : List SR} {R : D → List Row → Prop} : Wa (endS n0 rs R .ret s) (RetS n0 rs R s):=⟨endS_r⟩
instance {rs : List SR} {R : D → List Row → Prop} : Wa (endS n0 rs R .normal s) (RetS n0 rs R s):=⟨endS_n⟩
instance {l : List SI} : Wb (HS Tryz.prog n0 (.ops l) s Q) (St → Prop) (fun K=>∀ s',Q .normal s' → K s') (fun K=>wpS Tryz.prog l s K):=⟨fun h=>rK h⟩
instance {l : List SI} {b : List Nat} : Wb (HS Tryz.prog n0 (.drw l b) s Q) (St → Prop) (fun K=>∀ s',Q .normal s' → K s') (fun K=>wpDr Tryz.prog b s.H.length l 0 [] [] s K):=⟨fun h=>rL h⟩
instance {l1 l2 : List SI} {K : St → Prop} : Wb (wpS P (ap l1 l2) s K) (St → Prop) (fun K'=>∀ s',wpS P l2 s' K → K' s') (fun K'=>wpS P l1 s K'):=⟨fun h=>wpS_app h⟩
section
variable {b : List Nat} {i n : Nat} {o : SOp} {l : List SI} {own : List Nat} {log : List (List Nat × List Nat)} {e : List (Nat × D)} {H : List Row} {dr : List Nat} {K : St → Prop}
instance {t : Nat} : We (wpDr P b n0 (.a t o :: l) i own log ⟨frm n e,H,dr⟩ K) (List Nat → List (List Nat × List Nat) → D → List Row → Prop)
    (fun N=>∀ own1 log1 d H1,wpDr P b n0 l (i + 1) own1 log1 ⟨frm n ((t,d) :: e),H1,[]⟩ K → N own1 log1 d H1) (fun N=>drStep P b own n0 i log o (viewS (frm n e) H o) (frm n e) H N):=⟨fun h=>wpDr_aK h⟩
instance : We (wpDr P b n0 (.n o :: l) i own log ⟨frm n e,H,dr⟩ K) (List Nat → List (List Nat × List Nat) → D → List Row → Prop)
    (fun N=>∀ own1 log1 d H1,wpDr P b n0 l (i + 1) own1 log1 ⟨frm n e,H1,[]⟩ K → N own1 log1 d H1) (fun N=>drStep P b own n0 i log o (viewS (frm n e) H o) (frm n e) H N):=⟨fun h=>wpDr_nK h⟩
end
instance {c p q : Prop} : Wt (Two c p q) c p q:=⟨Two.mk'⟩
instance {b : Bool} {p q : Prop} : Wu (Bsel b p q) b p q:=⟨Bsel.mk'⟩
instance {c : SCode} : Wz (HS P n0 c s Q):=⟨id⟩
instance {l : List SR} {R : D → List Row → Prop} : Wz (RetS n0 l R s):=⟨id⟩
instance {f : D} {l : List D} {H : List Row} {K : D → List Row → Prop} : Wz (callW P f l H K):=⟨id⟩
instance {keep : List Nat} {α : Type} {st : α → St} {p : α → Prop} {m : α → Nat} {x : α} : Wz (Next n0 keep st p m x s):=⟨id⟩
instance {n : Nat} {α : Type} {st : α → List (Nat × D)} {hs : α → List Row} {p : α → Prop} {m : α → Nat} {x : α} : Wz (NextP n st hs p m x s):=⟨id⟩
instance {next : St → Prop} {o : Out} : Wz (thenQ next Q o s):=⟨id⟩
instance {i : Nat} {o : Out} : Wz (blockQ i Q o s):=⟨id⟩
instance {keep : List Nat} {i : Nat} {α : Type} {st : α → St} {p : α → Prop} {o : Out} : Wz (OutS n0 keep i st p o s):=⟨id⟩
instance {α : Type} {st : α → St} {p : α → Prop} {o : Out} : Wz (OutN P n0 st p o s):=⟨id⟩
end
class Wx (p : Prop) (q : outParam Prop) : Prop where h : q → p
instance {p q : Prop} [w : Wa p q] : Wx p q:=⟨w.h⟩
instance {p q : Prop} [w : Ws p q] : Wx p q:=⟨w.h⟩
instance {p q : Prop} [w : Wr p q] : Wx p q:=⟨w.h⟩
class Wc (p : Prop) (c d a b : outParam Prop) : Prop where
  t : c → a → p
  f : d → b → p
instance {c p q : Prop} : Wc (Two c p q) c (¬ c) p q:=⟨fun h k=>Two.mk' (fun _=>k) fun n=>absurd h n,fun n k=>Two.mk' (fun h=>absurd h n) fun _=>k⟩
theorem wT {p c d a b : Prop} [w : Wc p c d a b] (h : c) (k : a) : p:=w.t h k
theorem wF {p c d a b : Prop} [w : Wc p c d a b] (h : d) (k : b) : p:=w.f h k
class Wq (p : Prop) (a b : outParam Prop) : Prop where h : a → b → p
instance {p c a b : Prop} [w : Wt p c a b] : Wq p (c → a) (¬ c → b):=⟨w.h⟩
def Cd (d : D) (p q : Prop) : Prop:=match d with
  | .f (.v (.bool b))=>Bsel b p q
  | _=>False
@[congr] theorem Cd_congr {d d' : D} {p q : Prop} (h : d = d') : Cd d p q = Cd d' p q:=by rw [h]
theorem Cd_b {b : Bool} {p q : Prop} : Cd (.f (.v (.bool b))) p q = Bsel b p q:=id rfl
theorem Cd_ok {P : Program} {n0 : Nat} {c : SV} {x y : SCode} {s : St} {Q : Out → St → Prop} (h : Cd (c.ev s.ts) (HS P n0 x s Q) (HS P n0 y s Q)) : HS P n0 (.cond c x y) s Q:=by
  unfold Cd at h
  split at h
  · rename_i b hb;exact HS.condB hb h.1 h.2
  · exact h.elim
instance {P : Program} {n0 : Nat} {c : SV} {x y : SCode} {s : St} {Q : Out → St → Prop} : Wa (HS P n0 (.cond c x y) s Q) (Cd (c.ev s.ts) (HS P n0 x s Q) (HS P n0 y s Q)):=⟨Cd_ok⟩
theorem LA : type_of% LU ∧ type_of% LS ∧ type_of% LT ∧ type_of% @Cd_b:=⟨LU,LS,LT,@Cd_b⟩
class Wy (p : Prop) (a b : outParam Bool) (q : outParam Prop) : Prop where h : a = b → q → p
instance {b : Bool} {p : Prop} : Wy (Chk b ∧ p) b true p:=⟨And.intro⟩
end Go.Proofs.YtdpeakapcfjibaaGreat.Mir
namespace Go.Proofs.YtdpeakapcfjibaaGreat
open Go Go.RowKit Go.ChangeShapes Go.WideShapes Go.ChangeAt Go.Deep
theorem open_struct_arg {H : Type} {enc : TypeId × Value → H} {P : Program} {W : World} {ts : List TypeId} {ds : List (DataW H)} (hsz : (DataW.weightsEach P ts ds).all (· ≤ reachBytes) = true) {t : TypeId} {fs : Array Field} {d : DataW H} {ps : List MemPlace} (j : Nat) (htj : ts[j]? = some t) (hdj : ds[j]? = some d)
    {α : Type} {f : α → List Value} {good : α → Prop} (ht : P.underlying t = some (.struct fs)) (he : Reader P W t f good) {base : Nat} {v : Value} (hv : Value.okWide P W .any base t v)
    (h : DataW.Trod enc P W 0 (fun _=>true) true t v d ps) : ∃ a,v = .agg (f a).toArray ∧ good a:=by
  obtain ⟨cs,rfl,_⟩:=okWide_struct ht hv
  obtain ⟨fuel,hf'⟩:=h
  obtain ⟨a,h1,h2⟩:=he H enc fuel _ _ hf' (fun k hk=>by
    have:=List.all_eq_true.1 hsz _ (DataW.weights_mem_each htj hdj k hk)
    simpa using this)
  refine ⟨a,?_,h2⟩
  rw [← h1]
  simp [Value.cells]
theorem Mir.r_ag {P : Program} {W : World} {φ : Nat → Nat × Nat} {A : Nat → Prop} {N : Nat} {xs : List F} {us : List Value} (h : Mir.RFs W A xs us) (h1 : ∀ u ∈ us,u.oneCell' = true) : Mir.R P W φ A N (.ag (xs.map .f)) (.agg us.toArray) :=
  .ag (by simpa using h.1) (fun i d u hd hu=>by
    rw [List.getElem?_map] at hd
    cases hx : xs[i]? with
    | none=>rw [hx] at hd;cases hd
    | some x =>
      rw [hx] at hd
      cases hd
      exact .f (h.2 i x u hx (by simpa using hu))) (by simpa using h1)
theorem open_bs {H : Type} {enc : TypeId × Value → H} {W : World} {ts : List TypeId} {ds : List (DataW H)} (hsz : (DataW.weightsEach Tryz.prog ts ds).all (· ≤ reachBytes) = true) {d : DataW H} {ps : List MemPlace} (j : Nat) (htj : ts[j]? = some 29) (hdj : ds[j]? = some d)
    {a : Option Addr} {len cap : Nat} (h : DataW.Trod enc Tryz.prog W 0 (fun _=>true) true 29 (.slice a len cap) d ps) : ∃ xs : List UInt8,xs.length = len ∧ InS byteCell (fun _=>True) 1 W a cap xs :=
  open_slice_arg (n:=1) (B:=1) (f:=byteCell) hsz j htj hdj Tryz.underlying29 (by kernel_rfl) (by kernel_rfl) (fun _=>rfl) (reader_byte Tryz.underlying5) h
theorem Mir.rf_bytes {W : World} {A : Nat → Prop} (hA : ∀ b,¬ A b) {a : Option Addr} {c : Nat} {xs : List UInt8} (h : InS byteCell (fun _=>True) 1 W a c xs) : Mir.RF W A (Mir.fY xs) (.slice a xs.length c):=by
  have h1:=Mir.rf_in (A:=A) (g:=fun b=>[Mir.uF b]) h hA fun x _=>.cons (.v rfl) .nil
  have e : ∀ l : List UInt8,l.flatMap (fun b=>[Mir.uF b]) = l.map Mir.uF:=fun l=>by
    induction l with
    | nil=>rfl
    | cons x l ih=>rw [List.flatMap_cons,ih];rfl
  rw [e] at h1
  exact h1
end Go.Proofs.YtdpeakapcfjibaaGreat
