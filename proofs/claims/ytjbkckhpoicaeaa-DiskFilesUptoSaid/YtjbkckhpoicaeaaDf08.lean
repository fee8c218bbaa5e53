/- Texts laid into one file: T, CDisk, DiskA, Stp, StpIn, DiskB, MirClone. -/
import Derived.Test.YtjbkckhpoicaeaaDf07
import Derived.Ground.SlmcProg
import Derived.Shelf.SlMaps.Clone

/- Plain things as the machine holds them: lists of ints, of bools, graphs. -/
namespace Go.Proofs.Ytjbkckhpoicaeaa.Mir
open Go Go.RowKit

theorem isHS {P : Program} {n : Nat} {c : SCode} {s : St} {Q : Out → St → Prop} (h : HS P n c s Q) : HS P n c s Q := h
theorem isRet {n : Nat} {l : List SR} {Q : D → List Row → Prop} {s : St} (h : RetS n l Q s) : RetS n l Q s := h
theorem isCall {P : Program} {f : D} {l : List D} {H : List Row} {K : D → List Row → Prop} (h : callW P f l H K) : callW P f l H K := h
theorem isNext {n0 : Nat} {keep : List Nat} {α : Type} {st : α → St} {p : α → Prop} {m : α → Nat} {x : α} {s : St} (h : Next n0 keep st p m x s) : Next n0 keep st p m x s := h
theorem isThen {next : St → Prop} {Q : Out → St → Prop} {o : Out} {s : St} (h : thenQ next Q o s) : thenQ next Q o s := h
theorem isBlock {i : Nat} {Q : Out → St → Prop} {o : Out} {s : St} (h : blockQ i Q o s) : blockQ i Q o s := h
theorem if_some {α : Type} {c : Prop} [Decidable c] {a : α} (h : c) : (if c then some a else none) = some a := if_pos h
theorem isNextP {n : Nat} {α : Type} {st : α → List (Nat × D)} {hs : α → List Row} {p : α → Prop} {m : α → Nat} {x : α} {s : St} (h : NextP n st hs p m x s) : NextP n st hs p m x s := h
abbrev iF (n : Int) : F := .v (.int .i64 n)
abbrev bF (b : Bool) : F := .v (.bool b)
def fI (l : List Int) : F := .s (l.map iF) l.length
def fB (l : List Bool) : F := .s (l.map bF) l.length
theorem set_map_b {l : List Bool} {i : Nat} {b : Bool} : (l.map bF).set i (.v (.bool b)) = (l.set i b).map bF := by rw [List.map_set]
theorem app_map_i {l : List Int} {z : Int} : l.map iF ++ [.v (.int .i64 z)] = (l ++ [z]).map iF := by rw [List.map_append]; rfl
theorem most_eq : most = 140737488355328 := id rfl
theorem plain_ints (l : List Int) : ∀ x ∈ l.map iF, PlainF x := fun x hx => by
  obtain ⟨n, _, rfl⟩ := List.mem_map.1 hx
  exact .v

/-- Elements of so many cells each. -/
theorem flat_at {α : Type} [Inhabited α] {cs : α → List F} {n : Nat} (hn : ∀ x, (cs x).length = n) {l : List α} {k j : Nat} (hk : k < l.length) (hj : j < n) : (l.flatMap cs)[k * n + j]? = (cs (gt l k))[j]? := by
  rw [gt_eq hk]
  exact (flat_getF cs n hn l k hk j hj)
where
  flat_getF {α : Type} (f : α → List F) (n : Nat) (hf : ∀ x, (f x).length = n) : ∀ (xs : List α) (k : Nat) (hk : k < xs.length) (i : Nat), i < n → (xs.flatMap f)[k * n + i]? = (f xs[k])[i]?
    | [], k, hk, _, _ => by simp at hk
    | x :: xs, 0, _, i, hi => by
      rw [List.flatMap_cons, Nat.zero_mul, Nat.zero_add, List.getElem?_append_left (by rw [hf]; exact hi)]; rfl
    | x :: xs, k + 1, hk, i, hi => by
      rw [List.flatMap_cons, List.getElem?_append_right (by rw [hf, Nat.add_mul]; omega), hf, show (k + 1) * n + i - n = k * n + i by rw [Nat.add_mul]; omega]
      exact flat_getF f n hf xs k (by simpa using hk) i hi
theorem flat_len' {α : Type} {cs : α → List F} {n : Nat} (hn : ∀ x, (cs x).length = n) (l : List α) : (l.flatMap cs).length = l.length * n := by
  induction l with
  | nil => simp
  | cons x l ih => rw [List.flatMap_cons, List.length_append, hn, ih, List.length_cons, Nat.add_mul]; omega
theorem flat_take {α : Type} [Inhabited α] {cs : α → List F} {n : Nat} (hn : ∀ x, (cs x).length = n) {l : List α} {k : Nat} (hk : k < l.length) : ((l.flatMap cs).drop (k * n)).take n = cs (gt l k) := by
  apply List.ext_getElem?
  intro j
  rw [List.getElem?_take]
  split
  · rename_i hj
    rw [List.getElem?_drop, flat_at hn hk hj]
  · rw [List.getElem?_eq_none (by rw [hn]; omega)]
theorem flat_loadA {α : Type} [Inhabited α] {cs : α → List F} {n : Nat} (hn : ∀ x, (cs x).length = n) {H : List Row} {l : List α} {k : Nat} (hk : k < l.length) : loadA H n (.rf ((l.flatMap cs).drop (k * n))) = some (.ag ((cs (gt l k)).map .f)) := by
  have hl := flat_len' hn l
  have : (k + 1) * n ≤ l.length * n := Nat.mul_le_mul_right n hk
  rw [Nat.add_mul] at this
  rw [loadA_rf, if_pos (by rw [List.length_drop, hl]; omega), ← flat_take hn hk, List.map_take]
theorem flat_drop {α : Type} {cs : α → List F} {n : Nat} (hn : ∀ x, (cs x).length = n) : ∀ (l : List α) (k : Nat), (l.flatMap cs).drop (k * n) = (l.drop k).flatMap cs
  | l, 0 => by simp
  | [], k + 1 => by simp
  | x :: l, k + 1 => by
    rw [List.flatMap_cons, List.drop_succ_cons, ← flat_drop hn l k, Nat.add_mul, Nat.one_mul, Nat.add_comm, ← List.drop_drop, List.drop_left' (hn x)]

/-- A node. -/
structure Nd where
  ns : List Int
  tr : Int
  le : Int
  deriving Inhabited, DecidableEq
def Nd.cs (d : Nd) : List F := [fI d.ns, iF d.tr, iF d.le]
theorem Nd.cs_len (d : Nd) : d.cs.length = 3 := rfl
theorem nd_cs {d : Nd} : d.cs = [fI d.ns, iF d.tr, iF d.le] := id rfl
def fG (g : List Nd) : F := .s (g.flatMap Nd.cs) g.length
theorem nd_load {H : List Row} {g : List Nd} {k : Nat} (hk : k < g.length) : loadA H 3 (.rf ((g.flatMap Nd.cs).drop (k * 3))) = some (.ag ((Nd.cs (gt g k)).map .f)) := flat_loadA Nd.cs_len hk
theorem nd_at0 {g : List Nd} {k : Nat} (hk : k < g.length) : (g.flatMap Nd.cs)[k * 3]? = some (fI (gt g k).ns) := flat_at (j := 0) Nd.cs_len hk (by omega)
theorem nd_at1 {g : List Nd} {k : Nat} (hk : k < g.length) : (g.flatMap Nd.cs)[k * 3 + 1]? = some (iF (gt g k).tr) := flat_at (j := 1) Nd.cs_len hk (by omega)
theorem nd_at2 {g : List Nd} {k : Nat} (hk : k < g.length) : (g.flatMap Nd.cs)[k * 3 + 2]? = some (iF (gt g k).le) := flat_at (j := 2) Nd.cs_len hk (by omega)
/-- A nil slice in a box is looked at as a list without elements. -/
theorem View.nil0 {P : Program} {n0 : Nat} {ts : List D} {H : List Row} {dr : List Nat} {r i : Nat} {T : TypeId} {xs : List D} (hH : H[r]? = some (.box T xs)) (hx : xs[i]? = some (.f (.v (.slice none 0 0)))) :
    View P n0 ⟨ts, H, dr⟩ ⟨ts, H.set r (.box T (xs.set i (.f (.s [] 0)))), []⟩ := by
  intro X w0 φ0 H0 w φ a _ hr
  have hlt : r < H.length := (List.getElem?_eq_some_iff.1 hH).1
  have hget : ∀ (q : Nat) (row : Row), (H.set r (.box T (xs.set i (.f (.s [] 0)))))[q]? = some row → (q = r ∧ row = .box T (xs.set i (.f (.s [] 0)))) ∨ H[q]? = some row := by
    intro q row h
    rw [List.getElem?_set] at h
    split at h
    · rename_i e; subst e
      try rw [if_pos hlt] at h
      exact .inl ⟨rfl, (Option.some.inj h).symm⟩
    · exact .inr h
  have hback : ∀ (q : Nat) (row : Row), H[q]? = some row → ∃ row' : Row, (H.set r (.box T (xs.set i (.f (.s [] 0)))))[q]? = some row' ∧ row'.live = row.live := by
    intro q row h
    rw [List.getElem?_set]
    split
    · rename_i e; subst e
      try rw [if_pos hlt]
      rw [hH] at h
      cases h
      exact ⟨_, rfl, rfl⟩
    · exact ⟨row, h, rfl⟩
  have hlive : ∀ b, Live φ (H.set r (.box T (xs.set i (.f (.s [] 0))))) b ↔ Live φ H b := by
    intro b
    constructor
    · rintro ⟨q, row, h1, h2, h3⟩
      rcases hget q row h1 with ⟨rfl, rfl⟩ | h
      · exact ⟨q, _, hH, rfl, h3⟩
      · exact ⟨q, row, h, h2, h3⟩
    · rintro ⟨q, row, h1, h2, h3⟩
      obtain ⟨row', h4, h5⟩ := hback q row h1
      exact ⟨q, row', h4, by rw [h5]; exact h2, h3⟩
  have hav : Av X φ (H.set r (.box T (xs.set i (.f (.s [] 0))))) = Av X φ H := funext fun b => propext (or_congr Iff.rfl (hlive b))
  have hlen : (H.set r (.box T (xs.set i (.f (.s [] 0))))).length = H.length := List.length_set
  refine ⟨φ, ⟨⟨?_, ?_, ?_, hr.sim.heap.old⟩, ?_, hr.sim.defers⟩, ⟨?_, hr.ons.same, hr.ons.keep, fun b h => hr.ons.fresh b ((hlive b).1 h)⟩⟩
  · intro q row h
    dsimp only at h ⊢
    rw [hav, hlen]
    rcases hget q row h with ⟨rfl, rfl⟩ | h
    · obtain ⟨h0, cs, hc, ⟨hl, hg⟩, hone⟩ := hr.sim.heap.rows q _ hH
      refine ⟨h0, cs, hc, ⟨by rw [List.length_set]; exact hl, fun j d u hd hu => ?_⟩, hone⟩
      rw [List.getElem?_set] at hd
      split at hd
      · rename_i e; subst e
        have hd : some (D.f (.s [] 0)) = some d := by first | exact hd | (split at hd <;> first | exact hd | cases hd)
        cases hd
        have := hg i _ u hx hu
        cases this with | f h => cases h with | v _ => exact .f .s0
      · exact hg j d u hd hu
    · exact hr.sim.heap.rows q row h
  · intro q s row row' h1 h2 h3 h4 h5
    have k : ∀ (q : Nat) (row : Row), (H.set r (.box T (xs.set i (.f (.s [] 0)))))[q]? = some row → row.live = true → ∃ row0, H[q]? = some row0 ∧ row0.live = true := by
      intro q row h hl
      rcases hget q row h with ⟨rfl, rfl⟩ | h
      · exact ⟨_, hH, rfl⟩
      · exact ⟨row, h, hl⟩
    obtain ⟨a1, b1, c1⟩ := k q row h1 h3
    obtain ⟨a2, b2, c2⟩ := k s row' h2 h4
    exact hr.sim.heap.apart q s a1 a2 b1 b2 c1 c2 h5
  · intro q row h1 h3
    rcases hget q row h1 with ⟨rfl, rfl⟩ | h
    · exact hr.sim.heap.off q _ hH rfl
    · exact hr.sim.heap.off q row h h3
  · dsimp only
    rw [hav, hlen]
    exact hr.sim.tmps
  · dsimp only
    rw [hlen]
    exact hr.ons.len
/-- A nil slice in a row of data is looked at as a list without elements. -/
theorem View.nild {P : Program} {n0 : Nat} {ts : List D} {H : List Row} {dr : List Nat} {r i : Nat} {T : TypeId} {xs : List F} (hH : H[r]? = some (.data T xs)) (hx : xs[i]? = some (.v (.slice none 0 0))) :
    View P n0 ⟨ts, H, dr⟩ ⟨ts, H.set r (.data T (xs.set i (.s [] 0))), []⟩ := by
  intro X w0 φ0 H0 w φ a _ hr
  have hlt : r < H.length := (List.getElem?_eq_some_iff.1 hH).1
  have hget : ∀ (q : Nat) (row : Row), (H.set r (.data T (xs.set i (.s [] 0))))[q]? = some row → (q = r ∧ row = .data T (xs.set i (.s [] 0))) ∨ H[q]? = some row := by
    intro q row h
    rw [List.getElem?_set] at h
    split at h
    · rename_i e; subst e
      try rw [if_pos hlt] at h
      exact .inl ⟨rfl, (Option.some.inj h).symm⟩
    · exact .inr h
  have hback : ∀ (q : Nat) (row : Row), H[q]? = some row → ∃ row' : Row, (H.set r (.data T (xs.set i (.s [] 0))))[q]? = some row' ∧ row'.live = row.live := by
    intro q row h
    rw [List.getElem?_set]
    split
    · rename_i e; subst e
      try rw [if_pos hlt]
      rw [hH] at h
      cases h
      exact ⟨_, rfl, rfl⟩
    · exact ⟨row, h, rfl⟩
  have hlive : ∀ b, Live φ (H.set r (.data T (xs.set i (.s [] 0)))) b ↔ Live φ H b := by
    intro b
    constructor
    · rintro ⟨q, row, h1, h2, h3⟩
      rcases hget q row h1 with ⟨rfl, rfl⟩ | h
      · exact ⟨q, _, hH, rfl, h3⟩
      · exact ⟨q, row, h, h2, h3⟩
    · rintro ⟨q, row, h1, h2, h3⟩
      obtain ⟨row', h4, h5⟩ := hback q row h1
      exact ⟨q, row', h4, by rw [h5]; exact h2, h3⟩
  have hav : Av X φ (H.set r (.data T (xs.set i (.s [] 0)))) = Av X φ H := funext fun b => propext (or_congr Iff.rfl (hlive b))
  have hlen : (H.set r (.data T (xs.set i (.s [] 0)))).length = H.length := List.length_set
  refine ⟨φ, ⟨⟨?_, ?_, ?_, hr.sim.heap.old⟩, ?_, hr.sim.defers⟩, ⟨?_, hr.ons.same, hr.ons.keep, fun b h => hr.ons.fresh b ((hlive b).1 h)⟩⟩
  · intro q row h
    dsimp only at h ⊢
    rw [hav, hlen]
    rcases hget q row h with ⟨rfl, rfl⟩ | h
    · obtain ⟨pre, us, post, hc, hp, ⟨hl, hg⟩⟩ := hr.sim.heap.rows q _ hH
      refine ⟨pre, us, post, hc, hp, ⟨by rw [List.length_set]; exact hl, fun j d u hd hu => ?_⟩⟩
      rw [List.getElem?_set] at hd
      split at hd
      · rename_i e; subst e
        have hd : some (F.s [] 0) = some d := by first | exact hd | (split at hd <;> first | exact hd | cases hd)
        cases hd
        have := hg i _ u hx hu
        cases this with | v _ => exact .s0
      · exact hg j d u hd hu
    · exact hr.sim.heap.rows q row h
  · intro q s row row' h1 h2 h3 h4 h5
    have k : ∀ (q : Nat) (row : Row), (H.set r (.data T (xs.set i (.s [] 0))))[q]? = some row → row.live = true → ∃ row0, H[q]? = some row0 ∧ row0.live = true := by
      intro q row h hl
      rcases hget q row h with ⟨rfl, rfl⟩ | h
      · exact ⟨_, hH, rfl⟩
      · exact ⟨row, h, hl⟩
    obtain ⟨a1, b1, c1⟩ := k q row h1 h3
    obtain ⟨a2, b2, c2⟩ := k s row' h2 h4
    exact hr.sim.heap.apart q s a1 a2 b1 b2 c1 c2 h5
  · intro q row h1 h3
    rcases hget q row h1 with ⟨rfl, rfl⟩ | h
    · exact hr.sim.heap.off q _ hH rfl
    · exact hr.sim.heap.off q row h h3
  · dsimp only
    rw [hav, hlen]
    exact hr.sim.tmps
  · dsimp only
    rw [hlen]
    exact hr.ons.len
/-- The end of a part of the code, told. -/
def OutN (P : Program) (n0 : Nat) {α : Type} (st : α → St) (p : α → Prop) (o : Out) (s : St) : Prop := o = .normal ∧ ∃ y, View P n0 s (st y) ∧ p y
theorem OutN.mk {P : Program} {n0 : Nat} {α : Type} {st : α → St} {p : α → Prop} {s : St} (keep : List Nat) (y : α) (h : sweepW n0 keep s = some (st y)) (hp : p y) : OutN P n0 st p .normal s := ⟨rfl, y, View.sweep h, hp⟩
theorem OutN.via {P : Program} {n0 : Nat} {α : Type} {st : α → St} {p : α → Prop} {s s1 : St} (keep : List Nat) (y : α) (h : sweepW n0 keep s = some s1) (hv : View P n0 s1 (st y)) (hp : p y) : OutN P n0 st p .normal s := ⟨rfl, y, (View.sweep h).trans hv, hp⟩
theorem isOutN {P : Program} {n0 : Nat} {α : Type} {st : α → St} {p : α → Prop} {o : Out} {s : St} (h : OutN P n0 st p o s) : OutN P n0 st p o s := h
theorem HS.cutn {P : Program} {n0 : Nat} {c : SCode} {s : St} {Q : Out → St → Prop} {α : Type} (st : α → St) (p : α → Prop) (h1 : HS P n0 c s (OutN P n0 st p)) (h2 : ∀ y, p y → ∀ s', View P n0 s' (st y) → Q .normal s') : HS P n0 c s Q :=
  h1.mono fun o s' ⟨ho, y, hs, hp⟩ => by rw [ho]; exact h2 y hp s' hs
/-- A loop's end, told: the code behind it is walked apart. -/
def OutS (n0 : Nat) (keep : List Nat) (i : Nat) {α : Type} (st : α → St) (p : α → Prop) (o : Out) (s : St) : Prop := o = .exit i ∧ ∃ y, sweepW n0 keep s = some (st y) ∧ p y
theorem OutS.mk {n0 : Nat} {keep : List Nat} {i : Nat} {α : Type} {st : α → St} {p : α → Prop} {s : St} (y : α) (h : sweepW n0 keep s = some (st y)) (hp : p y) : OutS n0 keep i st p (.exit i) s := ⟨rfl, y, h, hp⟩
theorem isOut {n0 : Nat} {keep : List Nat} {i : Nat} {α : Type} {st : α → St} {p : α → Prop} {o : Out} {s : St} (h : OutS n0 keep i st p o s) : OutS n0 keep i st p o s := h
theorem HS.cut {P : Program} {n0 : Nat} {c : SCode} {s : St} {Q : Out → St → Prop} (keep : List Nat) (i : Nat) {α : Type} (st : α → St) (p : α → Prop) (h1 : HS P n0 c s (OutS n0 keep i st p)) (h2 : ∀ y, p y → ∀ s', View P n0 s' (st y) → Q (.exit i) s') : HS P n0 c s Q :=
  h1.mono fun o s' ⟨ho, y, hs, hp⟩ => by rw [ho]; exact h2 y hp s' (View.sweep hs)
/- A drawn region, one operation at a time (mac.py: GOD). -/
theorem wpDr_aK {P : Program} {b : List Nat} {n0 i t n : Nat} {o : SOp} {l : List SI} {own : List Nat} {log : List (List Nat × List Nat)} {e : List (Nat × D)} {H : List Row} {dr : List Nat} {K : St → Prop}
    (h : ∀ N : List Nat → List (List Nat × List Nat) → D → List Row → Prop, (∀ own1 log1 d H1, wpDr P b n0 l (i + 1) own1 log1 ⟨frm n ((t, d) :: e), H1, []⟩ K → N own1 log1 d H1) → drStep P b own n0 i log o (viewS (frm n e) H o) (frm n e) H N) : wpDr P b n0 (.a t o :: l) i own log ⟨frm n e, H, dr⟩ K := by
  rw [wpDr_a]; exact h _ fun _ _ _ _ h => by rw [frm_set]; exact h
theorem wpDr_nK {P : Program} {b : List Nat} {n0 i n : Nat} {o : SOp} {l : List SI} {own : List Nat} {log : List (List Nat × List Nat)} {e : List (Nat × D)} {H : List Row} {dr : List Nat} {K : St → Prop}
    (h : ∀ N : List Nat → List (List Nat × List Nat) → D → List Row → Prop, (∀ own1 log1 d H1, wpDr P b n0 l (i + 1) own1 log1 ⟨frm n e, H1, []⟩ K → N own1 log1 d H1) → drStep P b own n0 i log o (viewS (frm n e) H o) (frm n e) H N) : wpDr P b n0 (.n o :: l) i own log ⟨frm n e, H, dr⟩ K := by
  rw [wpDr_n]; exact h _ fun _ _ _ _ h => h
theorem wpDr_gK {P : Program} {b : List Nat} {n0 i t n u : Nat} {w : Bool} {o : SOp} {l : List SI} {own : List Nat} {log : List (List Nat × List Nat)} {e : List (Nat × D)} {H : List Row} {dr : List Nat} {K : St → Prop}
    (h : ∀ (N : List Nat → List (List Nat × List Nat) → D → List Row → Prop) (M : Prop), (∀ own1 log1 r H1, wpDr P b n0 l (i + 1) own1 log1 ⟨frm n ((u, r) :: e), H1, []⟩ K → N own1 log1 r H1) → (wpDr P b n0 l (i + 1) own (log ++ [([], [])]) ⟨frm n ((u, D.undef) :: e), H, []⟩ K → M) →
      wantV (frm n e)[t]? w (drStep P b own n0 i log o (viewS (frm n e) H o) (frm n e) H N) M) : wpDr P b n0 (.g (some u) o t w :: l) i own log ⟨frm n e, H, dr⟩ K := by
  rw [wpDr_g]; exact h _ _ (fun _ _ _ _ h => by rw [show putD! (frm n e) (some u) _ = (frm n e).set u _ from rfl, frm_set]; exact h) fun h => by rw [show putD! (frm n e) (some u) _ = (frm n e).set u _ from rfl, frm_set]; exact h
end Go.Proofs.Ytjbkckhpoicaeaa.Mir

/- Functions of the program, told without it. -/
namespace Go.Proofs.Ytjbkckhpoicaeaa.Mir
open Go Go.RowKit

/-- cutover.disk.New -/
def s_disk_New : SCode :=
  (.seq (.ops [.a 0 (.mv (.c (.f (.v (.pointer none)))))])
  (.seq (.ops [.a 1 (.mkmap),
 .a 2 (.mkmap),
 .a 3 (.bld [(.f (.v (.map none))), (.f (.v (.map none))), (.f (.v (.slice none 0 0))), (.f (.v (.int .i64 0))), (.f (.v (.bool false))), (.f (.v (.int .i64 0)))] [(0, 1, (.t 1)), (1, 1, (.t 2)), (3, 1, (.c (.f (.v (.int .i64 (-1))))))]),
 .a 4 (.box 76 (.t 3)),
 .a 0 (.mv (.t 4))])
  .ret))
theorem fn_disk_New : Fn Try.prog 14 5 [.t 0] s_disk_New := ⟨_, _, Try.func14, rfl, rfl, by kernel_rfl, by kernel_rfl⟩

/-- (cutover.disk.files).do -/
def s_disk_do : SCode :=
  (.seq (.ops [.a 3 (.box 79 (.t 1))])
  (.seq (.seq (.ops [.a 4 (.off 1 (.t 3)),
 .a 5 (.load1 (.t 4)),
 .a 6 (.slen (.t 5)),
 .a 7 (.bin .eql (.t 6) (.c (.f (.v (.int .i64 0)))))])
   (.cond (.t 7)
    (.seq (.ops [.a 8 (.mv (.t 0)),
 .a 9 (.off 0 (.t 3)),
 .a 10 (.load1 (.t 9)),
 .n (.mdel 3 (.t 8) (.t 10))])
    .ret)
    .skip))
  (.drw [.a 11 (.mv (.t 0)),
    .a 12 (.off 0 (.t 3)),
    .a 13 (.load1 (.t 12)),
    .a 14 (.mv (.t 0)),
    .a 15 (.off 0 (.t 3)),
    .a 16 (.load1 (.t 15)),
    .a 17 (.look false 3 (.f (.v (.slice none 0 0))) (.t 14) (.t 16)),
    .a 18 (.call (.c (.fn 50 [])) [(.t 17)]),
    .a 19 (.off 1 (.t 3)),
    .a 20 (.load1 (.t 19)),
    .a 21 (.app 5 1 1 (.t 18) (.t 20)),
    .n (.mput 3 (.t 11) (.t 13) (.t 21))] [0, 0, 2, 0, 0, 16, 56, 120, 0, 256, 1016, 2047])))
theorem fn_disk_do : Fn Try.prog 57 22 [] s_disk_do := ⟨_, _, Try.func57, rfl, rfl, by kernel_rfl, by kernel_rfl⟩

/-- (*cutover.disk.Disk).work -/
def s_disk_work : SCode :=
  (.seq (.ops [.a 2 (.mv (.c (.f (.v (.int .i64 0)))))])
  (.seq (.seq (.ops [.a 3 (.mv (.t 0)),
 .a 4 (.nilc (.t 3)),
 .a 5 (.off 3 (.t 4)),
 .a 6 (.load1 (.t 5)),
 .a 7 (.bin .eql (.t 6) (.c (.f (.v (.int .i64 0)))))])
   (.cond (.t 7)
    (.ops [.a 8 (.mv (.t 0)),
 .a 9 (.nilc (.t 8)),
 .a 10 (.off 4 (.t 9)),
 .n (.store 1 (.t 10) (.c (.f (.v (.bool true)))))])
    .skip))
  (.seq (.seq (.ops [.a 11 (.mv (.t 0)),
 .a 12 (.nilc (.t 11)),
 .a 13 (.off 4 (.t 12)),
 .a 14 (.load1 (.t 13))])
   (.cond (.t 14)
    (.seq (.ops [.a 2 (.mv (.c (.f (.v (.int .i64 14)))))])
    .ret)
    .skip))
  (.seq (.seq (.ops [.a 15 (.mv (.t 0)),
 .a 16 (.nilc (.t 15)),
 .a 17 (.off 3 (.t 16)),
 .a 18 (.load1 (.t 17)),
 .a 19 (.bin .gtr (.t 18) (.c (.f (.v (.int .i64 0)))))])
   (.cond (.t 19)
    (.ops [.a 20 (.mv (.t 0)),
 .a 21 (.nilc (.t 20)),
 .a 22 (.off 3 (.t 21)),
 .a 23 (.load1 (.t 22)),
 .a 24 (.bin .sub (.t 23) (.c (.f (.v (.int .i64 1))))),
 .a 25 (.nilc (.t 20)),
 .a 26 (.off 3 (.t 25)),
 .n (.store 1 (.t 26) (.t 24))])
    .skip))
  (.seq (.ops [.a 27 (.mv (.t 0)),
 .a 28 (.nilc (.t 27)),
 .a 29 (.off 5 (.t 28)),
 .a 30 (.load1 (.t 29)),
 .a 31 (.bin .add (.t 30) (.c (.f (.v (.int .i64 1))))),
 .a 32 (.nilc (.t 27)),
 .a 33 (.off 5 (.t 32)),
 .n (.store 1 (.t 33) (.t 31))])
  (.seq (.ops [.a 2 (.mv (.c (.f (.v (.int .i64 0)))))])
  .ret))))))
theorem fn_disk_work : Fn Try.prog 48 34 [.t 2] s_disk_work := ⟨_, _, Try.func48, rfl, rfl, by kernel_rfl, by kernel_rfl⟩

/-- (*cutover.disk.Disk).put -/
def s_disk_put : SCode :=
  (.seq (.ops [.a 3 (.box 79 (.t 1))])
  (.seq (.drw [.a 4 (.mv (.t 0)),
     .a 5 (.mv (.t 0)),
     .a 6 (.nilc (.t 5)),
     .a 7 (.off 2 (.t 6)),
     .a 8 (.load1 (.t 7)),
     .a 9 (.loadA 2 (.t 3)),
     .a 10 (.bsl 79 2 1 [(.f (.v (.int .i64 0))), (.f (.v (.slice none 0 0)))] [(0, (.t 9))]),
     .a 11 (.app 79 2 32 (.t 8) (.t 10)),
     .a 12 (.nilc (.t 4)),
     .a 13 (.off 2 (.t 12)),
     .n (.store 1 (.t 13) (.t 11))] [0, 0, 2, 6, 14, 0, 32, 126, 255, 511, 1023])
  (.drw [.a 14 (.mv (.t 0)),
    .a 15 (.nilc (.t 14)),
    .a 16 (.off 1 (.t 15)),
    .a 17 (.load1 (.t 16)),
    .a 18 (.loadA 2 (.t 3)),
    .a 19 (.call (.c (.fn 57 [])) [(.t 17), (.t 18)])] [0, 1, 3, 7, 0, 31])))
theorem fn_disk_put : Fn Try.prog 49 20 [] s_disk_put := ⟨_, _, Try.func49, rfl, rfl, by kernel_rfl, by kernel_rfl⟩

/-- (*cutover.disk.Disk).Append -/
def s_disk_Append : SCode :=
  (.seq (.ops [.a 6 (.mv (.c (.f (.v (.int .i64 0)))))])
  (.seq (.seq (.ops [.a 8 (.mv (.t 1)),
 .a 9 (.bin .lss (.t 8) (.c (.f (.v (.int .i64 0)))))])
   (.cond (.t 9)
    (.seq (.ops [.a 6 (.mv (.c (.f (.v (.int .i64 1)))))])
    .ret)
    .skip))
  (.seq (.seq (.ops ([.a 10 (.mv (.t 0)),
 .a 11 (.call (.c (.fn 48 [])) [(.t 10)])] ++
 ([.a 7 (.mv (.t 11))])))
   (.seq (.ops [.a 12 (.mv (.t 7)),
 .a 13 (.bin .neq (.t 12) (.c (.f (.v (.int .i64 0)))))])
   (.cond (.t 13)
    (.seq (.ops [.a 14 (.mv (.t 7)),
 .a 6 (.mv (.t 14))])
    .ret)
    .skip)))
  (.seq (.seq (.ops [.a 15 (.mv (.t 2)),
 .a 16 (.slen (.t 15)),
 .a 17 (.bin .gtr (.t 16) (.c (.f (.v (.int .i64 0)))))])
   (.cond (.t 17)
    (.ops ([.a 18 (.mv (.t 0)),
 .a 19 (.mv (.t 1)),
 .a 20 (.mv (.t 2)),
 .a 21 (.call (.c (.fn 50 [])) [(.t 20)])] ++
 ([.a 22 (.bld [(.f (.v (.int .i64 0))), (.f (.v (.slice none 0 0)))] [(0, 1, (.t 19)), (1, 1, (.t 21))]),
 .a 23 (.call (.c (.fn 49 [])) [(.t 18), (.t 22)])])))
    .skip))
  (.seq (.ops [.a 6 (.mv (.c (.f (.v (.int .i64 0)))))])
  .ret)))))
theorem fn_disk_Append : Fn Try.prog 17 24 [.t 6] s_disk_Append := ⟨_, _, Try.func17, rfl, rfl, by kernel_rfl, by kernel_rfl⟩

/-- (*cutover.disk.Disk).Remove -/
def s_disk_Remove : SCode :=
  (.seq (.ops [.a 4 (.mv (.c (.f (.v (.int .i64 0)))))])
  (.seq (.seq (.ops [.a 6 (.mv (.t 1)),
 .a 7 (.bin .lss (.t 6) (.c (.f (.v (.int .i64 0)))))])
   (.cond (.t 7)
    (.seq (.ops [.a 4 (.mv (.c (.f (.v (.int .i64 1)))))])
    .ret)
    .skip))
  (.seq (.seq (.ops ([.a 8 (.mv (.t 0)),
 .a 9 (.call (.c (.fn 48 [])) [(.t 8)])] ++
 ([.a 5 (.mv (.t 9))])))
   (.seq (.ops [.a 10 (.mv (.t 5)),
 .a 11 (.bin .neq (.t 10) (.c (.f (.v (.int .i64 0)))))])
   (.cond (.t 11)
    (.seq (.ops [.a 12 (.mv (.t 5)),
 .a 4 (.mv (.t 12))])
    .ret)
    .skip)))
  (.seq (.seq (.ops [.a 13 (.mv (.t 0)),
 .a 14 (.nilc (.t 13)),
 .a 15 (.off 1 (.t 14)),
 .a 16 (.load1 (.t 15)),
 .a 17 (.mv (.t 1)),
 .a 18 (.look false 3 (.f (.v (.slice none 0 0))) (.t 16) (.t 17)),
 .a 19 (.slen (.t 18)),
 .a 20 (.bin .gtr (.t 19) (.c (.f (.v (.int .i64 0)))))])
   (.cond (.t 20)
    (.ops [.a 21 (.mv (.t 0)),
 .a 22 (.mv (.t 1)),
 .a 23 (.bld [(.f (.v (.int .i64 0))), (.f (.v (.slice none 0 0)))] [(0, 1, (.t 22))]),
 .a 24 (.call (.c (.fn 49 [])) [(.t 21), (.t 23)])])
    .skip))
  (.seq (.ops [.a 4 (.mv (.c (.f (.v (.int .i64 0)))))])
  .ret)))))
theorem fn_disk_Remove : Fn Try.prog 16 25 [.t 4] s_disk_Remove := ⟨_, _, Try.func16, rfl, rfl, by kernel_rfl, by kernel_rfl⟩

/-- (*cutover.disk.Disk).Sync -/
def s_disk_Sync : SCode :=
  (.seq (.ops [.a 2 (.mv (.c (.f (.v (.int .i64 0)))))])
  (.seq (.seq (.ops ([.a 4 (.mv (.t 0)),
 .a 5 (.call (.c (.fn 48 [])) [(.t 4)])] ++
 ([.a 3 (.mv (.t 5))])))
   (.seq (.ops [.a 6 (.mv (.t 3)),
 .a 7 (.bin .neq (.t 6) (.c (.f (.v (.int .i64 0)))))])
   (.cond (.t 7)
    (.seq (.ops [.a 8 (.mv (.t 3)),
 .a 2 (.mv (.t 8))])
    .ret)
    .skip)))
  (.seq (.ops ([.a 9 (.mv (.t 0)),
 .a 10 (.mv (.t 0)),
 .a 11 (.mv (.t 0)),
 .a 12 (.nilc (.t 11)),
 .a 13 (.off 1 (.t 12)),
 .a 14 (.load1 (.t 13)),
 .a 15 (.call (.c (.fn 51 [])) [(.t 14)])] ++
 ([.a 16 (.nilc (.t 9)),
 .a 17 (.off 0 (.t 16)),
 .n (.store 1 (.t 17) (.t 15)),
 .a 18 (.nilc (.t 10)),
 .a 19 (.off 2 (.t 18)),
 .n (.store 1 (.t 19) (.c (.f (.v (.slice none 0 0)))))])))
  (.seq (.ops [.a 2 (.mv (.c (.f (.v (.int .i64 0)))))])
  .ret))))
theorem fn_disk_Sync : Fn Try.prog 18 20 [.t 2] s_disk_Sync := ⟨_, _, Try.func18, rfl, rfl, by kernel_rfl, by kernel_rfl⟩

/-- (*cutover.disk.Disk).Crash -/
def s_disk_Crash : SCode :=
  (.seq (.ops ([.a 10 (.mv (.t 1)),
 .a 11 (.mv (.t 0)),
 .a 12 (.nilc (.t 11)),
 .a 13 (.off 2 (.t 12)),
 .a 14 (.load1 (.t 13)),
 .a 15 (.slen (.t 14)),
 .a 16 (.bin .add (.t 15) (.c (.f (.v (.int .i64 1))))),
 .a 17 (.call (.c (.fn 56 [])) [(.t 10), (.t 16)])] ++
 ([.a 6 (.mv (.t 17))])))
  (.seq (.seq (.ops [.a 18 (.mv (.t 0)),
 .a 19 (.nilc (.t 18)),
 .a 20 (.off 2 (.t 19)),
 .a 21 (.load1 (.t 20)),
 .a 22 (.slen (.t 21)),
 .a 23 (.mv (.c (.f (.v (.int .i64 0)))))])
   (.block 0 (.loop
     (.seq (.ops [.a 24 (.bin .lss (.t 23) (.t 22))])
     (.seq (.cond (.t 24)
       .skip
       (.exit 0))
     (.seq (.block 1 (.seq (.ops [.a 25 (.mv (.t 23)),
 .a 26 (.idx 2 (.t 21) (.t 23)),
 .a 27 (.loadA 2 (.t 26)),
 .a 8 (.alloc 79 [(.f (.v (.int .i64 0))), (.f (.v (.slice none 0 0)))]),
 .a 7 (.mv (.t 25)),
 .n (.store 2 (.t 8) (.t 27))])
       (.block 2 (.seq (.ops ([.a 29 (.mv (.t 7)),
 .a 30 (.mv (.t 6)),
 .a 31 (.bin .lss (.t 29) (.t 30))] ++
 ([.a 28 (.mv (.t 31))])))
        (.cond (.t 28)
         (.drw [.a 32 (.mv (.t 0)),
           .a 33 (.nilc (.t 32)),
           .a 34 (.off 0 (.t 33)),
           .a 35 (.load1 (.t 34)),
           .a 36 (.loadA 2 (.t 8)),
           .a 37 (.call (.c (.fn 57 [])) [(.t 35), (.t 36)])] [0, 1, 3, 7, 0, 31])
         (.seq (.ops ([.a 39 (.mv (.t 7)),
 .a 40 (.mv (.t 6)),
 .a 41 (.bin .eql (.t 39) (.t 40))] ++
 ([.a 42 (.mv (.t 41)),
 .g (some 43) (.off 1 (.t 8)) 42 true] ++
 ([.g (some 44) (.load1 (.t 43)) 42 true,
 .g (some 45) (.slen (.t 44)) 42 true,
 .g (some 46) (.bin .gtr (.t 45) (.c (.f (.v (.int .i64 0))))) 42 true] ++
 ([.a 47 (.pick (.t 42) (.t 46) (.c (.f (.v (.bool false))))),
 .a 38 (.mv (.t 47))])))))
         (.cond (.t 38)
          (.seq (.drw [.a 48 (.off 1 (.t 8)),
             .a 49 (.load1 (.t 48)),
             .a 50 (.mv (.t 2)),
             .a 51 (.off 1 (.t 8)),
             .a 52 (.load1 (.t 51)),
             .a 53 (.slen (.t 52)),
             .a 54 (.bin .add (.t 53) (.c (.f (.v (.int .i64 1))))),
             .a 55 (.call (.c (.fn 56 [])) [(.t 50), (.t 54)]),
             .a 56 (.sub 1 5 (.t 49) none (some (.t 55)) none),
             .a 9 (.mv (.t 56))] [0, 1, 0, 0, 8, 24, 56, 124, 255, 511])
          (.seq (.ops [.a 57 (.mv (.t 9)),
 .a 58 (.slen (.t 57)),
 .a 59 (.bin .gtr (.t 58) (.c (.f (.v (.int .i64 0)))))])
          (.cond (.t 59)
           (.drw [.a 60 (.mv (.t 0)),
             .a 61 (.nilc (.t 60)),
             .a 62 (.off 0 (.t 61)),
             .a 63 (.load1 (.t 62)),
             .a 64 (.off 0 (.t 8)),
             .a 65 (.load1 (.t 64)),
             .a 66 (.mv (.t 9)),
             .a 67 (.bld [(.f (.v (.int .i64 0))), (.f (.v (.slice none 0 0)))] [(0, 1, (.t 65)), (1, 1, (.t 66))]),
             .a 68 (.call (.c (.fn 57 [])) [(.t 63), (.t 67)])] [0, 1, 3, 7, 0, 16, 0, 112, 255])
           .skip)))
          .skip)))))))
     (.ops [.a 69 (.bin .add (.t 23) (.c (.f (.v (.int .i64 1))))),
 .a 23 (.mv (.t 69))])))))))
  (.ops ([.a 70 (.mv (.t 0)),
 .a 71 (.mv (.t 0)),
 .a 72 (.mv (.t 0)),
 .a 73 (.mv (.t 0)),
 .a 74 (.mv (.t 0)),
 .a 75 (.nilc (.t 74)),
 .a 76 (.off 0 (.t 75)),
 .a 77 (.load1 (.t 76)),
 .a 78 (.call (.c (.fn 51 [])) [(.t 77)])] ++
 ([.a 79 (.nilc (.t 70)),
 .a 80 (.off 1 (.t 79)),
 .n (.store 1 (.t 80) (.t 78)),
 .a 81 (.nilc (.t 71)),
 .a 82 (.off 2 (.t 81)),
 .n (.store 1 (.t 82) (.c (.f (.v (.slice none 0 0))))),
 .a 83 (.nilc (.t 72)),
 .a 84 (.off 4 (.t 83)),
 .n (.store 1 (.t 84) (.c (.f (.v (.bool false))))),
 .a 85 (.nilc (.t 73)),
 .a 86 (.off 3 (.t 85)),
 .n (.store 1 (.t 86) (.c (.f (.v (.int .i64 (-1))))))])))))
theorem fn_disk_Crash : Fn Try.prog 24 87 [] s_disk_Crash := ⟨_, _, Try.func24, rfl, rfl, by kernel_rfl, by kernel_rfl⟩

/-- (*cutover.disk.Disk).Read -/
def s_disk_Read : SCode :=
  (.seq (.ops [.a 4 (.mv (.c (.f (.v (.slice none 0 0)))))])
  (.seq (.seq (.ops [.a 5 (.mv (.t 0)),
 .a 6 (.nilc (.t 5)),
 .a 7 (.off 4 (.t 6)),
 .a 8 (.load1 (.t 7))])
   (.cond (.t 8)
    (.seq (.ops [.a 4 (.mv (.c (.f (.v (.slice none 0 0)))))])
    .ret)
    .skip))
  (.seq (.ops ([.a 9 (.mv (.t 0)),
 .a 10 (.nilc (.t 9)),
 .a 11 (.off 1 (.t 10)),
 .a 12 (.load1 (.t 11)),
 .a 13 (.mv (.t 1)),
 .a 14 (.look false 3 (.f (.v (.slice none 0 0))) (.t 12) (.t 13)),
 .a 15 (.call (.c (.fn 50 [])) [(.t 14)])] ++
 ([.a 4 (.mv (.t 15))])))
  .ret)))
theorem fn_disk_Read : Fn Try.prog 20 16 [.t 4] s_disk_Read := ⟨_, _, Try.func20, rfl, rfl, by kernel_rfl, by kernel_rfl⟩

/-- cutover.disk.rest -/
def s_disk_rest : SCode :=
  (.seq (.ops [.a 4 (.mv (.c (.f (.v (.int .i64 0)))))])
  (.seq (.ops [.a 5 (.mv (.t 0)),
 .a 6 (.mv (.t 1)),
 .a 7 (.bin .rem (.t 5) (.t 6)),
 .a 8 (.mv (.t 1)),
 .a 9 (.bin .add (.t 7) (.t 8)),
 .a 10 (.mv (.t 1)),
 .a 11 (.bin .rem (.t 9) (.t 10)),
 .a 4 (.mv (.t 11))])
  .ret))
theorem fn_disk_rest : Fn Try.prog 56 12 [.t 4] s_disk_rest := ⟨_, _, Try.func56, rfl, rfl, by kernel_rfl, by kernel_rfl⟩

/-- (*cutover.disk.Disk).Fuse -/
def s_disk_Fuse : SCode :=
  (.ops [.a 4 (.mv (.t 0)),
 .a 5 (.mv (.t 1)),
 .a 6 (.mm true (.t 5) (.c (.f (.v (.int .i64 (-1)))))),
 .a 7 (.nilc (.t 4)),
 .a 8 (.off 3 (.t 7)),
 .n (.store 1 (.t 8) (.t 6))])
theorem fn_disk_Fuse : Fn Try.prog 26 9 [] s_disk_Fuse := ⟨_, _, Try.func26, rfl, rfl, by kernel_rfl, by kernel_rfl⟩

/-- (*cutover.disk.Disk).Dead -/
def s_disk_Dead : SCode :=
  (.seq (.ops [.a 2 (.mv (.c (.f (.v (.bool false)))))])
  (.seq (.ops [.a 3 (.mv (.t 0)),
 .a 4 (.nilc (.t 3)),
 .a 5 (.off 4 (.t 4)),
 .a 6 (.load1 (.t 5)),
 .a 2 (.mv (.t 6))])
  .ret))
theorem fn_disk_Dead : Fn Try.prog 29 7 [.t 2] s_disk_Dead := ⟨_, _, Try.func29, rfl, rfl, by kernel_rfl, by kernel_rfl⟩

/-- (*cutover.disk.Disk).Works -/
def s_disk_Works : SCode :=
  (.seq (.ops [.a 2 (.mv (.c (.f (.v (.int .i64 0)))))])
  (.seq (.ops [.a 3 (.mv (.t 0)),
 .a 4 (.nilc (.t 3)),
 .a 5 (.off 5 (.t 4)),
 .a 6 (.load1 (.t 5)),
 .a 2 (.mv (.t 6))])
  .ret))
theorem fn_disk_Works : Fn Try.prog 30 7 [.t 2] s_disk_Works := ⟨_, _, Try.func30, rfl, rfl, by kernel_rfl, by kernel_rfl⟩

/-- (*cutover.disk.Disk).Pending -/
def s_disk_Pending : SCode :=
  (.seq (.ops [.a 2 (.mv (.c (.f (.v (.int .i64 0)))))])
  (.seq (.ops [.a 3 (.mv (.t 0)),
 .a 4 (.nilc (.t 3)),
 .a 5 (.off 2 (.t 4)),
 .a 6 (.load1 (.t 5)),
 .a 7 (.slen (.t 6)),
 .a 2 (.mv (.t 7))])
  .ret))
theorem fn_disk_Pending : Fn Try.prog 31 8 [.t 2] s_disk_Pending := ⟨_, _, Try.func31, rfl, rfl, by kernel_rfl, by kernel_rfl⟩

/-- slices.Clone[[]byte,byte] -/
def s_byte_Clone : SCode :=
  (.seq (.ops [.a 2 (.mv (.c (.f (.v (.slice none 0 0)))))])
  (.seq (.seq (.ops [.a 3 (.mv (.t 0)),
 .a 4 (.nilq true 0 (.t 3) (.c (.f (.v (.slice none 0 0)))))])
   (.cond (.t 4)
    (.seq (.ops [.a 2 (.mv (.c (.f (.v (.slice none 0 0)))))])
    .ret)
    .skip))
  (.seq (.ops ([.a 5 (.bsl 5 1 0 [] []),
 .a 6 (.mv (.t 0)),
 .a 7 (.app 5 1 1 (.t 5) (.t 6))] ++
 ([.a 2 (.mv (.t 7))])))
  .ret)))
theorem fn_byte_Clone : Fn Try.prog 50 8 [.t 2] s_byte_Clone := ⟨_, _, Try.func50, rfl, rfl, by kernel_rfl, by kernel_rfl⟩

/-- (*cutover.disk.Disk).Files -/
def s_disk_Files : SCode :=
  (.seq (.ops [.a 2 (.mv (.c (.f (.v (.slice none 0 0)))))])
  (.seq (.seq (.ops [.a 3 (.mv (.t 0)),
 .a 4 (.nilc (.t 3)),
 .a 5 (.off 4 (.t 4)),
 .a 6 (.load1 (.t 5))])
   (.cond (.t 6)
    (.seq (.ops [.a 2 (.mv (.c (.f (.v (.slice none 0 0)))))])
    .ret)
    .skip))
  (.seq (.ops ([.a 7 (.mv (.t 0)),
 .a 8 (.nilc (.t 7)),
 .a 9 (.off 1 (.t 8)),
 .a 10 (.load1 (.t 9)),
 .a 11 (.call (.c (.fn 53 [])) [(.t 10)])] ++
 ([.a 12 (.call (.c (.fn 52 [])) [(.t 11)])] ++
 ([.a 2 (.mv (.t 12))]))))
  .ret)))
theorem fn_disk_Files : Fn Try.prog 19 13 [.t 2] s_disk_Files := ⟨_, _, Try.func19, rfl, rfl, by kernel_rfl, by kernel_rfl⟩

/-- maps.Keys[cutover.disk.files,int,[]byte] -/
def s_maps_Keys : SCode :=
  (.seq (.ops [.a 1 (.box 73 (.t 0)),
 .a 2 (.mv (.c (.f (.v .nilFunc))))])
  (.seq (.ops [.a 3 (.fn 68 [(.t 1)]),
 .a 2 (.mv (.t 3))])
  .ret))
theorem fn_maps_Keys : Fn Try.prog 53 4 [.t 2] s_maps_Keys := ⟨_, _, Try.func53, rfl, rfl, by kernel_rfl, by kernel_rfl⟩

end Go.Proofs.Ytjbkckhpoicaeaa.Mir

/- The program's disk: its rows, and its files: slices.Clone of bytes, do. -/
namespace Go.Proofs.Ytjbkckhpoicaeaa.Mir
open Go Go.RowKit
set_option linter.unusedVariables false
set_option linter.unusedSimpArgs false
set_option maxHeartbeats 2000000

abbrev uF (b : UInt8) : F := .v (.int .u8 (b.toNat : Nat))
def fY (l : List UInt8) : F := .s (l.map uF) l.length
/-- Files, as the map holds them. -/
abbrev Fs := List (Int × List UInt8)
def mF (l : Fs) : List (Value × D) := l.map fun p => (.int .i64 p.1, .f (fY p.2))
def fGet (l : Fs) (k : Int) : Option (List UInt8) := match l with
  | [] => none
  | p :: l => if k = p.1 then some p.2 else fGet l k
def fPut (k : Int) (b : List UInt8) : Fs → Fs
  | [] => [(k, b)]
  | p :: l => if k = p.1 then (k, b) :: l else p :: fPut k b l
def fDel (k : Int) : Fs → Fs
  | [] => []
  | p :: l => if k = p.1 then l else p :: fDel k l
def fDo (l : Fs) (k : Int) (b : List UInt8) : Fs := if b = [] then fDel k l else fPut k ((fGet l k).getD [] ++ b) l

theorem keyOk_int (k : Int) : keyOk Try.prog 3 (.int .i64 k) = true := by
  unfold keyOk
  rw [show Try.prog.underlying 3 = some (.int .i64) by kernel_rfl]
  rfl
theorem keyEq_int (a b : Int) : keyEq (.int .i64 a) (.int .i64 b) = some (decide (a = b)) := by
  show (if IntKind.i64 = IntKind.i64 then some (a == b) else none) = _
  rw [if_pos rfl]
  by_cases h : a = b <;> simp [h]
theorem findD_mF (k : Int) : ∀ l : Fs, findD (.int .i64 k) (mF l) = some ((fGet l k).map fun b => .f (fY b))
  | [] => rfl
  | p :: l => by
    have ih := findD_mF k l
    unfold mF at ih ⊢
    rw [List.map_cons, findD, keyEq_int, fGet]
    by_cases h : k = p.1
    · simp [h]
    · simp [h, ih]
theorem putD_mF (k : Int) (b : List UInt8) : ∀ l : Fs, putD (.int .i64 k) (.f (fY b)) (mF l) = mF (fPut k b l)
  | [] => rfl
  | p :: l => by
    have ih := putD_mF k b l
    unfold mF at ih ⊢
    rw [List.map_cons, putD, keyEq_int, fPut]
    by_cases h : k = p.1
    · simp [h]
    · simp [h, ih]
theorem dropD_mF (k : Int) : ∀ l : Fs, dropD (.int .i64 k) (mF l) = mF (fDel k l)
  | [] => rfl
  | p :: l => by
    have ih := dropD_mF k l
    unfold mF at ih ⊢
    rw [List.map_cons, dropD, keyEq_int, fDel]
    by_cases h : k = p.1
    · simp [h]
    · simp [h, ih]
/-- What a look-up answers. -/
def orN (o : Option (List UInt8)) : D := match o with
  | some b => .f (fY b)
  | none => .f (.v (.slice none 0 0))
theorem look_mF {H : List Row} {r : Nat} {k : Int} {l : Fs} (h : H[r]? = some (.map (mF l))) : lookS Try.prog H false 3 (.f (.v (.slice none 0 0))) (.mp r) (.f (.v (.int .i64 k))) = some (orN (fGet l k)) := by
  have hm : mapEs H (.mp r) = some (mF l) := by simp only [mapEs, h]
  unfold lookS
  simp only [hm, if_pos (keyOk_int k), findD_mF]
  cases fGet l k <;> rfl
theorem mdel_mF {H : List Row} {r : Nat} {k : Int} {l : Fs} (h : H[r]? = some (.map (mF l))) : mdelS Try.prog H 3 (.mp r) (.f (.v (.int .i64 k))) = some (H.set r (.map (mF (fDel k l)))) := by
  unfold mdelS
  simp only [if_pos (keyOk_int k), h, findD_mF, dropD_mF]
theorem mput_mF {H : List Row} {r q : Nat} {k : Int} {l : Fs} {b : List UInt8} {n : Nat} (h : H[r]? = some (.map (mF l))) (hq : H[q]? = some (.data 5 (b.map uF))) (hb : b.length = n + 1) :
    mputS Try.prog H 3 (.mp r) (.f (.v (.int .i64 k))) (.sl q 0 (n + 1)) = some ((H.set q (.froz 5 (b.map uF))).set r (.map (mF (fPut k b l)))) := by
  have hne : q ≠ r := by rintro rfl; rw [h] at hq; cases hq
  have hi : inf Try.prog 5 = some (1, 1, [.int .u8 0]) := by kernel_rfl
  have h1 : ¬ (n + 1 = 0) := by omega
  have h2 : 0 + (n + 1) * 1 ≤ (b.map uF).length := by rw [List.length_map]; omega
  have h3 : ((b.map uF).drop 0).take ((n + 1) * 1) = b.map uF := by rw [List.drop_zero, Nat.mul_one, ← hb, ← List.length_map (f := uF), List.take_length]
  have hf : freezeV Try.prog H (.sl q 0 (n + 1)) = some (.f (fY b), [(q, .froz 5 (b.map uF))]) := by
    simp only [freezeV, freeze1, hq, hi, if_neg h1, if_pos h2, h3, fY, hb]
  have hr : (applyUpd H [(q, .froz 5 (b.map uF))])[r]? = some (.map (mF l)) := by
    simp only [applyUpd]
    rw [List.getElem?_set_ne hne]; exact h
  unfold mputS
  simp only [if_pos (keyOk_int k), hf, hr, findD_mF, putD_mF]
  simp only [applyUpd]

theorem app_bytes {l m : List UInt8} {x : UInt8} : l.map uF ++ uF x :: m.map uF = (l ++ x :: m).map uF := by simp
theorem plain_bytes (l : List UInt8) : ∀ x ∈ l.map uF, PlainF x := fun x hx => by
  obtain ⟨n, _, rfl⟩ := List.mem_map.1 hx
  exact .v
theorem c_byte_Clone0 : Con Try.prog 50 [.f (.v (.slice none 0 0))] [] fun r H' => r = .f (.v (.slice none 0 0)) ∧ H' = [] := by
  refine Con.walk good fn_byte_Clone (by simp) ?_
  unfold s_byte_Clone
  simp only [argsE, List.length_cons, List.length_nil, Nat.reduceAdd]
  repeat' (first | (with_reducible refine HS.seq ?_) | (with_reducible refine HS.opsK good (fun K hK => ?_)) | (with_reducible refine wpS_app (fun K hK => ?_)) | ((with_reducible refine hK _ ?_); clear hK K) | (with_reducible refine HS.drw good (fun K hK => ?_)) | ((with_reducible refine And.intro (Chk.mk' ?_) ?_); kernel_rfl) | (with_reducible refine HS.block ?_) | ((with_reducible refine HS.cond1 ?_ ?_); rfl) | ((with_reducible refine HS.cond0 ?_ ?_); rfl) | ((with_reducible apply HS.condB) <;> first | rfl | (with_reducible intro h)) | (with_reducible refine HS.exit ?_) | (with_reducible refine HS.ret ?_) | (with_reducible refine HS.skip ?_) | (with_reducible first | refine thenQ_n ?_ | refine blockQ_n ?_ | refine thenQ_r ?_ | refine blockQ_r ?_ | refine thenQ_x ?_ | refine blockQ_hit ?_ | refine endS_r ?_ | refine endS_n ?_) | ((with_reducible refine blockQ_miss ?_ ?_); rfl) | (with_reducible refine Two.mk' (fun h => ?_) (fun h => ?_) <;> try (exfalso; omega)) | ((with_reducible refine Bsel.mk' (fun h => ?_) (fun h => ?_)) <;> (try simp only [h])) | ((fail_if_success (with_reducible first | refine isHS ?_ | refine isRet ?_ | refine isCall ?_ | refine isNext ?_ | refine isNextP ?_ | refine isThen ?_ | refine isBlock ?_ | refine isOut ?_ | refine isOutN ?_)); simp (disch := omega) only [↓LD, LU, loadA_rf, wpS_nil, wpS_a, wpS_n, wpS_g, ↓Bsel_true, ↓Bsel_false, frm_get, frm_getD, frm_set, look_cons, look_nil, List.set_cons_succ, List.set_cons_zero, List.getElem?_cons_succ, List.getElem?_cons_zero, ↓bind'_some, ↓Two_true, ↓Two_false, List.length_cons, List.length_nil, List.cons_append, List.nil_append, List.map_cons, List.map_nil, List.take_succ_cons, List.take_zero, List.drop_succ_cons, List.drop_zero, Option.map_some, Option.map_none, ↓reduceIte, Nat.reduceAdd, Nat.reduceMul, Nat.reduceSub, Nat.reduceLeDiff, Nat.reduceLT, Nat.reduceEqDiff, Nat.add_zero, Nat.zero_add, Nat.mul_one, Int.toNat_natCast, Nat.mul_zero, Nat.zero_mul, true_and, and_true, reduceCtorEq, Int.reduceNeg, Int.reduceLT, Int.reduceLE, Int.reduceEq, Int.reduceToNat, wrap_in, List.getElem?_drop, List.getElem?_map, List.length_map, if_some, most_eq, set_map_b, app_map_i, getElem?_some_of, Int.natCast_nonneg, Bool.false_eq_true, decide_true, decide_false, Bool.not_true, Bool.not_false, and_self, eq_self, false_implies, or_self, Bool.and_self, false_or, or_false, Bool.false_and, Bool.true_beq, Bool.false_beq]) | ((with_reducible refine And.intro ?_ ?_); omega) | ((fail_if_success (with_reducible first | refine isHS ?_ | refine isRet ?_ | refine isCall ?_ | refine isNext ?_ | refine isNextP ?_ | refine isThen ?_ | refine isBlock ?_ | refine isOut ?_ | refine isOutN ?_)); (simp only [D.int, D.bool])))
  exact end1 rfl rfl (by kernel_rfl) .f ⟨rfl, rfl⟩
theorem c_byte_Clone (b : List UInt8) (n : Nat) (hb : b.length = n + 1) (hn : n + 1 ≤ 140737488355328) : Con Try.prog 50 [.f (fY b)] [] fun r H' => r = .sl 0 0 (n + 1) ∧ H' = [.data 5 (b.map uF)] := by
  refine Con.walk good fn_byte_Clone (by simp) ?_
  unfold s_byte_Clone fY
  simp only [argsE, List.length_cons, List.length_nil, Nat.reduceAdd, hb]
  repeat' (first | (with_reducible refine HS.seq ?_) | (with_reducible refine HS.opsK good (fun K hK => ?_)) | (with_reducible refine wpS_app (fun K hK => ?_)) | ((with_reducible refine hK _ ?_); clear hK K) | (with_reducible refine HS.drw good (fun K hK => ?_)) | ((with_reducible refine And.intro (Chk.mk' ?_) ?_); kernel_rfl) | (with_reducible refine HS.block ?_) | ((with_reducible refine HS.cond1 ?_ ?_); rfl) | ((with_reducible refine HS.cond0 ?_ ?_); rfl) | ((with_reducible apply HS.condB) <;> first | rfl | (with_reducible intro h)) | (with_reducible refine HS.exit ?_) | (with_reducible refine HS.ret ?_) | (with_reducible refine HS.skip ?_) | (with_reducible first | refine thenQ_n ?_ | refine blockQ_n ?_ | refine thenQ_r ?_ | refine blockQ_r ?_ | refine thenQ_x ?_ | refine blockQ_hit ?_ | refine endS_r ?_ | refine endS_n ?_) | ((with_reducible refine blockQ_miss ?_ ?_); rfl) | (with_reducible refine Two.mk' (fun h => ?_) (fun h => ?_) <;> try (exfalso; omega)) | ((with_reducible refine Bsel.mk' (fun h => ?_) (fun h => ?_)) <;> (try simp only [h])) | ((fail_if_success (with_reducible first | refine isHS ?_ | refine isRet ?_ | refine isCall ?_ | refine isNext ?_ | refine isNextP ?_ | refine isThen ?_ | refine isBlock ?_ | refine isOut ?_ | refine isOutN ?_)); simp (disch := omega) only [↓LD, LU, loadA_rf, wpS_nil, wpS_a, wpS_n, wpS_g, ↓Bsel_true, ↓Bsel_false, frm_get, frm_getD, frm_set, look_cons, look_nil, List.set_cons_succ, List.set_cons_zero, List.getElem?_cons_succ, List.getElem?_cons_zero, ↓bind'_some, ↓Two_true, ↓Two_false, List.length_cons, List.length_nil, List.cons_append, List.nil_append, List.map_cons, List.map_nil, List.take_succ_cons, List.take_zero, List.drop_succ_cons, List.drop_zero, Option.map_some, Option.map_none, ↓reduceIte, Nat.reduceAdd, Nat.reduceMul, Nat.reduceSub, Nat.reduceLeDiff, Nat.reduceLT, Nat.reduceEqDiff, Nat.add_zero, Nat.zero_add, Nat.mul_one, Int.toNat_natCast, Nat.mul_zero, Nat.zero_mul, true_and, and_true, reduceCtorEq, Int.reduceNeg, Int.reduceLT, Int.reduceLE, Int.reduceEq, Int.reduceToNat, wrap_in, List.getElem?_drop, List.getElem?_map, List.length_map, if_some, most_eq, set_map_b, app_map_i, getElem?_some_of, Int.natCast_nonneg, Bool.false_eq_true, decide_true, decide_false, Bool.not_true, Bool.not_false, and_self, eq_self, false_implies, or_self, Bool.and_self, false_or, or_false, Bool.false_and, Bool.true_beq, Bool.false_beq]) | ((with_reducible refine And.intro ?_ ?_); omega) | ((fail_if_success (with_reducible first | refine isHS ?_ | refine isRet ?_ | refine isCall ?_ | refine isNext ?_ | refine isNextP ?_ | refine isThen ?_ | refine isBlock ?_ | refine isOut ?_ | refine isOutN ?_)); (simp only [D.int, D.bool])))
  exact endG rfl rfl (ef := ⟨.sl 0 0 (n + 1), [], [.data 5 (b.map uF)]⟩) (by kernel_rfl) ⟨rfl, rfl⟩

theorem end0t {n0 : Nat} {Q : D → List Row → Prop} {e : List (Nat × D)} {n : Nat} {H : List Row} {dr : List Nat} (hl : lowB n0 (H.take n0) = true) (q : Q (.tp []) (H.take n0)) : RetS n0 [] Q ⟨frm n e, H, dr⟩ :=
  .still (ds := []) rfl hl (Vw.tps .nil) q
/-- Files without bytes are none. -/
def FsOk (l : Fs) (B : Nat) : Prop := ∀ p ∈ l, p.2 ≠ [] ∧ p.2.length ≤ B
theorem FsOk.get {l : Fs} {B : Nat} (h : FsOk l B) {k : Int} {b : List UInt8} (hg : fGet l k = some b) : b ≠ [] ∧ b.length ≤ B := by
  induction l with
  | nil => cases hg
  | cons p l ih =>
    unfold fGet at hg
    split at hg
    · cases hg; exact h p (by simp)
    · exact ih (fun q hq => h q (by simp [hq])) hg
def wkD (k : Int) (b : List UInt8) : D := .ag [D.int k, .f (fY b)]
set_option maxRecDepth 100000 in
theorem c_disk_doG (l : Fs) (B : Nat) (hl : FsOk l B) (k : Int) (b : List UInt8) (hb : ((fGet l k).getD []).length + b.length ≤ 140737488355328) :
    Con Try.prog 57 [.mp 0, wkD k b] [.map (mF l)] fun r H' => r = .tp [] ∧ H' = [.map (mF (fDo l k b))] := by
  refine Con.walk good fn_disk_do (by simp) ?_
  unfold s_disk_do wkD
  simp only [argsE, List.length_cons, List.length_nil, Nat.reduceAdd]
  rcases b with _ | ⟨x, b⟩
  · repeat' (first | (with_reducible refine HS.seq ?_) | (with_reducible refine HS.opsK good (fun K hK => ?_)) | (with_reducible refine wpS_app (fun K hK => ?_)) | ((with_reducible refine hK _ ?_); clear hK K) | (with_reducible refine HS.drw good (fun K hK => ?_)) | ((with_reducible refine And.intro (Chk.mk' ?_) ?_); kernel_rfl) | (with_reducible refine HS.block ?_) | ((with_reducible refine HS.cond1 ?_ ?_); rfl) | ((with_reducible refine HS.cond0 ?_ ?_); rfl) | ((with_reducible apply HS.condB) <;> first | rfl | (with_reducible intro h)) | (with_reducible refine HS.exit ?_) | (with_reducible refine HS.ret ?_) | (with_reducible refine HS.skip ?_) | (with_reducible first | refine thenQ_n ?_ | refine blockQ_n ?_ | refine thenQ_r ?_ | refine blockQ_r ?_ | refine thenQ_x ?_ | refine blockQ_hit ?_ | refine endS_r ?_ | refine endS_n ?_) | ((with_reducible refine blockQ_miss ?_ ?_); rfl) | (with_reducible refine Two.mk' (fun h => ?_) (fun h => ?_) <;> try (exfalso; omega)) | ((with_reducible refine Bsel.mk' (fun h => ?_) (fun h => ?_)) <;> (try simp only [h])) | ((fail_if_success (with_reducible first | refine isHS ?_ | refine isRet ?_ | refine isCall ?_ | refine isNext ?_ | refine isNextP ?_ | refine isThen ?_ | refine isBlock ?_ | refine isOut ?_ | refine isOutN ?_)); simp (disch := omega) only [↓LD, LU, loadA_rf, wpS_nil, wpS_a, wpS_n, wpS_g, ↓Bsel_true, ↓Bsel_false, frm_get, frm_getD, frm_set, look_cons, look_nil, List.set_cons_succ, List.set_cons_zero, List.getElem?_cons_succ, List.getElem?_cons_zero, ↓bind'_some, ↓Two_true, ↓Two_false, List.length_cons, List.length_nil, List.cons_append, List.nil_append, List.map_cons, List.map_nil, List.take_succ_cons, List.take_zero, List.drop_succ_cons, List.drop_zero, Option.map_some, Option.map_none, ↓reduceIte, Nat.reduceAdd, Nat.reduceMul, Nat.reduceSub, Nat.reduceLeDiff, Nat.reduceLT, Nat.reduceEqDiff, Nat.add_zero, Nat.zero_add, Nat.mul_one, Int.toNat_natCast, Nat.mul_zero, Nat.zero_mul, true_and, and_true, reduceCtorEq, Int.reduceNeg, Int.reduceLT, Int.reduceLE, Int.reduceEq, Int.reduceToNat, wrap_in, List.getElem?_drop, List.getElem?_map, List.length_map, if_some, most_eq, set_map_b, app_map_i, getElem?_some_of, Int.natCast_nonneg, Bool.false_eq_true, decide_true, decide_false, Bool.not_true, Bool.not_false, and_self, eq_self, false_implies, or_self, Bool.and_self, false_or, or_false, Bool.false_and, Bool.true_beq, Bool.false_beq, fY]) | ((with_reducible refine And.intro ?_ ?_); omega) | ((fail_if_success (with_reducible first | refine isHS ?_ | refine isRet ?_ | refine isCall ?_ | refine isNext ?_ | refine isNextP ?_ | refine isThen ?_ | refine isBlock ?_ | refine isOut ?_ | refine isOutN ?_)); (simp only [D.int, D.bool])))
    refine bind'_of (mdel_mF rfl) ?_
    repeat' (first | (with_reducible refine HS.seq ?_) | (with_reducible refine HS.opsK good (fun K hK => ?_)) | (with_reducible refine wpS_app (fun K hK => ?_)) | ((with_reducible refine hK _ ?_); clear hK K) | (with_reducible refine HS.drw good (fun K hK => ?_)) | ((with_reducible refine And.intro (Chk.mk' ?_) ?_); kernel_rfl) | (with_reducible refine HS.block ?_) | ((with_reducible refine HS.cond1 ?_ ?_); rfl) | ((with_reducible refine HS.cond0 ?_ ?_); rfl) | ((with_reducible apply HS.condB) <;> first | rfl | (with_reducible intro h)) | (with_reducible refine HS.exit ?_) | (with_reducible refine HS.ret ?_) | (with_reducible refine HS.skip ?_) | (with_reducible first | refine thenQ_n ?_ | refine blockQ_n ?_ | refine thenQ_r ?_ | refine blockQ_r ?_ | refine thenQ_x ?_ | refine blockQ_hit ?_ | refine endS_r ?_ | refine endS_n ?_) | ((with_reducible refine blockQ_miss ?_ ?_); rfl) | (with_reducible refine Two.mk' (fun h => ?_) (fun h => ?_) <;> try (exfalso; omega)) | ((with_reducible refine Bsel.mk' (fun h => ?_) (fun h => ?_)) <;> (try simp only [h])) | ((fail_if_success (with_reducible first | refine isHS ?_ | refine isRet ?_ | refine isCall ?_ | refine isNext ?_ | refine isNextP ?_ | refine isThen ?_ | refine isBlock ?_ | refine isOut ?_ | refine isOutN ?_)); simp (disch := omega) only [↓LD, LU, loadA_rf, wpS_nil, wpS_a, wpS_n, wpS_g, ↓Bsel_true, ↓Bsel_false, frm_get, frm_getD, frm_set, look_cons, look_nil, List.set_cons_succ, List.set_cons_zero, List.getElem?_cons_succ, List.getElem?_cons_zero, ↓bind'_some, ↓Two_true, ↓Two_false, List.length_cons, List.length_nil, List.cons_append, List.nil_append, List.map_cons, List.map_nil, List.take_succ_cons, List.take_zero, List.drop_succ_cons, List.drop_zero, Option.map_some, Option.map_none, ↓reduceIte, Nat.reduceAdd, Nat.reduceMul, Nat.reduceSub, Nat.reduceLeDiff, Nat.reduceLT, Nat.reduceEqDiff, Nat.add_zero, Nat.zero_add, Nat.mul_one, Int.toNat_natCast, Nat.mul_zero, Nat.zero_mul, true_and, and_true, reduceCtorEq, Int.reduceNeg, Int.reduceLT, Int.reduceLE, Int.reduceEq, Int.reduceToNat, wrap_in, List.getElem?_drop, List.getElem?_map, List.length_map, if_some, most_eq, set_map_b, app_map_i, getElem?_some_of, Int.natCast_nonneg, Bool.false_eq_true, decide_true, decide_false, Bool.not_true, Bool.not_false, and_self, eq_self, false_implies, or_self, Bool.and_self, false_or, or_false, Bool.false_and, Bool.true_beq, Bool.false_beq]) | ((with_reducible refine And.intro ?_ ?_); omega) | ((fail_if_success (with_reducible first | refine isHS ?_ | refine isRet ?_ | refine isCall ?_ | refine isNext ?_ | refine isNextP ?_ | refine isThen ?_ | refine isBlock ?_ | refine isOut ?_ | refine isOutN ?_)); (simp only [D.int, D.bool])))
    exact end0t (by kernel_rfl) ⟨rfl, rfl⟩
  · simp only [List.length_cons] at hb
    cases hg : fGet l k with
    | none =>
      rw [hg] at hb
      simp only [Option.getD_none, List.length_nil, Nat.zero_add] at hb
      repeat' (first | (with_reducible refine HS.seq ?_) | (with_reducible refine HS.opsK good (fun K hK => ?_)) | (with_reducible refine wpS_app (fun K hK => ?_)) | ((with_reducible refine hK _ ?_); clear hK K) | (with_reducible refine HS.drw good (fun K hK => ?_)) | ((with_reducible refine And.intro (Chk.mk' ?_) ?_); kernel_rfl) | (with_reducible refine HS.block ?_) | ((with_reducible refine HS.cond1 ?_ ?_); rfl) | ((with_reducible refine HS.cond0 ?_ ?_); rfl) | ((with_reducible apply HS.condB) <;> first | rfl | (with_reducible intro h)) | (with_reducible refine HS.exit ?_) | (with_reducible refine HS.ret ?_) | (with_reducible refine HS.skip ?_) | (with_reducible first | refine thenQ_n ?_ | refine blockQ_n ?_ | refine thenQ_r ?_ | refine blockQ_r ?_ | refine thenQ_x ?_ | refine blockQ_hit ?_ | refine endS_r ?_ | refine endS_n ?_) | ((with_reducible refine blockQ_miss ?_ ?_); rfl) | (with_reducible refine Two.mk' (fun h => ?_) (fun h => ?_) <;> try (exfalso; omega)) | ((with_reducible refine Bsel.mk' (fun h => ?_) (fun h => ?_)) <;> (try simp only [h])) | ((fail_if_success (with_reducible first | refine isHS ?_ | refine isRet ?_ | refine isCall ?_ | refine isNext ?_ | refine isNextP ?_ | refine isThen ?_ | refine isBlock ?_ | refine isOut ?_ | refine isOutN ?_)); simp (disch := omega) only [↓LD, LU, loadA_rf, wpS_nil, wpS_a, wpS_n, wpS_g, ↓Bsel_true, ↓Bsel_false, frm_get, frm_getD, frm_set, look_cons, look_nil, List.set_cons_succ, List.set_cons_zero, List.getElem?_cons_succ, List.getElem?_cons_zero, ↓bind'_some, ↓Two_true, ↓Two_false, List.length_cons, List.length_nil, List.cons_append, List.nil_append, List.map_cons, List.map_nil, List.take_succ_cons, List.take_zero, List.drop_succ_cons, List.drop_zero, Option.map_some, Option.map_none, ↓reduceIte, Nat.reduceAdd, Nat.reduceMul, Nat.reduceSub, Nat.reduceLeDiff, Nat.reduceLT, Nat.reduceEqDiff, Nat.add_zero, Nat.zero_add, Nat.mul_one, Int.toNat_natCast, Nat.mul_zero, Nat.zero_mul, true_and, and_true, reduceCtorEq, Int.reduceNeg, Int.reduceLT, Int.reduceLE, Int.reduceEq, Int.reduceToNat, wrap_in, List.getElem?_drop, List.getElem?_map, List.length_map, if_some, most_eq, set_map_b, app_map_i, getElem?_some_of, Int.natCast_nonneg, Bool.false_eq_true, decide_true, decide_false, Bool.not_true, Bool.not_false, and_self, eq_self, false_implies, or_self, Bool.and_self, false_or, or_false, Bool.false_and, Bool.true_beq, Bool.false_beq, fY]) | ((with_reducible refine And.intro ?_ ?_); omega) | ((fail_if_success (with_reducible first | refine isHS ?_ | refine isRet ?_ | refine isCall ?_ | refine isNext ?_ | refine isNextP ?_ | refine isThen ?_ | refine isBlock ?_ | refine isOut ?_ | refine isOutN ?_)); (simp only [D.int, D.bool])))
      refine bind'_of (look_mF rfl) ?_
      rw [hg]
      repeat' (first | (with_reducible refine HS.seq ?_) | (with_reducible refine HS.opsK good (fun K hK => ?_)) | (with_reducible refine wpS_app (fun K hK => ?_)) | ((with_reducible refine hK _ ?_); clear hK K) | (with_reducible refine HS.drw good (fun K hK => ?_)) | ((with_reducible refine And.intro (Chk.mk' ?_) ?_); kernel_rfl) | (with_reducible refine HS.block ?_) | ((with_reducible refine HS.cond1 ?_ ?_); rfl) | ((with_reducible refine HS.cond0 ?_ ?_); rfl) | ((with_reducible apply HS.condB) <;> first | rfl | (with_reducible intro h)) | (with_reducible refine HS.exit ?_) | (with_reducible refine HS.ret ?_) | (with_reducible refine HS.skip ?_) | (with_reducible first | refine thenQ_n ?_ | refine blockQ_n ?_ | refine thenQ_r ?_ | refine blockQ_r ?_ | refine thenQ_x ?_ | refine blockQ_hit ?_ | refine endS_r ?_ | refine endS_n ?_) | ((with_reducible refine blockQ_miss ?_ ?_); rfl) | (with_reducible refine Two.mk' (fun h => ?_) (fun h => ?_) <;> try (exfalso; omega)) | ((with_reducible refine Bsel.mk' (fun h => ?_) (fun h => ?_)) <;> (try simp only [h])) | ((fail_if_success (with_reducible first | refine isHS ?_ | refine isRet ?_ | refine isCall ?_ | refine isNext ?_ | refine isNextP ?_ | refine isThen ?_ | refine isBlock ?_ | refine isOut ?_ | refine isOutN ?_)); simp (disch := omega) only [↓LD, LU, loadA_rf, wpS_nil, wpS_a, wpS_n, wpS_g, ↓Bsel_true, ↓Bsel_false, frm_get, frm_getD, frm_set, look_cons, look_nil, List.set_cons_succ, List.set_cons_zero, List.getElem?_cons_succ, List.getElem?_cons_zero, ↓bind'_some, ↓Two_true, ↓Two_false, List.length_cons, List.length_nil, List.cons_append, List.nil_append, List.map_cons, List.map_nil, List.take_succ_cons, List.take_zero, List.drop_succ_cons, List.drop_zero, Option.map_some, Option.map_none, ↓reduceIte, Nat.reduceAdd, Nat.reduceMul, Nat.reduceSub, Nat.reduceLeDiff, Nat.reduceLT, Nat.reduceEqDiff, Nat.add_zero, Nat.zero_add, Nat.mul_one, Int.toNat_natCast, Nat.mul_zero, Nat.zero_mul, true_and, and_true, reduceCtorEq, Int.reduceNeg, Int.reduceLT, Int.reduceLE, Int.reduceEq, Int.reduceToNat, wrap_in, List.getElem?_drop, List.getElem?_map, List.length_map, if_some, most_eq, set_map_b, app_map_i, getElem?_some_of, Int.natCast_nonneg, Bool.false_eq_true, decide_true, decide_false, Bool.not_true, Bool.not_false, and_self, eq_self, false_implies, or_self, Bool.and_self, false_or, or_false, Bool.false_and, Bool.true_beq, Bool.false_beq, orN]) | ((with_reducible refine And.intro ?_ ?_); omega) | ((fail_if_success (with_reducible first | refine isHS ?_ | refine isRet ?_ | refine isCall ?_ | refine isNext ?_ | refine isNextP ?_ | refine isThen ?_ | refine isBlock ?_ | refine isOut ?_ | refine isOutN ?_)); (simp only [D.int, D.bool])))
      refine callDr_peek c_byte_Clone0 (.cons .f .nil) ⟨.f .v, by simp⟩ ?_
      repeat' (first | (with_reducible refine HS.seq ?_) | (with_reducible refine HS.opsK good (fun K hK => ?_)) | (with_reducible refine wpS_app (fun K hK => ?_)) | ((with_reducible refine hK _ ?_); clear hK K) | (with_reducible refine HS.drw good (fun K hK => ?_)) | ((with_reducible refine And.intro (Chk.mk' ?_) ?_); kernel_rfl) | (with_reducible refine HS.block ?_) | ((with_reducible refine HS.cond1 ?_ ?_); rfl) | ((with_reducible refine HS.cond0 ?_ ?_); rfl) | ((with_reducible apply HS.condB) <;> first | rfl | (with_reducible intro h)) | (with_reducible refine HS.exit ?_) | (with_reducible refine HS.ret ?_) | (with_reducible refine HS.skip ?_) | (with_reducible first | refine thenQ_n ?_ | refine blockQ_n ?_ | refine thenQ_r ?_ | refine blockQ_r ?_ | refine thenQ_x ?_ | refine blockQ_hit ?_ | refine endS_r ?_ | refine endS_n ?_) | ((with_reducible refine blockQ_miss ?_ ?_); rfl) | (with_reducible refine Two.mk' (fun h => ?_) (fun h => ?_) <;> try (exfalso; omega)) | ((with_reducible refine Bsel.mk' (fun h => ?_) (fun h => ?_)) <;> (try simp only [h])) | ((fail_if_success (with_reducible first | refine isHS ?_ | refine isRet ?_ | refine isCall ?_ | refine isNext ?_ | refine isNextP ?_ | refine isThen ?_ | refine isBlock ?_ | refine isOut ?_ | refine isOutN ?_)); simp (disch := omega) only [↓LD, LU, loadA_rf, wpS_nil, wpS_a, wpS_n, wpS_g, ↓Bsel_true, ↓Bsel_false, frm_get, frm_getD, frm_set, look_cons, look_nil, List.set_cons_succ, List.set_cons_zero, List.getElem?_cons_succ, List.getElem?_cons_zero, ↓bind'_some, ↓Two_true, ↓Two_false, List.length_cons, List.length_nil, List.cons_append, List.nil_append, List.map_cons, List.map_nil, List.take_succ_cons, List.take_zero, List.drop_succ_cons, List.drop_zero, Option.map_some, Option.map_none, ↓reduceIte, Nat.reduceAdd, Nat.reduceMul, Nat.reduceSub, Nat.reduceLeDiff, Nat.reduceLT, Nat.reduceEqDiff, Nat.add_zero, Nat.zero_add, Nat.mul_one, Int.toNat_natCast, Nat.mul_zero, Nat.zero_mul, true_and, and_true, reduceCtorEq, Int.reduceNeg, Int.reduceLT, Int.reduceLE, Int.reduceEq, Int.reduceToNat, wrap_in, List.getElem?_drop, List.getElem?_map, List.length_map, if_some, most_eq, set_map_b, app_map_i, getElem?_some_of, Int.natCast_nonneg, Bool.false_eq_true, decide_true, decide_false, Bool.not_true, Bool.not_false, and_self, eq_self, false_implies, or_self, Bool.and_self, false_or, or_false, Bool.false_and, Bool.true_beq, Bool.false_beq, List.append_nil, List.map_nil]) | ((with_reducible refine And.intro ?_ ?_); omega) | ((fail_if_success (with_reducible first | refine isHS ?_ | refine isRet ?_ | refine isCall ?_ | refine isNext ?_ | refine isNextP ?_ | refine isThen ?_ | refine isBlock ?_ | refine isOut ?_ | refine isOutN ?_)); (simp only [D.int, D.bool])))
      refine bind'_of (mput_mF (b := x :: b) rfl rfl rfl) ?_
      repeat' (first | (with_reducible refine HS.seq ?_) | (with_reducible refine HS.opsK good (fun K hK => ?_)) | (with_reducible refine wpS_app (fun K hK => ?_)) | ((with_reducible refine hK _ ?_); clear hK K) | (with_reducible refine HS.drw good (fun K hK => ?_)) | ((with_reducible refine And.intro (Chk.mk' ?_) ?_); kernel_rfl) | (with_reducible refine HS.block ?_) | ((with_reducible refine HS.cond1 ?_ ?_); rfl) | ((with_reducible refine HS.cond0 ?_ ?_); rfl) | ((with_reducible apply HS.condB) <;> first | rfl | (with_reducible intro h)) | (with_reducible refine HS.exit ?_) | (with_reducible refine HS.ret ?_) | (with_reducible refine HS.skip ?_) | (with_reducible first | refine thenQ_n ?_ | refine blockQ_n ?_ | refine thenQ_r ?_ | refine blockQ_r ?_ | refine thenQ_x ?_ | refine blockQ_hit ?_ | refine endS_r ?_ | refine endS_n ?_) | ((with_reducible refine blockQ_miss ?_ ?_); rfl) | (with_reducible refine Two.mk' (fun h => ?_) (fun h => ?_) <;> try (exfalso; omega)) | ((with_reducible refine Bsel.mk' (fun h => ?_) (fun h => ?_)) <;> (try simp only [h])) | ((fail_if_success (with_reducible first | refine isHS ?_ | refine isRet ?_ | refine isCall ?_ | refine isNext ?_ | refine isNextP ?_ | refine isThen ?_ | refine isBlock ?_ | refine isOut ?_ | refine isOutN ?_)); simp (disch := omega) only [↓LD, LU, loadA_rf, wpS_nil, wpS_a, wpS_n, wpS_g, ↓Bsel_true, ↓Bsel_false, frm_get, frm_getD, frm_set, look_cons, look_nil, List.set_cons_succ, List.set_cons_zero, List.getElem?_cons_succ, List.getElem?_cons_zero, ↓bind'_some, ↓Two_true, ↓Two_false, List.length_cons, List.length_nil, List.cons_append, List.nil_append, List.map_cons, List.map_nil, List.take_succ_cons, List.take_zero, List.drop_succ_cons, List.drop_zero, Option.map_some, Option.map_none, ↓reduceIte, Nat.reduceAdd, Nat.reduceMul, Nat.reduceSub, Nat.reduceLeDiff, Nat.reduceLT, Nat.reduceEqDiff, Nat.add_zero, Nat.zero_add, Nat.mul_one, Int.toNat_natCast, Nat.mul_zero, Nat.zero_mul, true_and, and_true, reduceCtorEq, Int.reduceNeg, Int.reduceLT, Int.reduceLE, Int.reduceEq, Int.reduceToNat, wrap_in, List.getElem?_drop, List.getElem?_map, List.length_map, if_some, most_eq, set_map_b, app_map_i, getElem?_some_of, Int.natCast_nonneg, Bool.false_eq_true, decide_true, decide_false, Bool.not_true, Bool.not_false, and_self, eq_self, false_implies, or_self, Bool.and_self, false_or, or_false, Bool.false_and, Bool.true_beq, Bool.false_beq]) | ((with_reducible refine And.intro ?_ ?_); omega) | ((fail_if_success (with_reducible first | refine isHS ?_ | refine isRet ?_ | refine isCall ?_ | refine isNext ?_ | refine isNextP ?_ | refine isThen ?_ | refine isBlock ?_ | refine isOut ?_ | refine isOutN ?_)); (simp only [D.int, D.bool])))
      exact end0t (by kernel_rfl) ⟨rfl, by simp [fDo, hg]⟩
    | some y =>
      rw [hg] at hb
      simp only [Option.getD_some] at hb
      obtain ⟨h1, h2⟩ := hl.get hg
      obtain ⟨n, hn⟩ : ∃ n, y.length = n + 1 := by
        cases y with
        | nil => exact absurd rfl h1
        | cons z y => exact ⟨y.length, rfl⟩
      repeat' (first | (with_reducible refine HS.seq ?_) | (with_reducible refine HS.opsK good (fun K hK => ?_)) | (with_reducible refine wpS_app (fun K hK => ?_)) | ((with_reducible refine hK _ ?_); clear hK K) | (with_reducible refine HS.drw good (fun K hK => ?_)) | ((with_reducible refine And.intro (Chk.mk' ?_) ?_); kernel_rfl) | (with_reducible refine HS.block ?_) | ((with_reducible refine HS.cond1 ?_ ?_); rfl) | ((with_reducible refine HS.cond0 ?_ ?_); rfl) | ((with_reducible apply HS.condB) <;> first | rfl | (with_reducible intro h)) | (with_reducible refine HS.exit ?_) | (with_reducible refine HS.ret ?_) | (with_reducible refine HS.skip ?_) | (with_reducible first | refine thenQ_n ?_ | refine blockQ_n ?_ | refine thenQ_r ?_ | refine blockQ_r ?_ | refine thenQ_x ?_ | refine blockQ_hit ?_ | refine endS_r ?_ | refine endS_n ?_) | ((with_reducible refine blockQ_miss ?_ ?_); rfl) | (with_reducible refine Two.mk' (fun h => ?_) (fun h => ?_) <;> try (exfalso; omega)) | ((with_reducible refine Bsel.mk' (fun h => ?_) (fun h => ?_)) <;> (try simp only [h])) | ((fail_if_success (with_reducible first | refine isHS ?_ | refine isRet ?_ | refine isCall ?_ | refine isNext ?_ | refine isNextP ?_ | refine isThen ?_ | refine isBlock ?_ | refine isOut ?_ | refine isOutN ?_)); simp (disch := omega) only [↓LD, LU, loadA_rf, wpS_nil, wpS_a, wpS_n, wpS_g, ↓Bsel_true, ↓Bsel_false, frm_get, frm_getD, frm_set, look_cons, look_nil, List.set_cons_succ, List.set_cons_zero, List.getElem?_cons_succ, List.getElem?_cons_zero, ↓bind'_some, ↓Two_true, ↓Two_false, List.length_cons, List.length_nil, List.cons_append, List.nil_append, List.map_cons, List.map_nil, List.take_succ_cons, List.take_zero, List.drop_succ_cons, List.drop_zero, Option.map_some, Option.map_none, ↓reduceIte, Nat.reduceAdd, Nat.reduceMul, Nat.reduceSub, Nat.reduceLeDiff, Nat.reduceLT, Nat.reduceEqDiff, Nat.add_zero, Nat.zero_add, Nat.mul_one, Int.toNat_natCast, Nat.mul_zero, Nat.zero_mul, true_and, and_true, reduceCtorEq, Int.reduceNeg, Int.reduceLT, Int.reduceLE, Int.reduceEq, Int.reduceToNat, wrap_in, List.getElem?_drop, List.getElem?_map, List.length_map, if_some, most_eq, set_map_b, app_map_i, getElem?_some_of, Int.natCast_nonneg, Bool.false_eq_true, decide_true, decide_false, Bool.not_true, Bool.not_false, and_self, eq_self, false_implies, or_self, Bool.and_self, false_or, or_false, Bool.false_and, Bool.true_beq, Bool.false_beq, fY]) | ((with_reducible refine And.intro ?_ ?_); omega) | ((fail_if_success (with_reducible first | refine isHS ?_ | refine isRet ?_ | refine isCall ?_ | refine isNext ?_ | refine isNextP ?_ | refine isThen ?_ | refine isBlock ?_ | refine isOut ?_ | refine isOutN ?_)); (simp only [D.int, D.bool])))
      refine bind'_of (look_mF rfl) ?_
      rw [hg]
      repeat' (first | (with_reducible refine HS.seq ?_) | (with_reducible refine HS.opsK good (fun K hK => ?_)) | (with_reducible refine wpS_app (fun K hK => ?_)) | ((with_reducible refine hK _ ?_); clear hK K) | (with_reducible refine HS.drw good (fun K hK => ?_)) | ((with_reducible refine And.intro (Chk.mk' ?_) ?_); kernel_rfl) | (with_reducible refine HS.block ?_) | ((with_reducible refine HS.cond1 ?_ ?_); rfl) | ((with_reducible refine HS.cond0 ?_ ?_); rfl) | ((with_reducible apply HS.condB) <;> first | rfl | (with_reducible intro h)) | (with_reducible refine HS.exit ?_) | (with_reducible refine HS.ret ?_) | (with_reducible refine HS.skip ?_) | (with_reducible first | refine thenQ_n ?_ | refine blockQ_n ?_ | refine thenQ_r ?_ | refine blockQ_r ?_ | refine thenQ_x ?_ | refine blockQ_hit ?_ | refine endS_r ?_ | refine endS_n ?_) | ((with_reducible refine blockQ_miss ?_ ?_); rfl) | (with_reducible refine Two.mk' (fun h => ?_) (fun h => ?_) <;> try (exfalso; omega)) | ((with_reducible refine Bsel.mk' (fun h => ?_) (fun h => ?_)) <;> (try simp only [h])) | ((fail_if_success (with_reducible first | refine isHS ?_ | refine isRet ?_ | refine isCall ?_ | refine isNext ?_ | refine isNextP ?_ | refine isThen ?_ | refine isBlock ?_ | refine isOut ?_ | refine isOutN ?_)); simp (disch := omega) only [↓LD, LU, loadA_rf, wpS_nil, wpS_a, wpS_n, wpS_g, ↓Bsel_true, ↓Bsel_false, frm_get, frm_getD, frm_set, look_cons, look_nil, List.set_cons_succ, List.set_cons_zero, List.getElem?_cons_succ, List.getElem?_cons_zero, ↓bind'_some, ↓Two_true, ↓Two_false, List.length_cons, List.length_nil, List.cons_append, List.nil_append, List.map_cons, List.map_nil, List.take_succ_cons, List.take_zero, List.drop_succ_cons, List.drop_zero, Option.map_some, Option.map_none, ↓reduceIte, Nat.reduceAdd, Nat.reduceMul, Nat.reduceSub, Nat.reduceLeDiff, Nat.reduceLT, Nat.reduceEqDiff, Nat.add_zero, Nat.zero_add, Nat.mul_one, Int.toNat_natCast, Nat.mul_zero, Nat.zero_mul, true_and, and_true, reduceCtorEq, Int.reduceNeg, Int.reduceLT, Int.reduceLE, Int.reduceEq, Int.reduceToNat, wrap_in, List.getElem?_drop, List.getElem?_map, List.length_map, if_some, most_eq, set_map_b, app_map_i, getElem?_some_of, Int.natCast_nonneg, Bool.false_eq_true, decide_true, decide_false, Bool.not_true, Bool.not_false, and_self, eq_self, false_implies, or_self, Bool.and_self, false_or, or_false, Bool.false_and, Bool.true_beq, Bool.false_beq, orN]) | ((with_reducible refine And.intro ?_ ?_); omega) | ((fail_if_success (with_reducible first | refine isHS ?_ | refine isRet ?_ | refine isCall ?_ | refine isNext ?_ | refine isNextP ?_ | refine isThen ?_ | refine isBlock ?_ | refine isOut ?_ | refine isOutN ?_)); (simp only [D.int, D.bool])))
      refine callDr_peek (c_byte_Clone y n hn (by omega)) (.cons .f .nil) ⟨.sl, by intro r hr; rw [List.mem_singleton.1 hr]; exact plain_bytes y⟩ ?_
      repeat' (first | (with_reducible refine HS.seq ?_) | (with_reducible refine HS.opsK good (fun K hK => ?_)) | (with_reducible refine wpS_app (fun K hK => ?_)) | ((with_reducible refine hK _ ?_); clear hK K) | (with_reducible refine HS.drw good (fun K hK => ?_)) | ((with_reducible refine And.intro (Chk.mk' ?_) ?_); kernel_rfl) | (with_reducible refine HS.block ?_) | ((with_reducible refine HS.cond1 ?_ ?_); rfl) | ((with_reducible refine HS.cond0 ?_ ?_); rfl) | ((with_reducible apply HS.condB) <;> first | rfl | (with_reducible intro h)) | (with_reducible refine HS.exit ?_) | (with_reducible refine HS.ret ?_) | (with_reducible refine HS.skip ?_) | (with_reducible first | refine thenQ_n ?_ | refine blockQ_n ?_ | refine thenQ_r ?_ | refine blockQ_r ?_ | refine thenQ_x ?_ | refine blockQ_hit ?_ | refine endS_r ?_ | refine endS_n ?_) | ((with_reducible refine blockQ_miss ?_ ?_); rfl) | (with_reducible refine Two.mk' (fun h => ?_) (fun h => ?_) <;> try (exfalso; omega)) | ((with_reducible refine Bsel.mk' (fun h => ?_) (fun h => ?_)) <;> (try simp only [h])) | ((fail_if_success (with_reducible first | refine isHS ?_ | refine isRet ?_ | refine isCall ?_ | refine isNext ?_ | refine isNextP ?_ | refine isThen ?_ | refine isBlock ?_ | refine isOut ?_ | refine isOutN ?_)); simp (disch := omega) only [↓LD, LU, loadA_rf, wpS_nil, wpS_a, wpS_n, wpS_g, ↓Bsel_true, ↓Bsel_false, frm_get, frm_getD, frm_set, look_cons, look_nil, List.set_cons_succ, List.set_cons_zero, List.getElem?_cons_succ, List.getElem?_cons_zero, ↓bind'_some, ↓Two_true, ↓Two_false, List.length_cons, List.length_nil, List.cons_append, List.nil_append, List.map_cons, List.map_nil, List.take_succ_cons, List.take_zero, List.drop_succ_cons, List.drop_zero, Option.map_some, Option.map_none, ↓reduceIte, Nat.reduceAdd, Nat.reduceMul, Nat.reduceSub, Nat.reduceLeDiff, Nat.reduceLT, Nat.reduceEqDiff, Nat.add_zero, Nat.zero_add, Nat.mul_one, Int.toNat_natCast, Nat.mul_zero, Nat.zero_mul, true_and, and_true, reduceCtorEq, Int.reduceNeg, Int.reduceLT, Int.reduceLE, Int.reduceEq, Int.reduceToNat, wrap_in, List.getElem?_drop, List.getElem?_map, List.length_map, if_some, most_eq, set_map_b, app_map_i, getElem?_some_of, Int.natCast_nonneg, Bool.false_eq_true, decide_true, decide_false, Bool.not_true, Bool.not_false, and_self, eq_self, false_implies, or_self, Bool.and_self, false_or, or_false, Bool.false_and, Bool.true_beq, Bool.false_beq, List.append_nil, app_bytes]) | ((with_reducible refine And.intro ?_ ?_); omega) | ((fail_if_success (with_reducible first | refine isHS ?_ | refine isRet ?_ | refine isCall ?_ | refine isNext ?_ | refine isNextP ?_ | refine isThen ?_ | refine isBlock ?_ | refine isOut ?_ | refine isOutN ?_)); (simp only [D.int, D.bool])))
      refine bind'_of (mput_mF (b := y ++ x :: b) (n := n + 1 + b.length) rfl rfl (by simp [hn]; omega)) ?_
      repeat' (first | (with_reducible refine HS.seq ?_) | (with_reducible refine HS.opsK good (fun K hK => ?_)) | (with_reducible refine wpS_app (fun K hK => ?_)) | ((with_reducible refine hK _ ?_); clear hK K) | (with_reducible refine HS.drw good (fun K hK => ?_)) | ((with_reducible refine And.intro (Chk.mk' ?_) ?_); kernel_rfl) | (with_reducible refine HS.block ?_) | ((with_reducible refine HS.cond1 ?_ ?_); rfl) | ((with_reducible refine HS.cond0 ?_ ?_); rfl) | ((with_reducible apply HS.condB) <;> first | rfl | (with_reducible intro h)) | (with_reducible refine HS.exit ?_) | (with_reducible refine HS.ret ?_) | (with_reducible refine HS.skip ?_) | (with_reducible first | refine thenQ_n ?_ | refine blockQ_n ?_ | refine thenQ_r ?_ | refine blockQ_r ?_ | refine thenQ_x ?_ | refine blockQ_hit ?_ | refine endS_r ?_ | refine endS_n ?_) | ((with_reducible refine blockQ_miss ?_ ?_); rfl) | (with_reducible refine Two.mk' (fun h => ?_) (fun h => ?_) <;> try (exfalso; omega)) | ((with_reducible refine Bsel.mk' (fun h => ?_) (fun h => ?_)) <;> (try simp only [h])) | ((fail_if_success (with_reducible first | refine isHS ?_ | refine isRet ?_ | refine isCall ?_ | refine isNext ?_ | refine isNextP ?_ | refine isThen ?_ | refine isBlock ?_ | refine isOut ?_ | refine isOutN ?_)); simp (disch := omega) only [↓LD, LU, loadA_rf, wpS_nil, wpS_a, wpS_n, wpS_g, ↓Bsel_true, ↓Bsel_false, frm_get, frm_getD, frm_set, look_cons, look_nil, List.set_cons_succ, List.set_cons_zero, List.getElem?_cons_succ, List.getElem?_cons_zero, ↓bind'_some, ↓Two_true, ↓Two_false, List.length_cons, List.length_nil, List.cons_append, List.nil_append, List.map_cons, List.map_nil, List.take_succ_cons, List.take_zero, List.drop_succ_cons, List.drop_zero, Option.map_some, Option.map_none, ↓reduceIte, Nat.reduceAdd, Nat.reduceMul, Nat.reduceSub, Nat.reduceLeDiff, Nat.reduceLT, Nat.reduceEqDiff, Nat.add_zero, Nat.zero_add, Nat.mul_one, Int.toNat_natCast, Nat.mul_zero, Nat.zero_mul, true_and, and_true, reduceCtorEq, Int.reduceNeg, Int.reduceLT, Int.reduceLE, Int.reduceEq, Int.reduceToNat, wrap_in, List.getElem?_drop, List.getElem?_map, List.length_map, if_some, most_eq, set_map_b, app_map_i, getElem?_some_of, Int.natCast_nonneg, Bool.false_eq_true, decide_true, decide_false, Bool.not_true, Bool.not_false, and_self, eq_self, false_implies, or_self, Bool.and_self, false_or, or_false, Bool.false_and, Bool.true_beq, Bool.false_beq]) | ((with_reducible refine And.intro ?_ ?_); omega) | ((fail_if_success (with_reducible first | refine isHS ?_ | refine isRet ?_ | refine isCall ?_ | refine isNext ?_ | refine isNextP ?_ | refine isThen ?_ | refine isBlock ?_ | refine isOut ?_ | refine isOutN ?_)); (simp only [D.int, D.bool])))
      exact end0t (by kernel_rfl) ⟨rfl, by simp [fDo, hg]⟩
theorem FsOk.room {l : Fs} {B : Nat} (h : FsOk l B) (hB : B ≤ 1000000000) {k : Int} {b : List UInt8} (hb : b.length ≤ 1000000000) : ((fGet l k).getD []).length + b.length ≤ 140737488355328 := by
  cases hg : fGet l k with
  | none => simp; omega
  | some y => have := (h.get hg).2; simp; omega
theorem c_disk_do (l : Fs) (B : Nat) (hl : FsOk l B) (hB : B ≤ 1000000000) (k : Int) (b : List UInt8) (hb : b.length ≤ 1000000000) :
    Con Try.prog 57 [.mp 0, wkD k b] [.map (mF l)] fun r H' => r = .tp [] ∧ H' = [.map (mF (fDo l k b))] := c_disk_doG l B hl k b (hl.room hB hb)
end Go.Proofs.Ytjbkckhpoicaeaa.Mir

/- Steps (chapter 5's laws), as the machine holds them. -/
namespace Go.Proofs.Ytjbkckhpoicaeaa.Mir
open Go Go.RowKit

/-- A step, raw. -/
structure Stp where
  what : Int
  file : Int
  n : Int
  cut : Int
  b : List UInt8
  deriving Inhabited
def Stp.cs (x : Stp) : List F := [iF x.what, iF x.file, iF x.n, iF x.cut, fY x.b]
theorem Stp.cs_len (x : Stp) : x.cs.length = 5 := rfl
def fSt (l : List Stp) : F := .s (l.flatMap Stp.cs) l.length
theorem st_at0 {l : List Stp} {k : Nat} (hk : k < l.length) : (l.flatMap Stp.cs)[k * 5]? = some (iF (gt l k).what) := flat_at (j := 0) Stp.cs_len hk (by omega)
theorem st_at1 {l : List Stp} {k : Nat} (hk : k < l.length) : (l.flatMap Stp.cs)[k * 5 + 1]? = some (iF (gt l k).file) := flat_at (j := 1) Stp.cs_len hk (by omega)
theorem st_at2 {l : List Stp} {k : Nat} (hk : k < l.length) : (l.flatMap Stp.cs)[k * 5 + 2]? = some (iF (gt l k).n) := flat_at (j := 2) Stp.cs_len hk (by omega)
theorem st_at3 {l : List Stp} {k : Nat} (hk : k < l.length) : (l.flatMap Stp.cs)[k * 5 + 3]? = some (iF (gt l k).cut) := flat_at (j := 3) Stp.cs_len hk (by omega)
theorem st_at4 {l : List Stp} {k : Nat} (hk : k < l.length) : (l.flatMap Stp.cs)[k * 5 + 4]? = some (fY (gt l k).b) := flat_at (j := 4) Stp.cs_len hk (by omega)
end Go.Proofs.Ytjbkckhpoicaeaa.Mir

/- Steps (chapter 5's laws) that came in, opened. -/
namespace Go.Proofs.Ytjbkckhpoicaeaa
open Go Go.RowKit

abbrev StpIn := Int × Int × Int × Int × Option Addr × Nat × List UInt8
def stpV (x : StpIn) : List Value := [.int .i64 x.1, .int .i64 x.2.1, .int .i64 x.2.2.1, .int .i64 x.2.2.2.1, .slice x.2.2.2.2.1 x.2.2.2.2.2.2.length x.2.2.2.2.2.1]
def stpOk (W : World) (x : StpIn) : Prop := InS byteCell (fun _ => True) 1 W x.2.2.2.2.1 x.2.2.2.2.2.1 x.2.2.2.2.2.2 ∧ x.2.2.2.2.2.2.length ≤ 1048576
theorem reader_stp (W : World) : ReaderU Try.prog W 43 stpV (stpOk W) :=
  ReaderU.map (reader_structU Try.underlying43 (by kernel_rfl) (freaderU_cons (m := 1) rfl (by kernel_rfl) (reader_int Try.underlying3).up
    (freaderU_cons (m := 1) rfl (by kernel_rfl) (reader_int Try.underlying3).up (freaderU_cons (m := 1) rfl (by kernel_rfl) (reader_int Try.underlying3).up (freaderU_cons (m := 1) rfl (by kernel_rfl) (reader_int Try.underlying3).up
    (freaderU_cons (m := 1) rfl (by kernel_rfl) (reader_sliceU (n := 1) (B := 1) Try.underlying41 (by kernel_rfl) (by kernel_rfl) (fun _ => rfl) (reader_byte Try.underlying5).up) (freaderU_nil _)))))))
    (fun x => (x.1, x.2.1, x.2.2.1, x.2.2.2.1, x.2.2.2.2.1)) (fun _ _ => rfl) (fun _ h => h.2.2.2.2.1)
theorem open_stps {H : Type} {enc : TypeId × Value → H} {W : World} {ts : List TypeId} {ds : List (DataW H)} (hsz : (DataW.weightsEach Try.prog ts ds).all (· ≤ reachBytes) = true) {d : DataW H} {ps : List MemPlace} (j : Nat) (htj : ts[j]? = some 37) (hdj : ds[j]? = some d) (hu : Rows.uptoBulk d ≤ 1048576)
    {a : Option Addr} {len cap : Nat} (h : DataW.Trod enc Try.prog W 0 (fun _ => true) true 37 (.slice a len cap) d ps) : ∃ xs : List StpIn, xs.length = len ∧ InS stpV (stpOk W) 56 W a cap xs := by
  obtain ⟨xs, h1, h2, _⟩ := open_slice_argU (n := 5) (B := 56) (f := stpV) hsz j htj hdj hu Try.underlying37 (by kernel_rfl) (by kernel_rfl) (fun _ => rfl) (reader_stp W) h
  exact ⟨xs, h1, h2⟩
def stpD (x : StpIn) : Mir.Stp := ⟨x.1, x.2.1, x.2.2.1, x.2.2.2.1, x.2.2.2.2.2.2⟩
theorem Mir.rf_bs {W : World} {A : Nat → Prop} (hA : ∀ b, ¬ A b) {a : Option Addr} {c : Nat} {xs : List UInt8} (h : InS byteCell (fun _ => True) 1 W a c xs) : Mir.RF W A (Mir.fY xs) (.slice a xs.length c) := by
  have h1 := Mir.rf_in (A := A) (g := fun b => [Mir.uF b]) h hA fun x _ => .cons (.v rfl) .nil
  have e : ∀ l : List UInt8, l.flatMap (fun b => [Mir.uF b]) = l.map Mir.uF := fun l => by
    induction l with
    | nil => rfl
    | cons x l ih => rw [List.flatMap_cons, ih]; rfl
  rw [e] at h1
  exact h1
theorem rf_stps {W : World} {A : Nat → Prop} (hA : ∀ b, ¬ A b) {a : Option Addr} {c : Nat} {xs : List StpIn} (h : InS stpV (stpOk W) 56 W a c xs) : Mir.RF W A (Mir.fSt (xs.map stpD)) (.slice a xs.length c) := by
  have h1 := Mir.rf_in (A := A) (g := fun x => Mir.Stp.cs (stpD x)) h hA fun x hx => .cons (.v rfl) (.cons (.v rfl) (.cons (.v rfl) (.cons (.v rfl) (.cons (Mir.rf_bs hA hx.1) .nil))))
  have e : Mir.fSt (xs.map stpD) = .s (xs.flatMap fun x => Mir.Stp.cs (stpD x)) xs.length := by rw [Mir.fSt, List.flatMap_map, List.length_map]
  rw [e]; exact h1
theorem stp_len {W : World} {a : Option Addr} {c : Nat} {xs : List StpIn} (h : InS stpV (stpOk W) 56 W a c xs) : ∀ x ∈ xs.map stpD, x.b.length ≤ 1048576 := by
  intro y hy
  obtain ⟨x, hx, rfl⟩ := List.mem_map.1 hy
  exact (h.ok x hx).2
end Go.Proofs.Ytjbkckhpoicaeaa

/- The program's disk: its rows; work, put, Append. -/
namespace Go.Proofs.Ytjbkckhpoicaeaa.Mir
open Go Go.RowKit
set_option linter.unusedVariables false
set_option linter.unusedSimpArgs false
set_option maxHeartbeats 2000000

theorem end0G {n0 : Nat} {Q : D → List Row → Prop} {e : List (Nat × D)} {n : Nat} {H : List Row} {dr : List Nat} {ef : Eff} (hg : gather n0 (.tp []) (List.range n0) H = some ef) (q : Q ef.res (applyUpd (H.take n0) ef.upd ++ ef.news)) : RetS n0 [] Q ⟨frm n e, H, dr⟩ :=
  .gather (ds := []) rfl hg q

/-- A work that pends. -/
structure Wk where
  k : Int
  b : List UInt8
  deriving Inhabited
def Wk.cs (w : Wk) : List F := [iF w.k, fY w.b]
theorem Wk.cs_len (w : Wk) : w.cs.length = 2 := rfl
def dkP (pr n : Nat) : D := match n with
  | 0 => .f (.v (.slice none 0 0))
  | m + 1 => .sl pr 0 (m + 1)
def dkB (pr n : Nat) (fuse : Int) (dead : Bool) (works : Int) : Row := .box 76 [.mp 1, .mp 2, dkP pr n, D.int fuse, D.bool dead, D.int works]
/-- A disk's rows: n works pend. -/
def dkR (e1 e2 : Fs) (n : Nat) (ws : List Wk) (fuse : Int) (dead : Bool) (works : Int) : List Row := match n with
  | 0 => [dkB 3 0 fuse dead works, .map (mF e1), .map (mF e2)]
  | m + 1 => [dkB 3 (m + 1) fuse dead works, .map (mF e1), .map (mF e2), .data 79 (ws.flatMap Wk.cs)]
def deadN' (fuse : Int) (dead : Bool) : Bool := dead || decide (fuse = 0)
def fuseN (fuse : Int) (dead : Bool) : Int := if 0 < fuse ∧ dead = false then fuse - 1 else fuse
def worksN (fuse : Int) (dead : Bool) (works : Int) : Int := if deadN' fuse dead = true then works else works + 1
set_option maxRecDepth 100000 in
theorem c_disk_work (e1 e2 : Fs) (n : Nat) (ws : List Wk) (fuse : Int) (dead : Bool) (works : Int) (hf : -1 ≤ fuse ∧ fuse ≤ 1000000) (hw : 0 ≤ works ∧ works ≤ 1000000) :
    Con Try.prog 48 [.pt 0 0] (dkR e1 e2 n ws fuse dead works) fun r H' => r = D.int (if deadN' fuse dead = true then 14 else 0) ∧ H' = dkR e1 e2 n ws (fuseN fuse dead) (deadN' fuse dead) (worksN fuse dead works) := by
  refine Con.walk good fn_disk_work (by simp) ?_
  unfold s_disk_work
  simp only [argsE, List.length_cons, List.length_nil, Nat.reduceAdd]
  rcases n with _ | n <;> cases dead
  all_goals
    repeat' (first | (with_reducible refine HS.seq ?_) | (with_reducible refine HS.opsK good (fun K hK => ?_)) | (with_reducible refine wpS_app (fun K hK => ?_)) | ((with_reducible refine hK _ ?_); clear hK K) | (with_reducible refine HS.drw good (fun K hK => ?_)) | ((with_reducible refine And.intro (Chk.mk' ?_) ?_); kernel_rfl) | (with_reducible refine HS.block ?_) | ((with_reducible refine HS.cond1 ?_ ?_); rfl) | ((with_reducible refine HS.cond0 ?_ ?_); rfl) | ((with_reducible apply HS.condB) <;> first | rfl | (with_reducible intro h)) | (with_reducible refine HS.exit ?_) | (with_reducible refine HS.ret ?_) | (with_reducible refine HS.skip ?_) | (with_reducible first | refine thenQ_n ?_ | refine blockQ_n ?_ | refine thenQ_r ?_ | refine blockQ_r ?_ | refine thenQ_x ?_ | refine blockQ_hit ?_ | refine endS_r ?_ | refine endS_n ?_) | ((with_reducible refine blockQ_miss ?_ ?_); rfl) | (with_reducible refine Two.mk' (fun h => ?_) (fun h => ?_) <;> try (exfalso; omega)) | ((with_reducible refine Bsel.mk' (fun h => ?_) (fun h => ?_)) <;> (try simp only [h])) | ((fail_if_success (with_reducible first | refine isHS ?_ | refine isRet ?_ | refine isCall ?_ | refine isNext ?_ | refine isNextP ?_ | refine isThen ?_ | refine isBlock ?_ | refine isOut ?_ | refine isOutN ?_)); simp (disch := omega) only [↓LD, LU, loadA_rf, wpS_nil, wpS_a, wpS_n, wpS_g, ↓Bsel_true, ↓Bsel_false, frm_get, frm_getD, frm_set, look_cons, look_nil, List.set_cons_succ, List.set_cons_zero, List.getElem?_cons_succ, List.getElem?_cons_zero, ↓bind'_some, ↓Two_true, ↓Two_false, List.length_cons, List.length_nil, List.cons_append, List.nil_append, List.map_cons, List.map_nil, List.take_succ_cons, List.take_zero, List.drop_succ_cons, List.drop_zero, Option.map_some, Option.map_none, ↓reduceIte, Nat.reduceAdd, Nat.reduceMul, Nat.reduceSub, Nat.reduceLeDiff, Nat.reduceLT, Nat.reduceEqDiff, Nat.add_zero, Nat.zero_add, Nat.mul_one, Int.toNat_natCast, Nat.mul_zero, Nat.zero_mul, true_and, and_true, reduceCtorEq, Int.reduceNeg, Int.reduceLT, Int.reduceLE, Int.reduceEq, Int.reduceToNat, wrap_in, List.getElem?_drop, List.getElem?_map, List.length_map, if_some, most_eq, set_map_b, app_map_i, getElem?_some_of, Int.natCast_nonneg, Bool.false_eq_true, decide_true, decide_false, Bool.not_true, Bool.not_false, and_self, eq_self, false_implies, or_self, Bool.and_self, false_or, or_false, Bool.false_and, Bool.true_beq, Bool.false_beq, dkR, dkB, dkP]) | ((with_reducible refine And.intro ?_ ?_); omega) | ((fail_if_success (with_reducible first | refine isHS ?_ | refine isRet ?_ | refine isCall ?_ | refine isNext ?_ | refine isNextP ?_ | refine isThen ?_ | refine isBlock ?_ | refine isOut ?_ | refine isOutN ?_)); (simp only [D.int, D.bool])))
    all_goals
      refine endA rfl rfl ⟨?_, ?_⟩
      · simp_all [deadN', look_cons, D.int]
      · simp_all [deadN', fuseN, worksN, dkR, dkB, dkP, D.int, D.bool] <;> omega

theorem fit_wk {ws : List Wk} {k : Int} {b : List UInt8} : ws.flatMap Wk.cs ++ [.v (.int .i64 k), fY b] = (ws ++ [(⟨k, b⟩ : Wk)]).flatMap Wk.cs := by
  rw [List.flatMap_append]; rfl
set_option maxRecDepth 100000 in
theorem c_disk_put (e1 e2 : Fs) (n : Nat) (ws : List Wk) (fuse : Int) (dead : Bool) (works : Int) (B : Nat) (he : FsOk e2 B) (k : Int) (b : List UInt8) (hb : ((fGet e2 k).getD []).length + b.length ≤ 140737488355328) (hn : ws.length = n) (hn2 : n ≤ 1000000) :
    Con Try.prog 49 [.pt 0 0, wkD k b] (dkR e1 e2 n ws fuse dead works) fun r H' => r = .tp [] ∧ H' = match n with
      | 0 => [dkB 3 1 fuse dead works, .map (mF e1), .map (mF (fDo e2 k b)), .data 79 ((ws ++ [(⟨k, b⟩ : Wk)]).flatMap Wk.cs)]
      | m + 1 => [dkB 4 (m + 2) fuse dead works, .map (mF e1), .map (mF (fDo e2 k b)), .dead, .data 79 ((ws ++ [(⟨k, b⟩ : Wk)]).flatMap Wk.cs)] := by
  refine Con.walk good fn_disk_put (by simp) ?_
  unfold s_disk_put wkD
  simp only [argsE, List.length_cons, List.length_nil, Nat.reduceAdd]
  rcases n with _ | n
  · obtain rfl := List.eq_nil_of_length_eq_zero hn
    repeat' (first | (with_reducible refine HS.seq ?_) | (with_reducible refine HS.opsK good (fun K hK => ?_)) | (with_reducible refine wpS_app (fun K hK => ?_)) | ((with_reducible refine hK _ ?_); clear hK K) | (with_reducible refine HS.drw good (fun K hK => ?_)) | ((with_reducible refine And.intro (Chk.mk' ?_) ?_); kernel_rfl) | (with_reducible refine HS.block ?_) | ((with_reducible refine HS.cond1 ?_ ?_); rfl) | ((with_reducible refine HS.cond0 ?_ ?_); rfl) | ((with_reducible apply HS.condB) <;> first | rfl | (with_reducible intro h)) | (with_reducible refine HS.exit ?_) | (with_reducible refine HS.ret ?_) | (with_reducible refine HS.skip ?_) | (with_reducible first | refine thenQ_n ?_ | refine blockQ_n ?_ | refine thenQ_r ?_ | refine blockQ_r ?_ | refine thenQ_x ?_ | refine blockQ_hit ?_ | refine endS_r ?_ | refine endS_n ?_) | ((with_reducible refine blockQ_miss ?_ ?_); rfl) | (with_reducible refine Two.mk' (fun h => ?_) (fun h => ?_) <;> try (exfalso; omega)) | ((with_reducible refine Bsel.mk' (fun h => ?_) (fun h => ?_)) <;> (try simp only [h])) | ((fail_if_success (with_reducible first | refine isHS ?_ | refine isRet ?_ | refine isCall ?_ | refine isNext ?_ | refine isNextP ?_ | refine isThen ?_ | refine isBlock ?_ | refine isOut ?_ | refine isOutN ?_)); simp (disch := omega) only [↓LD, LU, loadA_rf, wpS_nil, wpS_a, wpS_n, wpS_g, ↓Bsel_true, ↓Bsel_false, frm_get, frm_getD, frm_set, look_cons, look_nil, List.set_cons_succ, List.set_cons_zero, List.getElem?_cons_succ, List.getElem?_cons_zero, ↓bind'_some, ↓Two_true, ↓Two_false, List.length_cons, List.length_nil, List.cons_append, List.nil_append, List.map_cons, List.map_nil, List.take_succ_cons, List.take_zero, List.drop_succ_cons, List.drop_zero, Option.map_some, Option.map_none, ↓reduceIte, Nat.reduceAdd, Nat.reduceMul, Nat.reduceSub, Nat.reduceLeDiff, Nat.reduceLT, Nat.reduceEqDiff, Nat.add_zero, Nat.zero_add, Nat.mul_one, Int.toNat_natCast, Nat.mul_zero, Nat.zero_mul, true_and, and_true, reduceCtorEq, Int.reduceNeg, Int.reduceLT, Int.reduceLE, Int.reduceEq, Int.reduceToNat, wrap_in, List.getElem?_drop, List.getElem?_map, List.length_map, if_some, most_eq, set_map_b, app_map_i, getElem?_some_of, Int.natCast_nonneg, Bool.false_eq_true, decide_true, decide_false, Bool.not_true, Bool.not_false, and_self, eq_self, false_implies, or_self, Bool.and_self, false_or, or_false, Bool.false_and, Bool.true_beq, Bool.false_beq, dkR, dkB, dkP]) | ((with_reducible refine And.intro ?_ ?_); omega) | ((fail_if_success (with_reducible first | refine isHS ?_ | refine isRet ?_ | refine isCall ?_ | refine isNext ?_ | refine isNextP ?_ | refine isThen ?_ | refine isBlock ?_ | refine isOut ?_ | refine isOutN ?_)); (simp only [D.int, D.bool])))
    refine callDr_emb (c_disk_doG e2 B he k b hb) [2] (by kernel_rfl) rfl rfl ?_
    repeat' (first | (with_reducible refine HS.seq ?_) | (with_reducible refine HS.opsK good (fun K hK => ?_)) | (with_reducible refine wpS_app (fun K hK => ?_)) | ((with_reducible refine hK _ ?_); clear hK K) | (with_reducible refine HS.drw good (fun K hK => ?_)) | ((with_reducible refine And.intro (Chk.mk' ?_) ?_); kernel_rfl) | (with_reducible refine HS.block ?_) | ((with_reducible refine HS.cond1 ?_ ?_); rfl) | ((with_reducible refine HS.cond0 ?_ ?_); rfl) | ((with_reducible apply HS.condB) <;> first | rfl | (with_reducible intro h)) | (with_reducible refine HS.exit ?_) | (with_reducible refine HS.ret ?_) | (with_reducible refine HS.skip ?_) | (with_reducible first | refine thenQ_n ?_ | refine blockQ_n ?_ | refine thenQ_r ?_ | refine blockQ_r ?_ | refine thenQ_x ?_ | refine blockQ_hit ?_ | refine endS_r ?_ | refine endS_n ?_) | ((with_reducible refine blockQ_miss ?_ ?_); rfl) | (with_reducible refine Two.mk' (fun h => ?_) (fun h => ?_) <;> try (exfalso; omega)) | ((with_reducible refine Bsel.mk' (fun h => ?_) (fun h => ?_)) <;> (try simp only [h])) | ((fail_if_success (with_reducible first | refine isHS ?_ | refine isRet ?_ | refine isCall ?_ | refine isNext ?_ | refine isNextP ?_ | refine isThen ?_ | refine isBlock ?_ | refine isOut ?_ | refine isOutN ?_)); simp (disch := omega) only [↓LD, LU, loadA_rf, wpS_nil, wpS_a, wpS_n, wpS_g, ↓Bsel_true, ↓Bsel_false, frm_get, frm_getD, frm_set, look_cons, look_nil, List.set_cons_succ, List.set_cons_zero, List.getElem?_cons_succ, List.getElem?_cons_zero, ↓bind'_some, ↓Two_true, ↓Two_false, List.length_cons, List.length_nil, List.cons_append, List.nil_append, List.map_cons, List.map_nil, List.take_succ_cons, List.take_zero, List.drop_succ_cons, List.drop_zero, Option.map_some, Option.map_none, ↓reduceIte, Nat.reduceAdd, Nat.reduceMul, Nat.reduceSub, Nat.reduceLeDiff, Nat.reduceLT, Nat.reduceEqDiff, Nat.add_zero, Nat.zero_add, Nat.mul_one, Int.toNat_natCast, Nat.mul_zero, Nat.zero_mul, true_and, and_true, reduceCtorEq, Int.reduceNeg, Int.reduceLT, Int.reduceLE, Int.reduceEq, Int.reduceToNat, wrap_in, List.getElem?_drop, List.getElem?_map, List.length_map, if_some, most_eq, set_map_b, app_map_i, getElem?_some_of, Int.natCast_nonneg, Bool.false_eq_true, decide_true, decide_false, Bool.not_true, Bool.not_false, and_self, eq_self, false_implies, or_self, Bool.and_self, false_or, or_false, Bool.false_and, Bool.true_beq, Bool.false_beq]) | ((with_reducible refine And.intro ?_ ?_); omega) | ((fail_if_success (with_reducible first | refine isHS ?_ | refine isRet ?_ | refine isCall ?_ | refine isNext ?_ | refine isNextP ?_ | refine isThen ?_ | refine isBlock ?_ | refine isOut ?_ | refine isOutN ?_)); (simp only [D.int, D.bool])))
    exact end0G (ef := ⟨.tp [], [(0, dkB 3 1 fuse dead works), (1, .map (mF e1)), (2, .map (mF (fDo e2 k b)))], [.data 79 ([(⟨k, b⟩ : Wk)].flatMap Wk.cs)]⟩) (by kernel_rfl) ⟨rfl, rfl⟩
  · repeat' (first | (with_reducible refine HS.seq ?_) | (with_reducible refine HS.opsK good (fun K hK => ?_)) | (with_reducible refine wpS_app (fun K hK => ?_)) | ((with_reducible refine hK _ ?_); clear hK K) | (with_reducible refine HS.drw good (fun K hK => ?_)) | ((with_reducible refine And.intro (Chk.mk' ?_) ?_); kernel_rfl) | (with_reducible refine HS.block ?_) | ((with_reducible refine HS.cond1 ?_ ?_); rfl) | ((with_reducible refine HS.cond0 ?_ ?_); rfl) | ((with_reducible apply HS.condB) <;> first | rfl | (with_reducible intro h)) | (with_reducible refine HS.exit ?_) | (with_reducible refine HS.ret ?_) | (with_reducible refine HS.skip ?_) | (with_reducible first | refine thenQ_n ?_ | refine blockQ_n ?_ | refine thenQ_r ?_ | refine blockQ_r ?_ | refine thenQ_x ?_ | refine blockQ_hit ?_ | refine endS_r ?_ | refine endS_n ?_) | ((with_reducible refine blockQ_miss ?_ ?_); rfl) | (with_reducible refine Two.mk' (fun h => ?_) (fun h => ?_) <;> try (exfalso; omega)) | ((with_reducible refine Bsel.mk' (fun h => ?_) (fun h => ?_)) <;> (try simp only [h])) | ((fail_if_success (with_reducible first | refine isHS ?_ | refine isRet ?_ | refine isCall ?_ | refine isNext ?_ | refine isNextP ?_ | refine isThen ?_ | refine isBlock ?_ | refine isOut ?_ | refine isOutN ?_)); simp (disch := omega) only [↓LD, LU, loadA_rf, wpS_nil, wpS_a, wpS_n, wpS_g, ↓Bsel_true, ↓Bsel_false, frm_get, frm_getD, frm_set, look_cons, look_nil, List.set_cons_succ, List.set_cons_zero, List.getElem?_cons_succ, List.getElem?_cons_zero, ↓bind'_some, ↓Two_true, ↓Two_false, List.length_cons, List.length_nil, List.cons_append, List.nil_append, List.map_cons, List.map_nil, List.take_succ_cons, List.take_zero, List.drop_succ_cons, List.drop_zero, Option.map_some, Option.map_none, ↓reduceIte, Nat.reduceAdd, Nat.reduceMul, Nat.reduceSub, Nat.reduceLeDiff, Nat.reduceLT, Nat.reduceEqDiff, Nat.add_zero, Nat.zero_add, Nat.mul_one, Int.toNat_natCast, Nat.mul_zero, Nat.zero_mul, true_and, and_true, reduceCtorEq, Int.reduceNeg, Int.reduceLT, Int.reduceLE, Int.reduceEq, Int.reduceToNat, wrap_in, List.getElem?_drop, List.getElem?_map, List.length_map, if_some, most_eq, set_map_b, app_map_i, getElem?_some_of, Int.natCast_nonneg, Bool.false_eq_true, decide_true, decide_false, Bool.not_true, Bool.not_false, and_self, eq_self, false_implies, or_self, Bool.and_self, false_or, or_false, Bool.false_and, Bool.true_beq, Bool.false_beq, dkR, dkB, dkP]) | ((with_reducible refine And.intro ?_ ?_); omega) | ((fail_if_success (with_reducible first | refine isHS ?_ | refine isRet ?_ | refine isCall ?_ | refine isNext ?_ | refine isNextP ?_ | refine isThen ?_ | refine isBlock ?_ | refine isOut ?_ | refine isOutN ?_)); (simp only [D.int, D.bool])))
    refine And.intro (by rw [flat_len' Wk.cs_len, hn]) ?_
    repeat' (first | (with_reducible refine HS.seq ?_) | (with_reducible refine HS.opsK good (fun K hK => ?_)) | (with_reducible refine wpS_app (fun K hK => ?_)) | ((with_reducible refine hK _ ?_); clear hK K) | (with_reducible refine HS.drw good (fun K hK => ?_)) | ((with_reducible refine And.intro (Chk.mk' ?_) ?_); kernel_rfl) | (with_reducible refine HS.block ?_) | ((with_reducible refine HS.cond1 ?_ ?_); rfl) | ((with_reducible refine HS.cond0 ?_ ?_); rfl) | ((with_reducible apply HS.condB) <;> first | rfl | (with_reducible intro h)) | (with_reducible refine HS.exit ?_) | (with_reducible refine HS.ret ?_) | (with_reducible refine HS.skip ?_) | (with_reducible first | refine thenQ_n ?_ | refine blockQ_n ?_ | refine thenQ_r ?_ | refine blockQ_r ?_ | refine thenQ_x ?_ | refine blockQ_hit ?_ | refine endS_r ?_ | refine endS_n ?_) | ((with_reducible refine blockQ_miss ?_ ?_); rfl) | (with_reducible refine Two.mk' (fun h => ?_) (fun h => ?_) <;> try (exfalso; omega)) | ((with_reducible refine Bsel.mk' (fun h => ?_) (fun h => ?_)) <;> (try simp only [h])) | ((fail_if_success (with_reducible first | refine isHS ?_ | refine isRet ?_ | refine isCall ?_ | refine isNext ?_ | refine isNextP ?_ | refine isThen ?_ | refine isBlock ?_ | refine isOut ?_ | refine isOutN ?_)); simp (disch := omega) only [↓LD, LU, loadA_rf, wpS_nil, wpS_a, wpS_n, wpS_g, ↓Bsel_true, ↓Bsel_false, frm_get, frm_getD, frm_set, look_cons, look_nil, List.set_cons_succ, List.set_cons_zero, List.getElem?_cons_succ, List.getElem?_cons_zero, ↓bind'_some, ↓Two_true, ↓Two_false, List.length_cons, List.length_nil, List.cons_append, List.nil_append, List.map_cons, List.map_nil, List.take_succ_cons, List.take_zero, List.drop_succ_cons, List.drop_zero, Option.map_some, Option.map_none, ↓reduceIte, Nat.reduceAdd, Nat.reduceMul, Nat.reduceSub, Nat.reduceLeDiff, Nat.reduceLT, Nat.reduceEqDiff, Nat.add_zero, Nat.zero_add, Nat.mul_one, Int.toNat_natCast, Nat.mul_zero, Nat.zero_mul, true_and, and_true, reduceCtorEq, Int.reduceNeg, Int.reduceLT, Int.reduceLE, Int.reduceEq, Int.reduceToNat, wrap_in, List.getElem?_drop, List.getElem?_map, List.length_map, if_some, most_eq, set_map_b, app_map_i, getElem?_some_of, Int.natCast_nonneg, Bool.false_eq_true, decide_true, decide_false, Bool.not_true, Bool.not_false, and_self, eq_self, false_implies, or_self, Bool.and_self, false_or, or_false, Bool.false_and, Bool.true_beq, Bool.false_beq, fit_wk]) | ((with_reducible refine And.intro ?_ ?_); omega) | ((fail_if_success (with_reducible first | refine isHS ?_ | refine isRet ?_ | refine isCall ?_ | refine isNext ?_ | refine isNextP ?_ | refine isThen ?_ | refine isBlock ?_ | refine isOut ?_ | refine isOutN ?_)); (simp only [D.int, D.bool])))
    refine callDr_emb (c_disk_doG e2 B he k b hb) [2] (by kernel_rfl) rfl rfl ?_
    repeat' (first | (with_reducible refine HS.seq ?_) | (with_reducible refine HS.opsK good (fun K hK => ?_)) | (with_reducible refine wpS_app (fun K hK => ?_)) | ((with_reducible refine hK _ ?_); clear hK K) | (with_reducible refine HS.drw good (fun K hK => ?_)) | ((with_reducible refine And.intro (Chk.mk' ?_) ?_); kernel_rfl) | (with_reducible refine HS.block ?_) | ((with_reducible refine HS.cond1 ?_ ?_); rfl) | ((with_reducible refine HS.cond0 ?_ ?_); rfl) | ((with_reducible apply HS.condB) <;> first | rfl | (with_reducible intro h)) | (with_reducible refine HS.exit ?_) | (with_reducible refine HS.ret ?_) | (with_reducible refine HS.skip ?_) | (with_reducible first | refine thenQ_n ?_ | refine blockQ_n ?_ | refine thenQ_r ?_ | refine blockQ_r ?_ | refine thenQ_x ?_ | refine blockQ_hit ?_ | refine endS_r ?_ | refine endS_n ?_) | ((with_reducible refine blockQ_miss ?_ ?_); rfl) | (with_reducible refine Two.mk' (fun h => ?_) (fun h => ?_) <;> try (exfalso; omega)) | ((with_reducible refine Bsel.mk' (fun h => ?_) (fun h => ?_)) <;> (try simp only [h])) | ((fail_if_success (with_reducible first | refine isHS ?_ | refine isRet ?_ | refine isCall ?_ | refine isNext ?_ | refine isNextP ?_ | refine isThen ?_ | refine isBlock ?_ | refine isOut ?_ | refine isOutN ?_)); simp (disch := omega) only [↓LD, LU, loadA_rf, wpS_nil, wpS_a, wpS_n, wpS_g, ↓Bsel_true, ↓Bsel_false, frm_get, frm_getD, frm_set, look_cons, look_nil, List.set_cons_succ, List.set_cons_zero, List.getElem?_cons_succ, List.getElem?_cons_zero, ↓bind'_some, ↓Two_true, ↓Two_false, List.length_cons, List.length_nil, List.cons_append, List.nil_append, List.map_cons, List.map_nil, List.take_succ_cons, List.take_zero, List.drop_succ_cons, List.drop_zero, Option.map_some, Option.map_none, ↓reduceIte, Nat.reduceAdd, Nat.reduceMul, Nat.reduceSub, Nat.reduceLeDiff, Nat.reduceLT, Nat.reduceEqDiff, Nat.add_zero, Nat.zero_add, Nat.mul_one, Int.toNat_natCast, Nat.mul_zero, Nat.zero_mul, true_and, and_true, reduceCtorEq, Int.reduceNeg, Int.reduceLT, Int.reduceLE, Int.reduceEq, Int.reduceToNat, wrap_in, List.getElem?_drop, List.getElem?_map, List.length_map, if_some, most_eq, set_map_b, app_map_i, getElem?_some_of, Int.natCast_nonneg, Bool.false_eq_true, decide_true, decide_false, Bool.not_true, Bool.not_false, and_self, eq_self, false_implies, or_self, Bool.and_self, false_or, or_false, Bool.false_and, Bool.true_beq, Bool.false_beq]) | ((with_reducible refine And.intro ?_ ?_); omega) | ((fail_if_success (with_reducible first | refine isHS ?_ | refine isRet ?_ | refine isCall ?_ | refine isNext ?_ | refine isNextP ?_ | refine isThen ?_ | refine isBlock ?_ | refine isOut ?_ | refine isOutN ?_)); (simp only [D.int, D.bool])))
    exact end0G (ef := ⟨.tp [], [(0, dkB 4 (n + 2) fuse dead works), (1, .map (mF e1)), (2, .map (mF (fDo e2 k b))), (3, .dead)], [.data 79 ((ws ++ [(⟨k, b⟩ : Wk)]).flatMap Wk.cs)]⟩) (by kernel_rfl) ⟨rfl, rfl⟩
end Go.Proofs.Ytjbkckhpoicaeaa.Mir

/- maps.Clone told by its contract. -/
namespace Go.Proofs
open Go.Shelf
def Ytjbkckhpoicaeaa.cloneL_ren : Go.Shelf.Ren := ⟨fun | 5 => 51 | 7 => 66 | n => n, fun | 23 => 73 | 25 => 3 | 3 => 41 | 4 => 4 | 20 => 20 | n => n, fun | n => n⟩
theorem Ytjbkckhpoicaeaa.cloneL : Go.Proofs.SlLaysW.n5 Try.prog Ytjbkckhpoicaeaa.cloneL_ren := {
  mixed := by kernel_rfl
  f5 := ⟨Try.f51.name, by decide, Try.func51.trans (congrArg some (by kernel_rfl))⟩
  f7 := Try.func66.trans (congrArg some (by kernel_rfl))
  t4 := Try.underlying4
  a4 := Try.isAgg4
  z4 := Try.sizeOf4
  v4 := Try.zeroValue4
  t20 := Try.underlying20
  a20 := Try.isAgg20
  z20 := Try.sizeOf20
  v20 := Try.zeroValue20
  t23 := Try.underlying73
  a23 := Try.isAgg73
  z23 := Try.sizeOf73
  v23 := Try.zeroValue73 }

end Go.Proofs
namespace Go.Proofs.Ytjbkckhpoicaeaa.Mir
open Go Go.RowKit Go.Shelf

def cloneG : List D → List Row → Option Eff
  | [.f (.v (.map none))], _ => some ⟨.f (.v (.map none)), [], []⟩
  | [.mp r], H => match H[r]? with
    | some (.map es) => some ⟨.mp H.length, [], [.map es]⟩
    | _ => none
  | _, _ => none

theorem one_arg {P : Program} {w : World} {φ : Nat → Nat × Nat} {A : Nat → Prop} {N : Nat} {d : D} {vs : Array Value} (h : Rs P w φ A N [d] vs.toList) : ∃ u, vs = #[u] ∧ R P w φ A N d u := by
  obtain ⟨l⟩ := vs
  obtain ⟨h1, h2⟩ := h
  match l, h1 with
  | [u], _ => exact ⟨u, rfl, h2 0 d u rfl rfl⟩

theorem clone_ok : Sound Try.prog 51 cloneG := by
  intro args H e hg w φ X vs hH hargs
  unfold cloneG at hg
  split at hg
  · injection hg with hg
    subst hg
    obtain ⟨u, rfl, hu⟩ := one_arg hargs
    cases hu with | f hu => cases hu with | v _ =>
    have hcon := AnyW.maps_Clone_nil Ytjbkckhpoicaeaa.cloneL w
    change Calls Try.prog 51 _ _ _ at hcon
    refine hcon.mono ?_
    rintro e w' ⟨rfl, rfl⟩
    exact ⟨_, rfl, Leaves.quiet hH (.f (.v rfl))⟩
  · rename_i r
    split at hg
    · rename_i es hrow
      injection hg with hg
      subst hg
      obtain ⟨u, rfl, hu⟩ := one_arg hargs
      cases hu with | mp hr =>
      obtain ⟨en, clock, h1, h0, h2, h3⟩ := hH.rows r _ hrow
      have hcon := AnyW.maps_Clone Ytjbkckhpoicaeaa.cloneL (φ r).1 en clock w h1
      change Calls Try.prog 51 _ _ _ at hcon
      refine hcon.mono ?_
      rintro e w' ⟨rfl, rfl⟩
      refine ⟨_, rfl, leaves_more hH _ _ _ _ (fun A hA hk => ⟨⟨en, clock, by rw [ext1_new]; exact alloc_new w _, h0, h2, fun i k d m hd hm => ?_⟩, ?_⟩)⟩
      · obtain ⟨g1, g2, g3⟩ := h3 i k d m hd hm
        exact ⟨g1, g2.keep hk (fun _ h => h.elim) hA (fun s hs => ext1_old hs) (Nat.le_succ _), g3⟩
      · have := R.mp (P := Try.prog) (w := w.alloc (.map en clock)) (φ := ext1 φ H.length (w.heap.size, 0)) (A := A) (N := H.length + 1) (r := H.length) (by omega)
        rw [ext1_new] at this
        exact this
    · cases hg
  · cases hg
end Go.Proofs.Ytjbkckhpoicaeaa.Mir
