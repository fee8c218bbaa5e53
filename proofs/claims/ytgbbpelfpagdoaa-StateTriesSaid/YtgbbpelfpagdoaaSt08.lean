/- Texts laid into one file: T, V, By, CEvent, Ev, CDag, DagA, EvR. -/
import Derived.Test.YtgbbpelfpagdoaaSt07

set_option linter.unusedVariables false
set_option linter.unusedSimpArgs false
/- Plain things as the machine holds them: lists of ints, of bools, graphs. -/
namespace Go.Proofs.Ytgbbpelfpagdoaa.Mir
open Go Go.RowKit

theorem isHS {P : Program} {n : Nat} {c : SCode} {s : St} {Q : Out → St → Prop} (h : HS P n c s Q) : HS P n c s Q := h
theorem isRet {n : Nat} {l : List SR} {Q : D → List Row → Prop} {s : St} (h : RetS n l Q s) : RetS n l Q s := h
theorem isCall {P : Program} {f : D} {l : List D} {H : List Row} {K : D → List Row → Prop} (h : callW P f l H K) : callW P f l H K := h
theorem isNext {n0 : Nat} {keep : List Nat} {α : Type} {st : α → St} {p : α → Prop} {m : α → Nat} {x : α} {s : St} (h : Next n0 keep st p m x s) : Next n0 keep st p m x s := h
theorem isThen {next : St → Prop} {Q : Out → St → Prop} {o : Out} {s : St} (h : thenQ next Q o s) : thenQ next Q o s := h
theorem isBlock {i : Nat} {Q : Out → St → Prop} {o : Out} {s : St} (h : blockQ i Q o s) : blockQ i Q o s := h
theorem if_some {α : Type} {c : Prop} [Decidable c] {a : α} (h : c) : (if c then some a else none) = some a := if_pos h
theorem isNextP {n : Nat} {α : Type} {st : α → List (Nat × D)} {hs : α → List Row} {p : α → Prop} {m : α → Nat} {x : α} {s : St} (h : NextP n st hs p m x s) : NextP n st hs p m x s := h
abbrev iF (n : Int) : F := .v (.int .i64 n)
abbrev bF (b : Bool) : F := .v (.bool b)
def fI (l : List Int) : F := .s (l.map iF) l.length
def fB (l : List Bool) : F := .s (l.map bF) l.length
theorem set_map_b {l : List Bool} {i : Nat} {b : Bool} : (l.map bF).set i (.v (.bool b)) = (l.set i b).map bF := by rw [List.map_set]
theorem app_map_i {l : List Int} {z : Int} : l.map iF ++ [.v (.int .i64 z)] = (l ++ [z]).map iF := by rw [List.map_append]; rfl
theorem most_eq : most = 140737488355328 := id rfl
theorem plain_ints (l : List Int) : ∀ x ∈ l.map iF, PlainF x := fun x hx => by
  obtain ⟨n, _, rfl⟩ := List.mem_map.1 hx
  exact .v

/-- Elements of so many cells each. -/
theorem flat_at {α : Type} [Inhabited α] {cs : α → List F} {n : Nat} (hn : ∀ x, (cs x).length = n) {l : List α} {k j : Nat} (hk : k < l.length) (hj : j < n) : (l.flatMap cs)[k * n + j]? = (cs (gt l k))[j]? := by
  rw [gt_eq hk]
  exact (flat_getF cs n hn l k hk j hj)
where
  flat_getF {α : Type} (f : α → List F) (n : Nat) (hf : ∀ x, (f x).length = n) : ∀ (xs : List α) (k : Nat) (hk : k < xs.length) (i : Nat), i < n → (xs.flatMap f)[k * n + i]? = (f xs[k])[i]?
    | [], k, hk, _, _ => by simp at hk
    | x :: xs, 0, _, i, hi => by
      rw [List.flatMap_cons, Nat.zero_mul, Nat.zero_add, List.getElem?_append_left (by rw [hf]; exact hi)]; rfl
    | x :: xs, k + 1, hk, i, hi => by
      rw [List.flatMap_cons, List.getElem?_append_right (by rw [hf, Nat.add_mul]; omega), hf, show (k + 1) * n + i - n = k * n + i by rw [Nat.add_mul]; omega]
      exact flat_getF f n hf xs k (by simpa using hk) i hi
theorem flat_len' {α : Type} {cs : α → List F} {n : Nat} (hn : ∀ x, (cs x).length = n) (l : List α) : (l.flatMap cs).length = l.length * n := by
  induction l with
  | nil => simp
  | cons x l ih => rw [List.flatMap_cons, List.length_append, hn, ih, List.length_cons, Nat.add_mul]; omega
theorem flat_take {α : Type} [Inhabited α] {cs : α → List F} {n : Nat} (hn : ∀ x, (cs x).length = n) {l : List α} {k : Nat} (hk : k < l.length) : ((l.flatMap cs).drop (k * n)).take n = cs (gt l k) := by
  apply List.ext_getElem?
  intro j
  rw [List.getElem?_take]
  split
  · rename_i hj
    rw [List.getElem?_drop, flat_at hn hk hj]
  · rw [List.getElem?_eq_none (by rw [hn]; omega)]
theorem flat_loadA {α : Type} [Inhabited α] {cs : α → List F} {n : Nat} (hn : ∀ x, (cs x).length = n) {H : List Row} {l : List α} {k : Nat} (hk : k < l.length) : loadA H n (.rf ((l.flatMap cs).drop (k * n))) = some (.ag ((cs (gt l k)).map .f)) := by
  have hl := flat_len' hn l
  have : (k + 1) * n ≤ l.length * n := Nat.mul_le_mul_right n hk
  rw [Nat.add_mul] at this
  rw [loadA_rf, if_pos (by rw [List.length_drop, hl]; omega), ← flat_take hn hk, List.map_take]
theorem flat_drop {α : Type} {cs : α → List F} {n : Nat} (hn : ∀ x, (cs x).length = n) : ∀ (l : List α) (k : Nat), (l.flatMap cs).drop (k * n) = (l.drop k).flatMap cs
  | l, 0 => by simp
  | [], k + 1 => by simp
  | x :: l, k + 1 => by
    rw [List.flatMap_cons, List.drop_succ_cons, ← flat_drop hn l k, Nat.add_mul, Nat.one_mul, Nat.add_comm, ← List.drop_drop, List.drop_left' (hn x)]

/-- A node. -/
structure Nd where
  ns : List Int
  tr : Int
  le : Int
  deriving Inhabited, DecidableEq
def Nd.cs (d : Nd) : List F := [fI d.ns, iF d.tr, iF d.le]
theorem Nd.cs_len (d : Nd) : d.cs.length = 3 := rfl
theorem nd_cs {d : Nd} : d.cs = [fI d.ns, iF d.tr, iF d.le] := id rfl
def fG (g : List Nd) : F := .s (g.flatMap Nd.cs) g.length
theorem nd_load {H : List Row} {g : List Nd} {k : Nat} (hk : k < g.length) : loadA H 3 (.rf ((g.flatMap Nd.cs).drop (k * 3))) = some (.ag ((Nd.cs (gt g k)).map .f)) := flat_loadA Nd.cs_len hk
theorem nd_at0 {g : List Nd} {k : Nat} (hk : k < g.length) : (g.flatMap Nd.cs)[k * 3]? = some (fI (gt g k).ns) := flat_at (j := 0) Nd.cs_len hk (by omega)
theorem nd_at1 {g : List Nd} {k : Nat} (hk : k < g.length) : (g.flatMap Nd.cs)[k * 3 + 1]? = some (iF (gt g k).tr) := flat_at (j := 1) Nd.cs_len hk (by omega)
theorem nd_at2 {g : List Nd} {k : Nat} (hk : k < g.length) : (g.flatMap Nd.cs)[k * 3 + 2]? = some (iF (gt g k).le) := flat_at (j := 2) Nd.cs_len hk (by omega)
/-- A nil slice in a box is looked at as a list without elements. -/
theorem View.nil0 {P : Program} {n0 : Nat} {ts : List D} {H : List Row} {dr : List Nat} {r i : Nat} {T : TypeId} {xs : List D} (hH : H[r]? = some (.box T xs)) (hx : xs[i]? = some (.f (.v (.slice none 0 0)))) :
    View P n0 ⟨ts, H, dr⟩ ⟨ts, H.set r (.box T (xs.set i (.f (.s [] 0)))), []⟩ := by
  intro X w0 φ0 H0 w φ a _ hr
  have hlt : r < H.length := (List.getElem?_eq_some_iff.1 hH).1
  have hget : ∀ (q : Nat) (row : Row), (H.set r (.box T (xs.set i (.f (.s [] 0)))))[q]? = some row → (q = r ∧ row = .box T (xs.set i (.f (.s [] 0)))) ∨ H[q]? = some row := by
    intro q row h
    rw [List.getElem?_set] at h
    split at h
    · rename_i e; subst e
      try rw [if_pos hlt] at h
      exact .inl ⟨rfl, (Option.some.inj h).symm⟩
    · exact .inr h
  have hback : ∀ (q : Nat) (row : Row), H[q]? = some row → ∃ row' : Row, (H.set r (.box T (xs.set i (.f (.s [] 0)))))[q]? = some row' ∧ row'.live = row.live := by
    intro q row h
    rw [List.getElem?_set]
    split
    · rename_i e; subst e
      try rw [if_pos hlt]
      rw [hH] at h
      cases h
      exact ⟨_, rfl, rfl⟩
    · exact ⟨row, h, rfl⟩
  have hlive : ∀ b, Live φ (H.set r (.box T (xs.set i (.f (.s [] 0))))) b ↔ Live φ H b := by
    intro b
    constructor
    · rintro ⟨q, row, h1, h2, h3⟩
      rcases hget q row h1 with ⟨rfl, rfl⟩ | h
      · exact ⟨q, _, hH, rfl, h3⟩
      · exact ⟨q, row, h, h2, h3⟩
    · rintro ⟨q, row, h1, h2, h3⟩
      obtain ⟨row', h4, h5⟩ := hback q row h1
      exact ⟨q, row', h4, by rw [h5]; exact h2, h3⟩
  have hav : Av X φ (H.set r (.box T (xs.set i (.f (.s [] 0))))) = Av X φ H := funext fun b => propext (or_congr Iff.rfl (hlive b))
  have hlen : (H.set r (.box T (xs.set i (.f (.s [] 0))))).length = H.length := List.length_set
  refine ⟨φ, ⟨⟨?_, ?_, ?_, hr.sim.heap.old, fun p hp => by rw [hav]; exact hr.sim.heap.gl p hp⟩, ?_, hr.sim.defers⟩, ⟨?_, hr.ons.same, hr.ons.keep, fun b h => hr.ons.fresh b ((hlive b).1 h)⟩⟩
  · intro q row h
    dsimp only at h ⊢
    rw [hav, hlen]
    rcases hget q row h with ⟨rfl, rfl⟩ | h
    · obtain ⟨h0, cs, hc, ⟨hl, hg⟩, hone⟩ := hr.sim.heap.rows q _ hH
      refine ⟨h0, cs, hc, ⟨by rw [List.length_set]; exact hl, fun j d u hd hu => ?_⟩, hone⟩
      rw [List.getElem?_set] at hd
      split at hd
      · rename_i e; subst e
        have hd : some (D.f (.s [] 0)) = some d := by first | exact hd | (split at hd <;> first | exact hd | cases hd)
        cases hd
        have := hg i _ u hx hu
        cases this with | f h => cases h with | v _ => exact .f .s0
      · exact hg j d u hd hu
    · exact hr.sim.heap.rows q row h
  · intro q s row row' h1 h2 h3 h4 h5
    have k : ∀ (q : Nat) (row : Row), (H.set r (.box T (xs.set i (.f (.s [] 0)))))[q]? = some row → row.live = true → ∃ row0, H[q]? = some row0 ∧ row0.live = true := by
      intro q row h hl
      rcases hget q row h with ⟨rfl, rfl⟩ | h
      · exact ⟨_, hH, rfl⟩
      · exact ⟨row, h, hl⟩
    obtain ⟨a1, b1, c1⟩ := k q row h1 h3
    obtain ⟨a2, b2, c2⟩ := k s row' h2 h4
    exact hr.sim.heap.apart q s a1 a2 b1 b2 c1 c2 h5
  · intro q row h1 h3
    rcases hget q row h1 with ⟨rfl, rfl⟩ | h
    · exact hr.sim.heap.off q _ hH rfl
    · exact hr.sim.heap.off q row h h3
  · dsimp only
    rw [hav, hlen]
    exact hr.sim.tmps
  · dsimp only
    rw [hlen]
    exact hr.ons.len
/-- A nil slice in a row of data is looked at as a list without elements. -/
theorem View.nild {P : Program} {n0 : Nat} {ts : List D} {H : List Row} {dr : List Nat} {r i : Nat} {T : TypeId} {xs : List F} (hH : H[r]? = some (.data T xs)) (hx : xs[i]? = some (.v (.slice none 0 0))) :
    View P n0 ⟨ts, H, dr⟩ ⟨ts, H.set r (.data T (xs.set i (.s [] 0))), []⟩ := by
  intro X w0 φ0 H0 w φ a _ hr
  have hlt : r < H.length := (List.getElem?_eq_some_iff.1 hH).1
  have hne : xs ≠ [] := fun e => by subst e; simp at hx
  have hl0 : (Row.data T xs).live = true := live_data hne
  have hl1 : (Row.data T (xs.set i (.s [] 0))).live = true := live_data (fun e => hne (by simpa using e))
  have hget : ∀ (q : Nat) (row : Row), (H.set r (.data T (xs.set i (.s [] 0))))[q]? = some row → (q = r ∧ row = .data T (xs.set i (.s [] 0))) ∨ H[q]? = some row := by
    intro q row h
    rw [List.getElem?_set] at h
    split at h
    · rename_i e; subst e
      try rw [if_pos hlt] at h
      exact .inl ⟨rfl, (Option.some.inj h).symm⟩
    · exact .inr h
  have hback : ∀ (q : Nat) (row : Row), H[q]? = some row → ∃ row' : Row, (H.set r (.data T (xs.set i (.s [] 0))))[q]? = some row' ∧ row'.live = row.live := by
    intro q row h
    rw [List.getElem?_set]
    split
    · rename_i e; subst e
      try rw [if_pos hlt]
      rw [hH] at h
      cases h
      exact ⟨_, rfl, hl1.trans hl0.symm⟩
    · exact ⟨row, h, rfl⟩
  have hlive : ∀ b, Live φ (H.set r (.data T (xs.set i (.s [] 0)))) b ↔ Live φ H b := by
    intro b
    constructor
    · rintro ⟨q, row, h1, h2, h3⟩
      rcases hget q row h1 with ⟨rfl, rfl⟩ | h
      · exact ⟨q, _, hH, hl0, h3⟩
      · exact ⟨q, row, h, h2, h3⟩
    · rintro ⟨q, row, h1, h2, h3⟩
      obtain ⟨row', h4, h5⟩ := hback q row h1
      exact ⟨q, row', h4, by rw [h5]; exact h2, h3⟩
  have hav : Av X φ (H.set r (.data T (xs.set i (.s [] 0)))) = Av X φ H := funext fun b => propext (or_congr Iff.rfl (hlive b))
  have hlen : (H.set r (.data T (xs.set i (.s [] 0)))).length = H.length := List.length_set
  refine ⟨φ, ⟨⟨?_, ?_, ?_, hr.sim.heap.old, fun p hp => by rw [hav]; exact hr.sim.heap.gl p hp⟩, ?_, hr.sim.defers⟩, ⟨?_, hr.ons.same, hr.ons.keep, fun b h => hr.ons.fresh b ((hlive b).1 h)⟩⟩
  · intro q row h
    dsimp only at h ⊢
    rw [hav, hlen]
    rcases hget q row h with ⟨rfl, rfl⟩ | h
    · obtain ⟨pre, us, post, hc, hp, ⟨hl, hg⟩⟩ := hr.sim.heap.rows q _ hH hne
      refine fun _ => ⟨pre, us, post, hc, hp, ⟨by rw [List.length_set]; exact hl, fun j d u hd hu => ?_⟩⟩
      rw [List.getElem?_set] at hd
      split at hd
      · rename_i e; subst e
        have hd : some (F.s [] 0) = some d := by first | exact hd | (split at hd <;> first | exact hd | cases hd)
        cases hd
        have := hg i _ u hx hu
        cases this with | v _ => exact .s0
      · exact hg j d u hd hu
    · exact hr.sim.heap.rows q row h
  · intro q s row row' h1 h2 h3 h4 h5
    have k : ∀ (q : Nat) (row : Row), (H.set r (.data T (xs.set i (.s [] 0))))[q]? = some row → row.live = true → ∃ row0, H[q]? = some row0 ∧ row0.live = true := by
      intro q row h hl
      rcases hget q row h with ⟨rfl, rfl⟩ | h
      · exact ⟨_, hH, hl0⟩
      · exact ⟨row, h, hl⟩
    obtain ⟨a1, b1, c1⟩ := k q row h1 h3
    obtain ⟨a2, b2, c2⟩ := k s row' h2 h4
    exact hr.sim.heap.apart q s a1 a2 b1 b2 c1 c2 h5
  · intro q row h1 h3
    rcases hget q row h1 with ⟨rfl, rfl⟩ | h
    · exact hr.sim.heap.off q _ hH hl0
    · exact hr.sim.heap.off q row h h3
  · dsimp only
    rw [hav, hlen]
    exact hr.sim.tmps
  · dsimp only
    rw [hlen]
    exact hr.ons.len
/-- The end of a part of the code, told. -/
def OutN (P : Program) (n0 : Nat) {α : Type} (st : α → St) (p : α → Prop) (o : Out) (s : St) : Prop := o = .normal ∧ ∃ y, View P n0 s (st y) ∧ p y
theorem OutN.mk {P : Program} {n0 : Nat} {α : Type} {st : α → St} {p : α → Prop} {s : St} (keep : List Nat) (y : α) (h : sweepW n0 keep s = some (st y)) (hp : p y) : OutN P n0 st p .normal s := ⟨rfl, y, View.sweep h, hp⟩
theorem OutN.via {P : Program} {n0 : Nat} {α : Type} {st : α → St} {p : α → Prop} {s s1 : St} (keep : List Nat) (y : α) (h : sweepW n0 keep s = some s1) (hv : View P n0 s1 (st y)) (hp : p y) : OutN P n0 st p .normal s := ⟨rfl, y, (View.sweep h).trans hv, hp⟩
theorem isOutN {P : Program} {n0 : Nat} {α : Type} {st : α → St} {p : α → Prop} {o : Out} {s : St} (h : OutN P n0 st p o s) : OutN P n0 st p o s := h
theorem HS.cutn {P : Program} {n0 : Nat} {c : SCode} {s : St} {Q : Out → St → Prop} {α : Type} (st : α → St) (p : α → Prop) (h1 : HS P n0 c s (OutN P n0 st p)) (h2 : ∀ y, p y → ∀ s', View P n0 s' (st y) → Q .normal s') : HS P n0 c s Q :=
  h1.mono fun o s' ⟨ho, y, hs, hp⟩ => by rw [ho]; exact h2 y hp s' hs
/-- A loop's end, told: the code behind it is walked apart. -/
def OutS (n0 : Nat) (keep : List Nat) (i : Nat) {α : Type} (st : α → St) (p : α → Prop) (o : Out) (s : St) : Prop := o = .exit i ∧ ∃ y, sweepW n0 keep s = some (st y) ∧ p y
theorem OutS.mk {n0 : Nat} {keep : List Nat} {i : Nat} {α : Type} {st : α → St} {p : α → Prop} {s : St} (y : α) (h : sweepW n0 keep s = some (st y)) (hp : p y) : OutS n0 keep i st p (.exit i) s := ⟨rfl, y, h, hp⟩
theorem isOut {n0 : Nat} {keep : List Nat} {i : Nat} {α : Type} {st : α → St} {p : α → Prop} {o : Out} {s : St} (h : OutS n0 keep i st p o s) : OutS n0 keep i st p o s := h
theorem HS.cut {P : Program} {n0 : Nat} {c : SCode} {s : St} {Q : Out → St → Prop} (keep : List Nat) (i : Nat) {α : Type} (st : α → St) (p : α → Prop) (h1 : HS P n0 c s (OutS n0 keep i st p)) (h2 : ∀ y, p y → ∀ s', View P n0 s' (st y) → Q (.exit i) s') : HS P n0 c s Q :=
  h1.mono fun o s' ⟨ho, y, hs, hp⟩ => by rw [ho]; exact h2 y hp s' (View.sweep hs)
/- A drawn region, one operation at a time (mac.py: GOD). -/
theorem wpDr_aK {P : Program} {b : List Nat} {n0 i t n : Nat} {o : SOp} {l : List SI} {own : List Nat} {log : List (List Nat × List Nat)} {e : List (Nat × D)} {H : List Row} {dr : List Nat} {K : St → Prop}
    (h : ∀ N : List Nat → List (List Nat × List Nat) → D → List Row → Prop, (∀ own1 log1 d H1, wpDr P b n0 l (i + 1) own1 log1 ⟨frm n ((t, d) :: e), H1, []⟩ K → N own1 log1 d H1) → drStep P b own n0 i log o (viewS (frm n e) H o) (frm n e) H N) : wpDr P b n0 (.a t o :: l) i own log ⟨frm n e, H, dr⟩ K := by
  rw [wpDr_a]; exact h _ fun _ _ _ _ h => by rw [frm_set]; exact h
theorem wpDr_nK {P : Program} {b : List Nat} {n0 i n : Nat} {o : SOp} {l : List SI} {own : List Nat} {log : List (List Nat × List Nat)} {e : List (Nat × D)} {H : List Row} {dr : List Nat} {K : St → Prop}
    (h : ∀ N : List Nat → List (List Nat × List Nat) → D → List Row → Prop, (∀ own1 log1 d H1, wpDr P b n0 l (i + 1) own1 log1 ⟨frm n e, H1, []⟩ K → N own1 log1 d H1) → drStep P b own n0 i log o (viewS (frm n e) H o) (frm n e) H N) : wpDr P b n0 (.n o :: l) i own log ⟨frm n e, H, dr⟩ K := by
  rw [wpDr_n]; exact h _ fun _ _ _ _ h => h
theorem wpDr_gK {P : Program} {b : List Nat} {n0 i t n u : Nat} {w : Bool} {o : SOp} {l : List SI} {own : List Nat} {log : List (List Nat × List Nat)} {e : List (Nat × D)} {H : List Row} {dr : List Nat} {K : St → Prop}
    (h : ∀ (N : List Nat → List (List Nat × List Nat) → D → List Row → Prop) (M : Prop), (∀ own1 log1 r H1, wpDr P b n0 l (i + 1) own1 log1 ⟨frm n ((u, r) :: e), H1, []⟩ K → N own1 log1 r H1) → (wpDr P b n0 l (i + 1) own (log ++ [([], [])]) ⟨frm n ((u, D.undef) :: e), H, []⟩ K → M) →
      wantV (frm n e)[t]? w (drStep P b own n0 i log o (viewS (frm n e) H o) (frm n e) H N) M) : wpDr P b n0 (.g (some u) o t w :: l) i own log ⟨frm n e, H, dr⟩ K := by
  rw [wpDr_g]; exact h _ _ (fun _ _ _ _ h => by rw [show putD! (frm n e) (some u) _ = (frm n e).set u _ from rfl, frm_set]; exact h) fun h => by rw [show putD! (frm n e) (some u) _ = (frm n e).set u _ from rfl, frm_set]; exact h
abbrev Bs := List UInt8
abbrev uF (b : UInt8) : F := .v (.int .u8 (b.toNat : Nat))
def fY (l : List UInt8) : F := .s (l.map uF) l.length
def BB (l : List UInt8) : ByteArray := ⟨l.toArray⟩
theorem app_bytes {l m : List UInt8} {x : UInt8} : l.map uF ++ uF x :: m.map uF = (l ++ x :: m).map uF := by simp
theorem plain_bytes (l : List UInt8) : ∀ x ∈ l.map uF, PlainF x := fun x hx => by
  obtain ⟨n, _, rfl⟩ := List.mem_map.1 hx
  exact .v
theorem elemsS_fY {H : List Row} {a : List UInt8} : elemsS H 1 (.f (fY a)) = some (a.length, a.map uF) := id rfl
theorem bytes_map : ∀ a : List UInt8, bytesOf? ((a.map uF).map .f) = some a
  | [] => rfl
  | x :: a => by
    have ih := bytes_map a
    simp only [List.map_cons, bytesOf?, ih, Option.map_some]
    simp
theorem bb_data {l : Bs} : (BB l).data.toList = l := rfl
theorem bb_len {l : Bs} : (BB l).size = l.length := rfl
theorem bb_inj {a b : Bs} : (BB a = BB b) = (a = b) := by
  apply propext
  constructor
  · intro h
    have := congrArg (fun x : ByteArray => x.data.toList) h
    exact this
  · intro h; rw [h]
theorem bb_nil {a : Bs} : (BB a = ⟨#[]⟩) = (a = []) := bb_inj (b := [])
theorem slcS_fG {g : List Nd} : slcS (.f (fG g)) = some g.length := id rfl
theorem idxS_fG {g : List Nd} {sz : Nat} {k : IntKind} {i : Int} {K : D → Prop} : idxS sz (.f (fG g)) (.f (.v (.int k i))) K = ((0 ≤ i ∧ i < g.length) ∧ K (.rf ((g.flatMap Nd.cs).drop (i.toNat * sz)))) := id rfl
theorem elemsS_fG {H : List Row} {g : List Nd} {sz : Nat} : elemsS H sz (.f (fG g)) = some (g.length, g.flatMap Nd.cs) := id rfl
theorem slcS_fY {g : Bs} : slcS (.f (fY g)) = some g.length := id rfl
theorem idxS_fY {g : Bs} {sz : Nat} {k : IntKind} {i : Int} {K : D → Prop} : idxS sz (.f (fY g)) (.f (.v (.int k i))) K = ((0 ≤ i ∧ i < g.length) ∧ K (.rf ((g.map uF).drop (i.toNat * sz)))) := id rfl
theorem elemsS_fY' {H : List Row} {g : Bs} {sz : Nat} : elemsS H sz (.f (fY g)) = some (g.length, g.map uF) := id rfl
theorem slcS_fI {g : List Int} : slcS (.f (fI g)) = some g.length := id rfl
theorem idxS_fI {g : List Int} {sz : Nat} {k : IntKind} {i : Int} {K : D → Prop} : idxS sz (.f (fI g)) (.f (.v (.int k i))) K = ((0 ≤ i ∧ i < g.length) ∧ K (.rf ((g.map iF).drop (i.toNat * sz)))) := id rfl
theorem elemsS_fI {H : List Row} {g : List Int} {sz : Nat} : elemsS H sz (.f (fI g)) = some (g.length, g.map iF) := id rfl
theorem slcS_fB {g : List Bool} : slcS (.f (fB g)) = some g.length := id rfl
theorem idxS_fB {g : List Bool} {sz : Nat} {k : IntKind} {i : Int} {K : D → Prop} : idxS sz (.f (fB g)) (.f (.v (.int k i))) K = ((0 ≤ i ∧ i < g.length) ∧ K (.rf ((g.map bF).drop (i.toNat * sz)))) := id rfl
theorem elemsS_fB {H : List Row} {g : List Bool} {sz : Nat} : elemsS H sz (.f (fB g)) = some (g.length, g.map bF) := id rfl
/-- Is it nil? Of a list without elements nobody may know. -/
def Nz (n : Nat) (p q : Prop) : Prop := (n = 0 → p) ∧ q
@[congr] theorem Nz_congr {n n' : Nat} {p q : Prop} (h : n = n') : Nz n p q = Nz n' p q := by rw [h]
theorem nilq_fT {k : Nat} {xs : List F} {n : Nat} {K : Bool → Prop} : nilqS k (.f (.s xs n)) (.f (.v (.slice none 0 0))) K = (k = 0 ∧ Nz n (K true) (K false)) := id rfl
theorem nilq_fY {k : Nat} {g : Bs} {K : Bool → Prop} : nilqS k (.f (fY g)) (.f (.v (.slice none 0 0))) K = (k = 0 ∧ Nz g.length (K true) (K false)) := id rfl
theorem nilq_fG {k : Nat} {g : List Nd} {K : Bool → Prop} : nilqS k (.f (fG g)) (.f (.v (.slice none 0 0))) K = (k = 0 ∧ Nz g.length (K true) (K false)) := id rfl
theorem nilq_fI {k : Nat} {g : List Int} {K : Bool → Prop} : nilqS k (.f (fI g)) (.f (.v (.slice none 0 0))) K = (k = 0 ∧ Nz g.length (K true) (K false)) := id rfl
theorem nilq_slT {k r o n : Nat} {K : Bool → Prop} : nilqS k (.sl r o n) (.f (.v (.slice none 0 0))) K = (k = 0 ∧ Nz n (K true) (K false)) := id rfl
theorem LT : ((((type_of% @if_some ∧ (type_of% @most_eq ∧ type_of% @set_map_b)) ∧ (type_of% @app_map_i ∧ (type_of% @bb_data ∧ type_of% @bb_len))) ∧ ((type_of% @bb_inj ∧ (type_of% @bb_nil ∧ type_of% @slcS_fG)) ∧ (type_of% @idxS_fG ∧ (type_of% @elemsS_fG ∧ type_of% @slcS_fY)))) ∧ (((type_of% @idxS_fY ∧ (type_of% @elemsS_fY' ∧ type_of% @slcS_fI)) ∧ (type_of% @idxS_fI ∧ (type_of% @elemsS_fI ∧ type_of% @slcS_fB))) ∧ ((type_of% @idxS_fB ∧ (type_of% @elemsS_fB ∧ type_of% @nilq_fT)) ∧ ((type_of% @nilq_fY ∧ type_of% @nilq_fG) ∧ (type_of% @nilq_fI ∧ type_of% @nilq_slT))))) :=
  ⟨⟨⟨⟨@if_some, ⟨@most_eq, @set_map_b⟩⟩, ⟨@app_map_i, ⟨@bb_data, @bb_len⟩⟩⟩, ⟨⟨@bb_inj, ⟨@bb_nil, @slcS_fG⟩⟩, ⟨@idxS_fG, ⟨@elemsS_fG, @slcS_fY⟩⟩⟩⟩, ⟨⟨⟨@idxS_fY, ⟨@elemsS_fY', @slcS_fI⟩⟩, ⟨@idxS_fI, ⟨@elemsS_fI, @slcS_fB⟩⟩⟩, ⟨⟨@idxS_fB, ⟨@elemsS_fB, @nilq_fT⟩⟩, ⟨⟨@nilq_fY, @nilq_fG⟩, ⟨@nilq_fI, @nilq_slT⟩⟩⟩⟩⟩
/-- A slot's list is laid down for good. -/
theorem View.fix {P : Program} {n0 : Nat} {ts : List D} {H : List Row} {dr : List Nat} {i : Nat} {d : D} {x : F} {us : List (Nat × Row)} (ht : ts[i]? = some d) (hf : freeze1 P H d = some (x, us)) :
    View P n0 ⟨ts, H, dr⟩ ⟨ts.set i (.f x), applyUpd H us, []⟩ := by
  intro X w0 φ0 H0 w φ a _ hr
  have hv : ∃ u, a.tmps.toList[i]? = some u := by
    have h1 := hr.sim.tmps.1
    have h2 : i < ts.length := (List.getElem?_eq_some_iff.1 ht).1
    exact ⟨a.tmps.toList[i]'(by dsimp only at h1; omega), by simp⟩
  obtain ⟨u, hu⟩ := hv
  obtain ⟨h1, h2⟩ := freeze1_ok hr.sim.heap (hr.sim.tmps.2 i d u ht hu) hf
  refine ⟨φ, ⟨⟨h1.ok, ⟨?_, fun j d' u' hd hu' => ?_⟩, hr.sim.defers⟩, ⟨?_, hr.ons.same, hr.ons.keep, fun b hb => hr.ons.fresh b (h1.live b hb)⟩⟩⟩
  · dsimp only; rw [List.length_set]; exact hr.sim.tmps.1
  · dsimp only at hd ⊢
    rw [h1.len]
    rw [List.getElem?_set] at hd
    split at hd
    · rename_i e; subst e
      have hx : D.f x = d' := by split at hd <;> first | exact Option.some.inj hd | cases hd
      subst hx
      rw [hu] at hu'
      cases hu'
      exact .f h2
    · exact (hr.sim.tmps.2 j d' u' hd hu').keep (L := fun _ => False) (Keep.refl _ _) (fun _ h => h.elim) h1.av (fun _ _ => rfl) (Nat.le_refl _)
  · dsimp only; rw [h1.len]; exact hr.ons.len
theorem fix_data {P : Program} {H : List Row} {r m k b : Nat} {T : TypeId} {xs : List F} {z : List Value} (hr : H[r]? = some (.data T xs)) (hi : inf P T = some (k, b, z)) (hm : m ≠ 0) (hn : xs.length = m * k) (hk : 0 < k) :
    freeze1 P H (.sl r 0 m) = some (.s xs m, [(r, .froz T xs)]) := by
  have h2 : 0 + m * k ≤ xs.length ∧ 0 < k := ⟨by omega, hk⟩
  have h3 : (xs.drop 0).take (m * k) = xs := by rw [List.drop_zero, ← hn, List.take_length]
  simp only [freeze1, hr, hi, h3, if_neg hm, if_pos h2]
theorem fix_froz {P : Program} {H : List Row} {r m k b : Nat} {T : TypeId} {xs : List F} {z : List Value} (hr : H[r]? = some (.froz T xs)) (hi : inf P T = some (k, b, z)) (hm : m ≠ 0) (hn : xs.length = m * k) :
    freeze1 P H (.sl r 0 m) = some (.s xs m, []) := by
  have h2 : 0 + m * k ≤ xs.length := by omega
  have h3 : (xs.drop 0).take (m * k) = xs := by rw [List.drop_zero, ← hn, List.take_length]
  simp only [freeze1, hr, hi, h3, if_neg hm, if_pos h2]
/-- A slot's row is laid down for good. -/
theorem View.frz {P : Program} {n0 n : Nat} {e : List (Nat × D)} {H : List Row} {dr : List Nat} (i : Nat) {r m k b : Nat} {T : TypeId} {xs : List F} {z : List Value} (ht : look i e = .sl r 0 m) (hr : H[r]? = some (.data T xs)) (hi : inf P T = some (k, b, z)) (hm : m ≠ 0) (hn : xs.length = m * k) (hin : i < n) (hk : 0 < k) :
    View P n0 ⟨Mir.frm n e, H, dr⟩ ⟨Mir.frm n ((i, .f (.s xs m)) :: e), H.set r (.froz T xs), []⟩ := by
  have := View.fix (P := P) (n0 := n0) (dr := dr) (ts := Mir.frm n e) (i := i) (d := .sl r 0 m) (by rw [frm_get hin, ht]) (fix_data hr hi hm hn hk)
  rw [frm_set] at this
  exact this
/- Short names, for the tactic texts. -/
theorem r1 : type_of% @HS.seq := @HS.seq
theorem r2 : type_of% @HS.block := @HS.block
theorem r3 : type_of% @HS.exit := @HS.exit
theorem r4 : type_of% @HS.ret := @HS.ret
theorem r5 : type_of% @HS.skip := @HS.skip
theorem r6 : type_of% @thenQ_n := @thenQ_n
theorem r7 : type_of% @blockQ_n := @blockQ_n
theorem r8 : type_of% @thenQ_r := @thenQ_r
theorem r9 : type_of% @blockQ_r := @blockQ_r
theorem rA : type_of% @thenQ_x := @thenQ_x
theorem rB : type_of% @blockQ_hit := @blockQ_hit
theorem rC : type_of% @endS_r := @endS_r
theorem rD : type_of% @endS_n := @endS_n
theorem s1 : type_of% @isHS := @isHS
theorem s2 : type_of% @isRet := @isRet
theorem s3 : type_of% @isCall := @isCall
theorem s4 : type_of% @isNext := @isNext
theorem s5 : type_of% @isNextP := @isNextP
theorem s6 : type_of% @isThen := @isThen
theorem s7 : type_of% @isBlock := @isBlock
theorem s8 : type_of% @isOut := @isOut
theorem s9 : type_of% @isOutN := @isOutN
theorem rK {n0 : Nat} {s : St} {Q : Out → St → Prop} {l : List SI} (h : ∀ K : St → Prop, (∀ s', Q .normal s' → K s') → wpS Try.prog l s K) : HS Try.prog n0 (.ops l) s Q := HS.opsK good h
theorem rL {n0 : Nat} {s : St} {Q : Out → St → Prop} {l : List SI} {b : List Nat} (h : ∀ K : St → Prop, (∀ s', Q .normal s' → K s') → wpDr Try.prog b s.H.length l 0 [] [] s K) : HS Try.prog n0 (.drw l b) s Q := HS.drw good h
/- The same by instances, so that the tactic texts are short: `Wa`: one goal for one; `Wb`: with the code behind kept apart; `Wt`, `Wu`: two ways; `Wz`: where a walk stands still. -/
class Wa (p : Prop) (q : outParam Prop) : Prop where h : q → p
class Wr (p : Prop) (q : outParam Prop) : Prop where h : q → p
class Ws (p : Prop) (q : outParam Prop) : Prop where h : q → p
class Wb (p : Prop) (α : outParam Type) (a : outParam (α → Prop)) (q : outParam (α → Prop)) : Prop where h : (∀ x, a x → q x) → p
class We (p : Prop) (α : outParam Type) (a : outParam (α → Prop)) (q : outParam (α → Prop)) : Prop where h : (∀ x, a x → q x) → p
class Wd (p : Prop) (α : outParam Type) (a : outParam (α → Prop)) (b : outParam (Prop → Prop)) (q : outParam (α → Prop → Prop)) : Prop where h : (∀ x m, a x → b m → q x m) → p
class Wt (p : Prop) (c a b : outParam Prop) : Prop where h : (c → a) → (¬ c → b) → p
class Wu (p : Prop) (c : outParam Bool) (a b : outParam Prop) : Prop where h : (c = true → a) → (c = false → b) → p
class Wn (p : Prop) (n : outParam Nat) (a b : outParam Prop) : Prop where h : (n = 0 → a) → b → p
class Wz (p : Prop) : Prop where h : p → p
section
variable {P : Program} {n0 : Nat} {s : St} {Q : Out → St → Prop}
instance {x y : SCode} : Ws (HS P n0 (.seq x y) s Q) (HS P n0 x s (thenQ (fun s' => HS P n0 y s' Q) Q)) := ⟨HS.seq⟩
instance {i : Nat} {x : SCode} : Wa (HS P n0 (.block i x) s Q) (HS P n0 x s (blockQ i Q)) := ⟨HS.block⟩
instance {i : Nat} : Wa (HS P n0 (.exit i) s Q) (Q (.exit i) s) := ⟨HS.exit⟩
instance : Wr (HS P n0 .ret s Q) (Q .ret s) := ⟨HS.ret⟩
instance : Wa (HS P n0 .skip s Q) (Q .normal s) := ⟨HS.skip⟩
instance {next : St → Prop} : Wa (thenQ next Q .normal s) (next s) := ⟨thenQ_n⟩
instance {i : Nat} : Wa (blockQ i Q .normal s) (Q .normal s) := ⟨blockQ_n⟩
instance {next : St → Prop} : Wa (thenQ next Q .ret s) (Q .ret s) := ⟨thenQ_r⟩
instance {i : Nat} : Wa (blockQ i Q .ret s) (Q .ret s) := ⟨blockQ_r⟩
instance {next : St → Prop} {i : Nat} : Wa (thenQ next Q (.exit i) s) (Q (.exit i) s) := ⟨thenQ_x⟩
instance {i : Nat} : Wa (blockQ i Q (.exit i) s) (Q .normal s) := ⟨blockQ_hit⟩
instance {rs : List SR} {R : D → List Row → Prop} : Wa (endS n0 rs R .ret s) (RetS n0 rs R s) := ⟨endS_r⟩
instance {rs : List SR} {R : D → List Row → Prop} : Wa (endS n0 rs R .normal s) (RetS n0 rs R s) := ⟨endS_n⟩
instance {l : List SI} : Wb (HS Try.prog n0 (.ops l) s Q) (St → Prop) (fun K => ∀ s', Q .normal s' → K s') (fun K => wpS Try.prog l s K) := ⟨fun h => rK h⟩
instance {l : List SI} {b : List Nat} : Wb (HS Try.prog n0 (.drw l b) s Q) (St → Prop) (fun K => ∀ s', Q .normal s' → K s') (fun K => wpDr Try.prog b s.H.length l 0 [] [] s K) := ⟨fun h => rL h⟩
instance {l1 l2 : List SI} {K : St → Prop} : Wb (wpS P (ap l1 l2) s K) (St → Prop) (fun K' => ∀ s', wpS P l2 s' K → K' s') (fun K' => wpS P l1 s K') := ⟨fun h => wpS_app h⟩
section
variable {b : List Nat} {i n : Nat} {o : SOp} {l : List SI} {own : List Nat} {log : List (List Nat × List Nat)} {e : List (Nat × D)} {H : List Row} {dr : List Nat} {K : St → Prop}
instance {t : Nat} : We (wpDr P b n0 (.a t o :: l) i own log ⟨frm n e, H, dr⟩ K) (List Nat → List (List Nat × List Nat) → D → List Row → Prop)
    (fun N => ∀ own1 log1 d H1, wpDr P b n0 l (i + 1) own1 log1 ⟨frm n ((t, d) :: e), H1, []⟩ K → N own1 log1 d H1) (fun N => drStep P b own n0 i log o (viewS (frm n e) H o) (frm n e) H N) := ⟨fun h => wpDr_aK h⟩
instance : We (wpDr P b n0 (.n o :: l) i own log ⟨frm n e, H, dr⟩ K) (List Nat → List (List Nat × List Nat) → D → List Row → Prop)
    (fun N => ∀ own1 log1 d H1, wpDr P b n0 l (i + 1) own1 log1 ⟨frm n e, H1, []⟩ K → N own1 log1 d H1) (fun N => drStep P b own n0 i log o (viewS (frm n e) H o) (frm n e) H N) := ⟨fun h => wpDr_nK h⟩
instance {t u : Nat} {w : Bool} : Wd (wpDr P b n0 (.g (some u) o t w :: l) i own log ⟨frm n e, H, dr⟩ K) (List Nat → List (List Nat × List Nat) → D → List Row → Prop)
    (fun N => ∀ own1 log1 r H1, wpDr P b n0 l (i + 1) own1 log1 ⟨frm n ((u, r) :: e), H1, []⟩ K → N own1 log1 r H1) (fun M => wpDr P b n0 l (i + 1) own (log ++ [([], [])]) ⟨frm n ((u, D.undef) :: e), H, []⟩ K → M)
    (fun N M => wantV (frm n e)[t]? w (drStep P b own n0 i log o (viewS (frm n e) H o) (frm n e) H N) M) := ⟨fun h => wpDr_gK h⟩
end
instance {c p q : Prop} : Wt (Two c p q) c p q := ⟨Two.mk'⟩
instance {n : Nat} {p q : Prop} : Wn (Nz n p q) n p q := ⟨And.intro⟩
instance {b : Bool} {p q : Prop} : Wu (Bsel b p q) b p q := ⟨Bsel.mk'⟩
instance {c : SCode} : Wz (HS P n0 c s Q) := ⟨id⟩
instance {l : List SR} {R : D → List Row → Prop} : Wz (RetS n0 l R s) := ⟨id⟩
instance {f : D} {l : List D} {H : List Row} {K : D → List Row → Prop} : Wz (callW P f l H K) := ⟨id⟩
instance {keep : List Nat} {α : Type} {st : α → St} {p : α → Prop} {m : α → Nat} {x : α} : Wz (Next n0 keep st p m x s) := ⟨id⟩
instance {n : Nat} {α : Type} {st : α → List (Nat × D)} {hs : α → List Row} {p : α → Prop} {m : α → Nat} {x : α} : Wz (NextP n st hs p m x s) := ⟨id⟩
instance {next : St → Prop} {o : Out} : Wz (thenQ next Q o s) := ⟨id⟩
instance {i : Nat} {o : Out} : Wz (blockQ i Q o s) := ⟨id⟩
instance {keep : List Nat} {i : Nat} {α : Type} {st : α → St} {p : α → Prop} {o : Out} : Wz (OutS n0 keep i st p o s) := ⟨id⟩
instance {α : Type} {st : α → St} {p : α → Prop} {o : Out} : Wz (OutN P n0 st p o s) := ⟨id⟩
end
theorem k1 : type_of% @HS.cond1 := @HS.cond1
theorem k0 : type_of% @HS.cond0 := @HS.cond0
theorem kB : type_of% @HS.condB := @HS.condB
theorem kM : type_of% @blockQ_miss := @blockQ_miss
theorem kQ {b : Bool} {p : Prop} (h : b = true) (g : p) : Chk b ∧ p := ⟨h, g⟩
end Go.Proofs.Ytgbbpelfpagdoaa.Mir

/- Looking at a frame and its rows otherwise: less told, a row that nobody has, a list laid down for good and its row let go. -/
namespace Go.Proofs.Ytgbbpelfpagdoaa.Mir
open Go Go.RowKit

theorem wuT {b : Bool} {p q : Prop} (h : b = true) (k : p) : Bsel b p q := Bsel.mk' (fun _ => k) fun e => by rw [h] at e; cases e
theorem wuF {b : Bool} {p q : Prop} (h : b = false) (k : q) : Bsel b p q := Bsel.mk' (fun e => by rw [h] at e; cases e) fun _ => k
theorem wtT {c p q : Prop} (h : c) (k : p) : Two c p q := Two.mk' (fun _ => k) fun e => absurd h e
theorem wtF {c p q : Prop} (h : ¬ c) (k : q) : Two c p q := Two.mk' (fun e => absurd e h) fun _ => k
/-- Less is told of a value. -/
inductive Wk (N : Nat) : D → D → Prop
  | refl {d : D} : Wk N d d
  | junk {d : D} : Wk N d .junk
  | ns : Wk N (.f (.v (.slice none 0 0))) (.f (.s [] 0))
  | es : Wk N (.f .e) (.f (.s [] 0))
  | ne : Wk N (.f (.v (.slice none 0 0))) (.f .e)
  | no {r : Nat} : r < N → Wk N (.f (.v (.slice none 0 0))) (.sl r 0 0)
  | eo {r : Nat} : r < N → Wk N (.f .e) (.sl r 0 0)
  | os {r o : Nat} : Wk N (.sl r o 0) (.f (.s [] 0))
theorem Wk.ok {P : Program} {w : World} {φ : Nat → Nat × Nat} {A : Nat → Prop} {N : Nat} {d d' : D} (h : Wk N d d') {u : Value} (hr : R P w φ A N d u) : R P w φ A N d' u := by
  cases h with
  | refl => exact hr
  | junk => exact .junk
  | ns => cases hr with | f h => cases h with | v _ => exact .f .s0
  | es =>
    cases hr with | f h => cases h with | @e a =>
    cases a with
    | none => exact .f .s0
    | some a => exact .f (.s [] (Nat.le_refl _) rfl (fun i u hu => by simp at hu) (fun i x u hx => by simp at hx))
  | ne => cases hr with | f h => cases h with | v _ => exact .f .e
  | no h => cases hr with | f h' => cases h' with | v _ => exact .sl0 h
  | eo h => cases hr with | f h' => cases h' with | e => exact .sl0 h
  | os =>
    cases hr with
    | sl hp => omega
    | @sl0 _ _ a _ =>
      cases a with
      | none => exact .f .s0
      | some a => exact .f (.s [] (Nat.le_refl _) rfl (fun i u hu => by simp at hu) (fun i x u hx => by simp at hx))
section
variable {P : Program} {n0 : Nat}
theorem View.slot {n : Nat} {e : List (Nat × D)} {H : List Row} {dr : List Nat} (i : Nat) (d' : D) (hw : Wk H.length (look i e) d') : View P n0 ⟨Mir.frm n e, H, dr⟩ ⟨Mir.frm n ((i, d') :: e), H, []⟩ := by
  intro X w0 φ0 H0 w φ a _ hr
  refine ⟨φ, ⟨⟨hr.sim.heap, ⟨?_, fun j d u hd hu => ?_⟩, hr.sim.defers⟩, hr.ons⟩⟩
  · have := hr.sim.tmps.1; dsimp only at this ⊢; rw [this, frm_len, frm_len]
  · dsimp only at hd ⊢
    have hj : j < n := by have := (List.getElem?_eq_some_iff.1 hd).1; rwa [frm_len] at this
    rw [frm_get hj] at hd
    injection hd with hd
    simp only [look] at hd
    split at hd
    · rename_i e'; subst e'; subst hd
      exact hw.ok (hr.sim.tmps.2 i _ u (by dsimp only; rw [frm_get hj]) hu)
    · subst hd
      exact hr.sim.tmps.2 j _ u (by dsimp only; rw [frm_get hj]) hu
/-- A box's cell is told less of. -/
theorem View.bcell {ts : List D} {H : List Row} {dr : List Nat} (r i : Nat) (c' : D) {T : TypeId} {xs : List D} {c : D} (hH : H[r]? = some (.box T xs)) (hx : xs[i]? = some c) (hw : Wk H.length c c') :
    View P n0 ⟨ts, H, dr⟩ ⟨ts, H.set r (.box T (xs.set i c')), []⟩ := by
  intro X w0 φ0 H0 w φ a _ hr
  have hlt : r < H.length := (List.getElem?_eq_some_iff.1 hH).1
  have hget : ∀ (q : Nat) (row : Row), (H.set r (.box T (xs.set i c')))[q]? = some row → (q = r ∧ row = .box T (xs.set i c')) ∨ H[q]? = some row := by
    intro q row h
    rw [List.getElem?_set] at h
    split at h
    · rename_i e; subst e
      try rw [if_pos hlt] at h
      exact .inl ⟨rfl, (Option.some.inj h).symm⟩
    · exact .inr h
  have hback : ∀ (q : Nat) (row : Row), H[q]? = some row → ∃ row' : Row, (H.set r (.box T (xs.set i c')))[q]? = some row' ∧ row'.live = row.live := by
    intro q row h
    rw [List.getElem?_set]
    split
    · rename_i e; subst e
      try rw [if_pos hlt]
      rw [hH] at h
      cases h
      exact ⟨_, rfl, rfl⟩
    · exact ⟨row, h, rfl⟩
  have hlive : ∀ b, Live φ (H.set r (.box T (xs.set i c'))) b ↔ Live φ H b := by
    intro b
    constructor
    · rintro ⟨q, row, h1, h2, h3⟩
      rcases hget q row h1 with ⟨rfl, rfl⟩ | h
      · exact ⟨q, _, hH, rfl, h3⟩
      · exact ⟨q, row, h, h2, h3⟩
    · rintro ⟨q, row, h1, h2, h3⟩
      obtain ⟨row', h4, h5⟩ := hback q row h1
      exact ⟨q, row', h4, by rw [h5]; exact h2, h3⟩
  have hav : Av X φ (H.set r (.box T (xs.set i c'))) = Av X φ H := funext fun b => propext (or_congr Iff.rfl (hlive b))
  have hlen : (H.set r (.box T (xs.set i c'))).length = H.length := List.length_set
  refine ⟨φ, ⟨⟨?_, ?_, ?_, hr.sim.heap.old, fun p hp => by rw [hav]; exact hr.sim.heap.gl p hp⟩, ?_, hr.sim.defers⟩, ⟨?_, hr.ons.same, hr.ons.keep, fun b h => hr.ons.fresh b ((hlive b).1 h)⟩⟩
  · intro q row h
    dsimp only at h ⊢
    rw [hav, hlen]
    rcases hget q row h with ⟨rfl, rfl⟩ | h
    · obtain ⟨h0, cs, hc, ⟨hl, hg⟩, hone⟩ := hr.sim.heap.rows q _ hH
      refine ⟨h0, cs, hc, ⟨by rw [List.length_set]; exact hl, fun j d u hd hu => ?_⟩, hone⟩
      rw [List.getElem?_set] at hd
      split at hd
      · rename_i e; subst e
        have hd : some c' = some d := by first | exact hd | (split at hd <;> first | exact hd | cases hd)
        cases hd
        exact hw.ok (hg i _ u hx hu)
      · exact hg j d u hd hu
    · exact hr.sim.heap.rows q row h
  · intro q s row row' h1 h2 h3 h4 h5
    have k : ∀ (q : Nat) (row : Row), (H.set r (.box T (xs.set i c')))[q]? = some row → row.live = true → ∃ row0, H[q]? = some row0 ∧ row0.live = true := by
      intro q row h hl
      rcases hget q row h with ⟨rfl, rfl⟩ | h
      · exact ⟨_, hH, rfl⟩
      · exact ⟨row, h, hl⟩
    obtain ⟨a1, b1, c1⟩ := k q row h1 h3
    obtain ⟨a2, b2, c2⟩ := k s row' h2 h4
    exact hr.sim.heap.apart q s a1 a2 b1 b2 c1 c2 h5
  · intro q row h1 h3
    rcases hget q row h1 with ⟨rfl, rfl⟩ | h
    · exact hr.sim.heap.off q _ hH rfl
    · exact hr.sim.heap.off q row h h3
  · dsimp only
    rw [hav, hlen]
    exact hr.sim.tmps
  · dsimp only
    rw [hlen]
    exact hr.ons.len
/-- A row that nobody has. -/
theorem View.void {ts : List D} {H : List Row} {dr : List Nat} (U : TypeId) : View P n0 ⟨ts, H, dr⟩ ⟨ts, H ++ [.data U []], []⟩ := by
  intro X w0 φ0 H0 w φ a _ hr
  have get : ∀ (q : Nat) (row : Row), (H ++ [Row.data U []])[q]? = some row → row = .data U [] ∨ H[q]? = some row := by
    intro q row h
    by_cases hq : q < H.length
    · rw [List.getElem?_append_left hq] at h; exact .inr h
    · have h1 := (List.getElem?_eq_some_iff.1 h).1
      simp at h1
      obtain rfl : q = H.length := by omega
      simp at h
      exact .inl h.symm
  have hlive : ∀ b, Live φ (H ++ [Row.data U []]) b ↔ Live φ H b := by
    intro b
    constructor
    · rintro ⟨q, row, h1, h2, h3⟩
      rcases get q row h1 with rfl | h
      · simp [Row.live] at h2
      · exact ⟨q, row, h, h2, h3⟩
    · rintro ⟨q, row, h1, h2, h3⟩
      exact ⟨q, row, by rw [List.getElem?_append_left (List.getElem?_eq_some_iff.1 h1).1]; exact h1, h2, h3⟩
  have hav : Av X φ (H ++ [Row.data U []]) = Av X φ H := funext fun b => propext (or_congr Iff.rfl (hlive b))
  have hlen : H.length ≤ (H ++ [Row.data U []]).length := by simp
  have live0 : ∀ (q : Nat) (row : Row), (H ++ [Row.data U []])[q]? = some row → row.live = true → H[q]? = some row := by
    intro q row h hl
    rcases get q row h with rfl | h
    · simp [Row.live] at hl
    · exact h
  refine ⟨φ, ⟨⟨fun q row h => ?_, fun q s row row' h1 h2 h3 h4 h5 => hr.sim.heap.apart q s row row' (live0 q row h1 h3) (live0 s row' h2 h4) h3 h4 h5, fun q row h hl => hr.sim.heap.off q row (live0 q row h hl) hl, hr.sim.heap.old, fun p hp => by rw [hav]; exact hr.sim.heap.gl p hp⟩, ?_, hr.sim.defers⟩,
    ⟨Nat.le_trans hr.ons.len hlen, hr.ons.same, hr.ons.keep, fun b h => hr.ons.fresh b ((hlive b).1 h)⟩⟩
  · dsimp only
    rw [hav]
    rcases get q row h with rfl | h
    · exact fun hne => absurd rfl hne
    · exact (hr.sim.heap.rows q row h).upper hlen
  · dsimp only
    rw [hav]
    exact ⟨hr.sim.tmps.1, fun i d u hd hu => (hr.sim.tmps.2 i d u hd hu).upper hlen⟩
/-- A row is let go. -/
theorem View.shed {ts : List D} {H : List Row} {dr : List Nat} (r : Nat) {row : Row} (hH : H[r]? = some row) : View P n0 ⟨ts, H, dr⟩ ⟨ts, H.set r .dead, []⟩ := by
  intro X w0 φ0 H0 w φ a _ hr
  obtain ⟨h1, h2, h3⟩ := hr.sim.heap.turn (row' := .dead) hH (Keep.refl _ w) (by simp [Row.live]) (fun _ => trivial)
  have hlive : ∀ b, Live φ (H.set r .dead) b → Live φ H b := by
    rintro b ⟨q, row', g1, g2, g3⟩
    rw [List.getElem?_set] at g1
    split at g1
    · rename_i e
      have g1 : some Row.dead = some row' := by first | exact g1 | (split at g1 <;> first | exact g1 | cases g1)
      cases g1
      simp [Row.live] at g2
    · exact ⟨q, row', g1, g2, g3⟩
  refine ⟨φ, ⟨⟨h1, ⟨hr.sim.tmps.1, fun i d u hd hu => ?_⟩, hr.sim.defers⟩, ⟨by dsimp only; rw [List.length_set]; exact hr.ons.len, hr.ons.same, hr.ons.keep, fun b h => hr.ons.fresh b (hlive b h)⟩⟩⟩
  dsimp only at hd ⊢
  rw [List.length_set]
  exact (hr.sim.tmps.2 i d u hd hu).keep (L := fun _ => False) (Keep.refl _ _) (fun _ h => h.elim) (fun b _ hb => hb.imp id (hlive b)) (fun _ _ => rfl) (Nat.le_refl _)
/-- A row of data of which less is told: nil cells are lists without elements. -/
theorem View.wkd {ts : List D} {H : List Row} {dr : List Nat} (r : Nat) {T : TypeId} {xs : List F} (ys : List F) (hH : H[r]? = some (.data T xs)) (hlen : ys.length = xs.length)
    (hw : ∀ (i : Nat) (x y : F), xs[i]? = some x → ys[i]? = some y → x = y ∨ (x = .v (.slice none 0 0) ∧ y = .s [] 0)) :
    View P n0 ⟨ts, H, dr⟩ ⟨ts, H.set r (.data T ys), []⟩ := by
  intro X w0 φ0 H0 w φ a hn hr
  have hlt : r < H.length := (List.getElem?_eq_some_iff.1 hH).1
  by_cases hne : xs = []
  · subst hne
    obtain rfl : ys = [] := List.eq_nil_of_length_eq_zero hlen
    have e : H.set r (.data T []) = H := by
      obtain ⟨hlt, he⟩ := List.getElem?_eq_some_iff.1 hH
      rw [← he, List.set_getElem_self]
    rw [e]
    exact ⟨φ, ⟨⟨hr.sim.heap, hr.sim.tmps, hr.sim.defers⟩, hr.ons⟩⟩
  have hl0 : (Row.data T xs).live = true := live_data hne
  have hl1 : (Row.data T ys).live = true := live_data (fun e => hne (by subst e; exact List.eq_nil_of_length_eq_zero hlen.symm))
  have hget : ∀ (q : Nat) (row : Row), (H.set r (.data T ys))[q]? = some row → (q = r ∧ row = .data T ys) ∨ H[q]? = some row := by
    intro q row h
    rw [List.getElem?_set] at h
    split at h
    · rename_i e; subst e
      try rw [if_pos hlt] at h
      exact .inl ⟨rfl, (Option.some.inj h).symm⟩
    · exact .inr h
  have hback : ∀ (q : Nat) (row : Row), H[q]? = some row → ∃ row' : Row, (H.set r (.data T ys))[q]? = some row' ∧ row'.live = row.live := by
    intro q row h
    rw [List.getElem?_set]
    split
    · rename_i e; subst e
      try rw [if_pos hlt]
      rw [hH] at h
      cases h
      exact ⟨_, rfl, hl1.trans hl0.symm⟩
    · exact ⟨row, h, rfl⟩
  have hlive : ∀ b, Live φ (H.set r (.data T ys)) b ↔ Live φ H b := by
    intro b
    constructor
    · rintro ⟨q, row, h1, h2, h3⟩
      rcases hget q row h1 with ⟨rfl, rfl⟩ | h
      · exact ⟨q, _, hH, hl0, h3⟩
      · exact ⟨q, row, h, h2, h3⟩
    · rintro ⟨q, row, h1, h2, h3⟩
      obtain ⟨row', h4, h5⟩ := hback q row h1
      exact ⟨q, row', h4, by rw [h5]; exact h2, h3⟩
  have hav : Av X φ (H.set r (.data T ys)) = Av X φ H := funext fun b => propext (or_congr Iff.rfl (hlive b))
  have hlen' : (H.set r (.data T ys)).length = H.length := List.length_set
  refine ⟨φ, ⟨⟨?_, ?_, ?_, hr.sim.heap.old, fun p hp => by rw [hav]; exact hr.sim.heap.gl p hp⟩, ?_, hr.sim.defers⟩, ⟨?_, hr.ons.same, hr.ons.keep, fun b h => hr.ons.fresh b ((hlive b).1 h)⟩⟩
  · intro q row h
    dsimp only at h ⊢
    rw [hav, hlen']
    rcases hget q row h with ⟨rfl, rfl⟩ | h
    · obtain ⟨pre, us, post, hc, hp, ⟨hl, hg⟩⟩ := hr.sim.heap.rows q _ hH hne
      refine fun _ => ⟨pre, us, post, hc, hp, ⟨hl.trans hlen.symm, fun j d u hd hu => ?_⟩⟩
      have hj : j < xs.length := by rw [← hlen]; exact (List.getElem?_eq_some_iff.1 hd).1
      have hx : xs[j]? = some xs[j] := List.getElem?_eq_getElem hj
      rcases hw j _ d hx hd with e | ⟨e1, e2⟩
      · rw [← e]; exact hg j _ u hx hu
      · rw [e2]
        have := hg j _ u hx hu
        rw [e1] at this
        cases this with | v _ => exact .s0
    · exact hr.sim.heap.rows q row h
  · intro q s row row' h1 h2 h3 h4 h5
    have k : ∀ (q : Nat) (row : Row), (H.set r (.data T ys))[q]? = some row → row.live = true → ∃ row0, H[q]? = some row0 ∧ row0.live = true := by
      intro q row h hl
      rcases hget q row h with ⟨rfl, rfl⟩ | h
      · exact ⟨_, hH, hl0⟩
      · exact ⟨row, h, hl⟩
    obtain ⟨a1, b1, c1⟩ := k q row h1 h3
    obtain ⟨a2, b2, c2⟩ := k s row' h2 h4
    exact hr.sim.heap.apart q s a1 a2 b1 b2 c1 c2 h5
  · intro q row h1 h3
    rcases hget q row h1 with ⟨rfl, rfl⟩ | h
    · exact hr.sim.heap.off q _ hH hl0
    · exact hr.sim.heap.off q row h h3
  · dsimp only
    rw [hav, hlen']
    exact hr.sim.tmps
  · dsimp only
    rw [hlen']
    exact hr.ons.len
/-- A slot's list is laid down for good, and its row let go. -/
theorem View.fzd {n : Nat} {e : List (Nat × D)} {H : List Row} {dr : List Nat} (i : Nat) {r m k b : Nat} {T : TypeId} {xs : List F} {z : List Value} (ht : look i e = .sl r 0 m) (hr : H[r]? = some (.data T xs)) (hi : inf P T = some (k, b, z)) (hn : xs.length = m * k) (hin : i < n) (hk : 0 < k) :
    View P n0 ⟨Mir.frm n e, H, dr⟩ ⟨Mir.frm n ((i, .f (.s xs m)) :: e), H.set r .dead, []⟩ := by
  by_cases hm : m = 0
  · subst hm
    have hx : xs = [] := List.eq_nil_of_length_eq_zero (by omega)
    subst hx
    exact (View.slot i (.f (.s [] 0)) (by rw [ht]; exact .os)).trans (View.shed r hr)
  · have h2 := View.frz (P := P) (n0 := n0) (dr := dr) (n := n) (H := H) i ht hr hi hm hn hin hk
    have h3 := View.shed (P := P) (n0 := n0) (ts := Mir.frm n ((i, .f (.s xs m)) :: e)) (H := H.set r (.froz T xs)) (dr := []) r (List.getElem?_set_self (List.getElem?_eq_some_iff.1 hr).1)
    rw [List.set_set] at h3
    exact h2.trans h3
theorem retV {s s' : St} {rs : List SR} {Q : D → List Row → Prop} (hv : View P n0 s s') (h : RetS n0 rs Q s') : HS P n0 .ret s (endS n0 rs Q) := HS.view hv (HS.ret h)
theorem retS {s : St} {rs : List SR} {Q : D → List Row → Prop} (h : RetS n0 rs Q s) : HS P n0 .ret s (endS n0 rs Q) := HS.ret h
end
end Go.Proofs.Ytgbbpelfpagdoaa.Mir

/- Bytes, as the machine holds them; calls that look at nothing but their arguments. -/
namespace Go.Proofs.Ytgbbpelfpagdoaa.Mir
open Go Go.RowKit

/-- A call that looks at nothing but what it is handed, and hands back what names no row. -/
theorem callW_pure {P : Program} {g : FuncId} {args : List D} {H : List Row} {d0 : D} {K : D → List Row → Prop} (h : Con P g args [] fun d H' => d = d0 ∧ H' = []) (hb : embOk [] H.length [] args = true)
    (ha : args.map (renE (ren [] H.length)) = args) (hd : renE (ren [] H.length) d0 = d0) (hk : K d0 H) : callW P (.fn g []) args H K := by
  refine callW_emb h [] hb ?_ rfl ?_
  · rw [List.append_nil, ha]
  · intro d H' hq
    rw [hq.1, hq.2]
    show K (renE (ren [] H.length) d0) (H ++ [])
    rw [hd, List.append_nil]; exact hk
/-- A fact that a call asks for. -/
class Kn (p : Prop) : Prop where h : p
theorem ren0 {N : Nat} : ren [] N 0 = N := rfl
/-- A call that hands back a list in a new row. -/
theorem callW_new {P : Program} {g : FuncId} {args : List D} {H : List Row} {n : Nat} {row : Row} {K : D → List Row → Prop} (h : Con P g args [] fun d H' => d = .sl 0 0 n ∧ H' = [row]) (hb : embOk [] H.length [] args = true)
    (ha : args.map (renE (ren [] H.length)) = args) (hr : ∀ ρ, renR ρ row = row) (hk : K (.sl H.length 0 n) (H ++ [row])) : callW P (.fn g []) args H K := by
  refine callW_emb h [] hb ?_ rfl ?_
  · rw [List.append_nil, ha]
  · intro d H' hq
    rw [hq.1, hq.2]
    show K (.sl (ren [] H.length 0) 0 n) (H ++ [renR (ren [] H.length) row])
    rw [ren0, hr]; exact hk
theorem callDr_new {P : Program} {g : FuncId} {args : List D} {H : List Row} {n : Nat} {row : Row} {K : Bool → D → List Row → Prop} (h : Con P g args [] fun d H' => d = .sl 0 0 n ∧ H' = [row]) (hb : embOk [] H.length [] args = true)
    (ha : args.map (renE (ren [] H.length)) = args) (hr : ∀ ρ, renR ρ row = row) (hk : K true (.sl H.length 0 n) (H ++ [row])) : callDr P (.fn g []) args H K := by
  refine callDr_emb h [] hb ?_ rfl ?_
  · rw [List.append_nil, ha]
  · show K true (.sl (ren [] H.length 0) 0 n) (H ++ [renR (ren [] H.length) row])
    rw [ren0, hr]; exact hk
theorem callDr_pure {P : Program} {g : FuncId} {args : List D} {H : List Row} {d0 : D} {K : Bool → D → List Row → Prop} (h : Con P g args [] fun d H' => d = d0 ∧ H' = []) (hb : embOk [] H.length [] args = true)
    (ha : args.map (renE (ren [] H.length)) = args) (hd : renE (ren [] H.length) d0 = d0) (hk : K true d0 H) : callDr P (.fn g []) args H K := by
  refine callDr_emb h [] hb ?_ rfl ?_
  · rw [List.append_nil, ha]
  · show K true (renE (ren [] H.length) d0) (H ++ [])
    rw [hd, List.append_nil]; exact hk
end Go.Proofs.Ytgbbpelfpagdoaa.Mir

/- Functions of the program, told without it. -/
namespace Go.Proofs.Ytgbbpelfpagdoaa.Mir
open Go Go.RowKit

/-- cutover.event.IsName -/
def s_ev_IsName : SCode :=
  (.seq (.ops [.a 2 (.mv kF)]) (.seq (.seq (.ops (ap [.a 5 (.mv (.t 0)), .a 6 (.bin .eql (.t 5) (.c (.f (.v (.string ⟨#[]⟩)))))] (ap [.a 7 (.mv (.t 6)),
 .g (some 8) (.mv (.t 0)) 7 false] (ap [.g (some 9) (.strlen (.t 8)) 7 false, .g (some 10) (.bin .gtr (.t 9) (kI 16)) 7 false] [.a 11 (.pick (.t 7) kT
 (.t 10))])))) (.cond (.t 11) (.seq (.ops [.a 2 (.mv kF)]) .ret) .skip)) (.seq (.seq (.ops [.a 12 (.mv (.t 0)), .a 13 (.s2b (.t 12)), .a 14 (.slen (.t
 13)), .a 15 (.mv (kI 0))]) (.block 0 (.loop (.seq (.ops [.a 16 (.bin .lss (.t 15) (.t 14))]) (.seq (.cond (.t 16) .skip (.exit 0)) (.seq (.block 1
 (.seq (.ops [.a 17 (.idx 1 (.t 13) (.t 15)), .a 18 (.load1 (.t 17)), .a 4 (.mv (.t 18))]) (.seq (.ops (ap [.a 19 (.mv (.t 4)), .a 20 (.bin .geq (.t 19)
 (.c (.f (.v (.int .u8 97)))))] (ap [.a 21 (.mv (.t 20)), .g (some 22) (.mv (.t 4)) 21 true] (ap [.g (some 23) (.bin .leq (.t 22) (.c (.f (.v (.int .u8
 122))))) 21 true] (ap [.a 24 (.pick (.t 21) (.t 23) kF), .a 25 (.mv (.t 24)), .g (some 26) (.mv (.t 4)) 25 false] (ap [.g (some 27) (.bin .geq (.t 26)
 (.c (.f (.v (.int .u8 48))))) 25 false] (ap [.g (some 28) (.mv (.t 27)) 25 false, .g (some 29) (.mv (.t 4)) 28 true] (ap [.g (some 30) (.bin .leq (.t
 29) (.c (.f (.v (.int .u8 57))))) 28 true] (ap [.g (some 31) (.pick (.t 28) (.t 30) kF) 25 false] (ap [.a 32 (.pick (.t 25) kT (.t 31)), .a 33 (.mv (.t
 32)), .g (some 34) (.mv (.t 4)) 33 false] (ap [.g (some 35) (.bin .eql (.t 34) (.c (.f (.v (.int .u8 45))))) 33 false] [.a 36 (.pick (.t 33) kT (.t
 35)), .a 37 (.unot (.t 36))]))))))))))) (.cond (.t 37) (.seq (.ops [.a 2 (.mv kF)]) .ret) .skip)))) (.ops [.a 38 (.bin .add (.t 15) (kI 1)), .a 15 (.mv
 (.t 38))]))))))) (.seq (.ops [.a 2 (.mv kT)]) .ret))))
theorem fn_ev_IsName : Fn Try.prog 45 39 [.t 2] s_ev_IsName := .of Try.func45 (by kernel_rfl)

/-- cutover.event.within -/
def s_ev_within : SCode :=
  (.seq (.ops [.a 6 (.mv kF)]) (.seq (.ops (ap [.a 7 (.mv (.t 0)), .a 8 (.mv (.t 1)), .a 9 (.bin .geq (.t 7) (.t 8))] (ap [.a 10 (.mv (.t 9)), .g (some
 11) (.mv (.t 0)) 10 true] (ap [.g (some 12) (.mv (.t 2)) 10 true, .g (some 13) (.bin .leq (.t 11) (.t 12)) 10 true] [.a 14 (.pick (.t 10) (.t 13) kF),
 .a 6 (.mv (.t 14))])))) .ret))
theorem fn_ev_within : Fn Try.prog 26 15 [.t 6] s_ev_within := .of Try.func26 (by kernel_rfl)

/-- cutover.event.rightDef -/
def s_ev_rightDef : SCode :=
  (.seq (.ops [.a 2 (.box 34 (.t 0)), .a 4 (.mv kF)]) (.seq (.ops [.a 5 (.mv (kI (-1)))]) (.seq (.seq (.ops [.a 8 (.off 0 (.t 2)), .a 9 (.load1 (.t 8)),
 .a 10 (.slen (.t 9)), .a 11 (.mv (kI 0))]) (.block 0 (.loop (.seq (.ops [.a 12 (.bin .lss (.t 11) (.t 10))]) (.seq (.cond (.t 12) .skip (.exit 0))
 (.seq (.block 1 (.seq (.ops [.a 13 (.idx 1 (.t 9) (.t 11)), .a 14 (.load1 (.t 13)), .a 7 (.mv (.t 14))]) (.seq (.seq (.ops (ap [.a 15 (.mv (.t 7)), .a
 16 (.mv (.t 5)), .a 17 (.bin .leq (.t 15) (.t 16))] (ap [.a 18 (.mv (.t 17)), .g (some 19) (.mv (.t 7)) 18 false] (ap [.g (some 20) (.mv (.t 1)) 18
 false, .g (some 21) (.bin .geq (.t 19) (.t 20)) 18 false] [.a 22 (.pick (.t 18) kT (.t 21))])))) (.cond (.t 22) (.seq (.ops [.a 4 (.mv kF)]) .ret)
 .skip)) (.ops [.a 23 (.mv (.t 7)), .a 5 (.mv (.t 23))])))) (.ops [.a 24 (.bin .add (.t 11) (kI 1)), .a 11 (.mv (.t 24))]))))))) (.seq (.ops (ap [.a 25
 (.off 1 (.t 2)), .a 26 (.load1 (.t 25)), .a 27 (.call (kC 26) [(.t 26), (kI 1), (kI 5)])] (ap [.a 28 (.mv (.t 27)), .g (some 29) (.off 2 (.t 2)) 28
 true] (ap [.g (some 30) (.load1 (.t 29)) 28 true, .g (some 31) (.call (kC 26) [(.t 30), (kI 1), (kI 1048576)]) 28 true] [.a 32 (.pick (.t 28) (.t 31)
 kF), .a 4 (.mv (.t 32))])))) .ret))))
theorem fn_ev_rightDef : Fn Try.prog 46 33 [.t 4] s_ev_rightDef := .of Try.func46 (by kernel_rfl)

/-- cutover.event.rightDefs -/
def s_ev_rightDefs : SCode :=
  (.seq (.ops [.a 2 (.mv kF)]) (.seq (.seq (.ops [.a 5 (.mv (.t 0)), .a 6 (.slen (.t 5)), .a 7 (.mv (kI 0))]) (.block 0 (.loop (.seq (.ops [.a 8 (.bin
 .lss (.t 7) (.t 6))]) (.seq (.cond (.t 8) .skip (.exit 0)) (.seq (.block 1 (.seq (.ops [.a 9 (.idx 3 (.t 5) (.t 7)), .a 10 (.loadA 3 (.t 9)), .a 4
 (.alloc 34 [jN, jI, jI]), .n (.store 3 (.t 4) (.t 10))]) (.seq (.ops (ap [.a 11 (.loadA 3 (.t 4)), .a 12 (.mv (.t 0)), .a 13 (.slen (.t 12)), .a 14
 (.call (kC 46) [(.t 11), (.t 13)])] [.a 15 (.unot (.t 14))])) (.cond (.t 15) (.seq (.ops [.a 2 (.mv kF)]) .ret) .skip)))) (.ops [.a 16 (.bin .add (.t
 7) (kI 1)), .a 7 (.mv (.t 16))]))))))) (.seq (.ops (ap [.a 17 (.mv (.t 0)), .a 18 (.slen (.t 17)), .a 19 (.call (kC 26) [(.t 18), (kI 1), (kI 8)])] [.a
 2 (.mv (.t 19))])) .ret)))
theorem fn_ev_rightDefs : Fn Try.prog 30 20 [.t 2] s_ev_rightDefs := .of Try.func30 (by kernel_rfl)

/-- cutover.event.named -/
def s_ev_named : SCode :=
  (.seq (.ops [.a 2 (.alloc 67 [jF, jF, jF, jF, jI]), .a 3 (.mv kF)]) (.seq (.seq (.ops [.a 4 (.mv (.t 0))]) (.block 0 (.seq (.ops (ap [.a 6 (.bin .eql
 (.t 4) (kI 1))] [.a 5 (.mv (.t 6))])) (.cond (.t 5) (.seq (.ops [.a 7 (.bld [jF, jF, jF, jF, jI] [(3, 1, kT)]), .n (.store 5 (.t 2) (.t 7)), .a 3 (.mv
 kT)]) .ret) (.seq (.seq (.ops (ap [.a 9 (.bin .eql (.t 4) (kI 2))] [.a 8 (.mv (.t 9))])) (.cond (.t 8) .skip (.ops (ap [.a 10 (.bin .eql (.t 4) (kI
 4))] [.a 8 (.mv (.t 10))])))) (.cond (.t 8) (.seq (.ops [.a 11 (.bld [jF, jF, jF, jF, jI] [(0, 1, kT), (4, 1, (kI 5))]), .n (.store 5 (.t 2) (.t 11)),
 .a 3 (.mv kT)]) .ret) (.seq (.ops (ap [.a 13 (.bin .eql (.t 4) (kI 3))] [.a 12 (.mv (.t 13))])) (.cond (.t 12) (.seq (.ops [.a 14 (.bld [jF, jF, jF,
 jF, jI] [(0, 1, kT), (4, 1, (kI 5)), (2, 1, kT)]), .n (.store 5 (.t 2) (.t 14)), .a 3 (.mv kT)]) .ret) (.seq (.ops (ap [.a 16 (.bin .eql (.t 4) (kI
 5))] [.a 15 (.mv (.t 16))])) (.cond (.t 15) (.seq (.ops [.a 17 (.bld [jF, jF, jF, jF, jI] [(1, 1, kT), (4, 1, (kI 1048576))]), .n (.store 5 (.t 2) (.t
 17)), .a 3 (.mv kT)]) .ret) (.seq (.ops (ap [.a 19 (.bin .eql (.t 4) (kI 6))] [.a 18 (.mv (.t 19))])) (.cond (.t 18) (.seq (.ops [.a 20 (.bld [jF, jF,
 jF, jF, jI] [(1, 1, kT)]), .n (.store 5 (.t 2) (.t 20)), .a 3 (.mv kT)]) .ret) (.seq (.ops (ap [.a 22 (.bin .eql (.t 4) (kI 7))] [.a 21 (.mv (.t
 22))])) (.cond (.t 21) (.seq (.ops [.a 23 (.bld [jF, jF, jF, jF, jI] [(1, 1, kT), (2, 1, kT)]), .n (.store 5 (.t 2) (.t 23)), .a 3 (.mv kT)]) .ret)
 (.seq (.seq (.ops (ap [.a 25 (.bin .eql (.t 4) (kI 8))] [.a 24 (.mv (.t 25))])) (.cond (.t 24) .skip (.seq (.ops (ap [.a 26 (.bin .eql (.t 4) (kI 9))]
 [.a 24 (.mv (.t 26))])) (.cond (.t 24) .skip (.seq (.ops (ap [.a 27 (.bin .eql (.t 4) (kI 10))] [.a 24 (.mv (.t 27))])) (.cond (.t 24) .skip (.seq
 (.ops (ap [.a 28 (.bin .eql (.t 4) (kI 11))] [.a 24 (.mv (.t 28))])) (.cond (.t 24) .skip (.ops (ap [.a 29 (.bin .eql (.t 4) (kI 12))] [.a 24 (.mv (.t
 29))])))))))))) (.cond (.t 24) (.seq (.ops [.a 30 (.bld [jF, jF, jF, jF, jI] []), .n (.store 5 (.t 2) (.t 30)), .a 3 (.mv kT)]) .ret)
 .skip)))))))))))))))) (.seq (.ops [.a 31 (.bld [jF, jF, jF, jF, jI] []), .n (.store 5 (.t 2) (.t 31)), .a 3 (.mv kF)]) .ret)))
theorem fn_ev_named : Fn Try.prog 25 32 [.cA 5 2, .t 3] s_ev_named := .of Try.func25 (by kernel_rfl)

/-- (cutover.event.parts).numbers -/
def s_ev_numbers : SCode :=
  (.seq (.ops [.a 2 (.box 67 (.t 0)), .a 3 (.box 37 (.t 1)), .a 4 (.mv kF)]) (.seq (.seq (.ops (ap [.a 5 (.off 0 (.t 2)), .a 6 (.load1 (.t 5)), .a 7
 (.unot (.t 6)), .a 8 (.mv (.t 7)), .g (some 9) (.off 4 (.t 3)) 8 true] (ap [.g (some 10) (.load1 (.t 9)) 8 true, .g (some 11) (.bin .neq (.t 10) (kI
 0)) 8 true] (ap [.a 12 (.pick (.t 8) (.t 11) kF), .a 13 (.mv (.t 12)), .g (some 14) (.off 4 (.t 2)) 13 false] (ap [.g (some 15) (.load1 (.t 14)) 13
 false, .g (some 16) (.bin .eql (.t 15) (kI 0)) 13 false] (ap [.g (some 17) (.mv (.t 16)) 13 false, .g (some 18) (.off 5 (.t 3)) 17 true] (ap [.g (some
 19) (.load1 (.t 18)) 17 true, .g (some 20) (.bin .neq (.t 19) (kI 0)) 17 true] (ap [.g (some 21) (.pick (.t 17) (.t 20) kF) 13 false] [.a 22 (.pick (.t
 13) kT (.t 21))])))))))) (.cond (.t 22) (.seq (.ops [.a 4 (.mv kF)]) .ret) .skip)) (.seq (.ops (ap [.a 23 (.off 4 (.t 3)), .a 24 (.load1 (.t 23)), .a
 25 (.call (kC 26) [(.t 24), (kI 0), (kI 7)])] (ap [.a 26 (.mv (.t 25)), .g (some 27) (.off 4 (.t 2)) 26 true] (ap [.g (some 28) (.load1 (.t 27)) 26
 true, .g (some 29) (.bin .eql (.t 28) (kI 0)) 26 true] (ap [.g (some 30) (.mv (.t 29)) 26 true, .g (some 31) (.off 5 (.t 3)) 30 false] (ap [.g (some
 32) (.load1 (.t 31)) 30 false, .g (some 33) (.off 4 (.t 2)) 30 false, .g (some 34) (.load1 (.t 33)) 30 false, .g (some 35) (.call (kC 26) [(.t 32), (kI
 1), (.t 34)]) 30 false] (ap [.g (some 36) (.pick (.t 30) kT (.t 35)) 26 true] [.a 37 (.pick (.t 26) (.t 36) kF), .a 4 (.mv (.t 37))]))))))) .ret)))
theorem fn_ev_numbers : Fn Try.prog 28 38 [.t 4] s_ev_numbers := .of Try.func28 (by kernel_rfl)

/-- (cutover.event.parts).texts -/
def s_ev_texts : SCode :=
  (.seq (.ops [.a 2 (.box 67 (.t 0)), .a 3 (.box 37 (.t 1)), .a 4 (.mv kF)]) (.seq (.seq (.ops (ap [.a 5 (.off 1 (.t 2)), .a 6 (.load1 (.t 5)), .a 7
 (.off 6 (.t 3)), .a 8 (.load1 (.t 7)), .a 9 (.bin .neq (.t 8) (.c (.f (.v (.string ⟨#[]⟩)))))] (ap [.a 10 (.binb .neq (.t 6) (.t 9)), .a 11 (.mv (.t
 10)), .g (some 12) (.off 1 (.t 2)) 11 false] (ap [.g (some 13) (.load1 (.t 12)) 11 false, .g (some 14) (.mv (.t 13)) 11 false, .g (some 15) (.off 6 (.t
 3)) 14 true] (ap [.g (some 16) (.load1 (.t 15)) 14 true, .g (some 17) (.call (kC 45) [(.t 16)]) 14 true] (ap [.g (some 18) (.unot (.t 17)) 14 true, .g
 (some 19) (.pick (.t 14) (.t 18) kF) 11 false] [.a 20 (.pick (.t 11) kT (.t 19))])))))) (.cond (.t 20) (.seq (.ops [.a 4 (.mv kF)]) .ret) .skip)) (.seq
 (.ops (ap [.a 21 (.off 7 (.t 3)), .a 22 (.load1 (.t 21)), .a 23 (.slen (.t 22)), .a 24 (.bin .eql (.t 23) (kI 0))] (ap [.a 25 (.mv (.t 24)), .g (some
 26) (.off 2 (.t 2)) 25 false] (ap [.g (some 27) (.load1 (.t 26)) 25 false, .g (some 28) (.mv (.t 27)) 25 false, .g (some 29) (.off 7 (.t 3)) 28 true]
 (ap [.g (some 30) (.load1 (.t 29)) 28 true, .g (some 31) (.slen (.t 30)) 28 true, .g (some 32) (.bin .leq (.t 31) (kI 40)) 28 true] (ap [.g (some 33)
 (.pick (.t 28) (.t 32) kF) 25 false] [.a 34 (.pick (.t 25) kT (.t 33)), .a 4 (.mv (.t 34))])))))) .ret)))
theorem fn_ev_texts : Fn Try.prog 29 35 [.t 4] s_ev_texts := .of Try.func29 (by kernel_rfl)

/-- cutover.event.Right -/
def s_ev_Right : SCode :=
  (.seq (.ops [.a 1 (.box 37 (.t 0)), .a 2 (.mv kF)]) (.seq (.ops (ap [.a 6 (.off 3 (.t 1)), .a 7 (.load1 (.t 6)), .a 8 (.call (kC 25) [(.t 7)])] [.a 5
 (.mv (.t 8)), .a 9 (.ext 0 (.t 5)), .a 10 (.ext 1 (.t 5)), .a 3 (.alloc 67 [jF, jF, jF, jF, jI]), .n (.store 5 (.t 3) (.t 9)), .a 4 (.mv (.t 10))]))
 (.seq (.seq (.ops (ap [.a 11 (.mv (.t 4)), .a 12 (.unot (.t 11)), .a 13 (.mv (.t 12)), .g (some 14) (.off 0 (.t 1)) 13 false] (ap [.g (some 15) (.load1
 (.t 14)) 13 false, .g (some 16) (.call (kC 26) [(.t 15), (kI 1), (kI 200)]) 13 false] (ap [.g (some 17) (.unot (.t 16)) 13 false, .a 18 (.pick (.t 13)
 kT (.t 17)), .a 19 (.mv (.t 18)), .g (some 20) (.off 1 (.t 1)) 19 false] (ap [.g (some 21) (.load1 (.t 20)) 19 false, .g (some 22) (.call (kC 27) [(.t
 21)]) 19 false] (ap [.g (some 23) (.unot (.t 22)) 19 false, .a 24 (.pick (.t 19) kT (.t 23)), .a 25 (.mv (.t 24)), .g (some 26) (.off 2 (.t 1)) 25
 false] (ap [.g (some 27) (.load1 (.t 26)) 25 false, .g (some 28) (.call (kC 26) [(.t 27), (kI 0), (kI 1099511627776)]) 25 false] (ap [.g (some 29)
 (.unot (.t 28)) 25 false, .a 30 (.pick (.t 25) kT (.t 29)), .a 31 (.mv (.t 30)), .g (some 32) (.loadA 5 (.t 3)) 31 false] (ap [.g (some 33) (.loadA 9
 (.t 1)) 31 false, .g (some 34) (.call (kC 28) [(.t 32), (.t 33)]) 31 false] (ap [.g (some 35) (.unot (.t 34)) 31 false, .a 36 (.pick (.t 31) kT (.t
 35)), .a 37 (.mv (.t 36)), .g (some 38) (.loadA 5 (.t 3)) 37 false] (ap [.g (some 39) (.loadA 9 (.t 1)) 37 false, .g (some 40) (.call (kC 29) [(.t 38),
 (.t 39)]) 37 false] [.g (some 41) (.unot (.t 40)) 37 false, .a 42 (.pick (.t 37) kT (.t 41))]))))))))))) (.cond (.t 42) (.seq (.ops [.a 2 (.mv kF)])
 .ret) .skip)) (.seq (.seq (.ops [.a 43 (.off 3 (.t 3)), .a 44 (.load1 (.t 43))]) (.cond (.t 44) (.seq (.ops (ap [.a 45 (.off 8 (.t 1)), .a 46 (.load1
 (.t 45)), .a 47 (.call (kC 30) [(.t 46)])] [.a 2 (.mv (.t 47))])) .ret) .skip)) (.seq (.ops (ap [.a 48 (.off 8 (.t 1)), .a 49 (.load1 (.t 48)), .a 50
 (.slen (.t 49)), .a 51 (.bin .eql (.t 50) (kI 0))] [.a 2 (.mv (.t 51))])) .ret)))))
theorem fn_ev_Right : Fn Try.prog 19 52 [.t 2] s_ev_Right := .of Try.func19 (by kernel_rfl)

/-- cutover.version.Right -/
def s_ver_Right : SCode :=
  (.seq (.ops [.a 2 (.mv kF)]) (.seq (.ops (ap [.a 3 (.mv (.t 0)), .a 4 (.bin .geq (.t 3) (kI 1))] (ap [.a 5 (.mv (.t 4)), .g (some 6) (.mv (.t 0)) 5
 true] (ap [.g (some 7) (.bin .leq (.t 6) (kI 1099511627776)) 5 true] (ap [.a 8 (.pick (.t 5) (.t 7) kF), .a 9 (.mv (.t 8)), .g (some 10) (.mv (.t 0)) 9
 true] (ap [.g (some 11) (.call (kC 44) [(.t 10)]) 9 true] (ap [.g (some 12) (.call (kC 43) [(.t 11)]) 9 true] [.a 13 (.pick (.t 9) (.t 12) kF), .a 2
 (.mv (.t 13))]))))))) .ret))
theorem fn_ver_Right : Fn Try.prog 27 14 [.t 2] s_ver_Right := .of Try.func27 (by kernel_rfl)

/-- cutover.version.is -/
def s_ver_is : SCode :=
  (.seq (.ops [.a 2 (.mv kF)]) (.seq (.ops (ap [.a 3 (.mv (.t 0)), .a 4 (.bin .geq (.t 3) (kI 1))] (ap [.a 5 (.mv (.t 4)), .g (some 6) (.mv (.t 0)) 5
 true] (ap [.g (some 7) (.bin .leq (.t 6) (kI 8)) 5 true] [.a 8 (.pick (.t 5) (.t 7) kF), .a 2 (.mv (.t 8))])))) .ret))
theorem fn_ver_is : Fn Try.prog 43 9 [.t 2] s_ver_is := .of Try.func43 (by kernel_rfl)

/-- cutover.version.Owner -/
def s_ver_Owner : SCode :=
  (.seq (.ops [.a 2 (.mv (kI 0))]) (.seq (.ops [.a 3 (.mv (.t 0)), .a 4 (.bin .rem (.t 3) (kI 10)), .a 5 (.bin .add (.t 4) (kI 10)), .a 6 (.bin .rem (.t
 5) (kI 10)), .a 2 (.mv (.t 6))]) .ret))
theorem fn_ver_Owner : Fn Try.prog 44 7 [.t 2] s_ver_Owner := .of Try.func44 (by kernel_rfl)

end Go.Proofs.Ytgbbpelfpagdoaa.Mir

/- Events: what is right, by the program. -/
namespace Go.Proofs.Ytgbbpelfpagdoaa.Mir
open Go Go.RowKit
set_option linter.unusedVariables false
set_option linter.unusedSimpArgs false
set_option maxHeartbeats 2000000

def inI (n l m : Int) : Bool := decide (l ≤ n) && decide (n ≤ m)
theorem c_ev_within (n l m : Int) : Con Try.prog 26 [D.int n, D.int l, D.int m] [] fun r H' => r = D.bool (inI n l m) ∧ H' = [] := by
  refine Con.walk good fn_ev_within (by simp) ?_
  unfold s_ev_within
  simp only [argsE]
  repeat' (first | (with_reducible first | refine Wa.h ?_ | refine Ws.h ?_ | refine Wr.h ?_ | refine Wb.h fun K hK => ?_ | (refine hK _ ?_; clear hK K)) | ((with_reducible refine kQ ?_ ?_); kernel_rfl) | ((with_reducible refine k1 ?_ ?_); rfl) | ((with_reducible refine k0 ?_ ?_); rfl) | ((with_reducible apply kB) <;> first | rfl | intro h) | ((with_reducible refine kM ?_ ?_); rfl) | ((with_reducible refine wuT ?_ ?_); · assumption) | ((with_reducible refine wuF ?_ ?_); · assumption) | ((with_reducible refine wtT ?_ ?_); · assumption) | ((with_reducible refine wtF ?_ ?_); · assumption) | (with_reducible refine Wt.h (fun h => ?_) (fun h => ?_)) <;> try (exfalso; omega) | (with_reducible refine Wu.h (fun h => ?_) (fun h => ?_)) <;> try simp only [h] | (with_reducible refine Wn.h (fun h => ?_) ?_) <;> try (exfalso; omega) | ((fail_if_success with_reducible refine Wz.h ?_); simp (disch := omega) only [↓LD, LU, LS, LT, loadA_rf, seval]) | ((with_reducible refine And.intro ?_ ?_); omega) | ((fail_if_success with_reducible refine Wz.h ?_); simp only [D.int, D.bool]))
  all_goals (refine end1 rfl rfl (by kernel_rfl) .f ⟨congrArg D.bool ?_, rfl⟩; simp [inI, *])
instance {n l m : Int} {H : List Row} {K : D → List Row → Prop} : Wa (callW Try.prog (.fn 26 []) [.f (.v (.int .i64 n)), .f (.v (.int .i64 l)), .f (.v (.int .i64 m))] H K) (K (.f (.v (.bool (inI n l m)))) H) :=
  ⟨callW_pure (c_ev_within n l m) rfl rfl rfl⟩
theorem c_ver_is (n : Int) : Con Try.prog 43 [D.int n] [] fun r H' => r = D.bool (inI n 1 8) ∧ H' = [] := by
  refine Con.walk good fn_ver_is (by simp) ?_
  unfold s_ver_is
  simp only [argsE]
  repeat' (first | (with_reducible first | refine Wa.h ?_ | refine Ws.h ?_ | refine Wr.h ?_ | refine Wb.h fun K hK => ?_ | (refine hK _ ?_; clear hK K)) | ((with_reducible refine kQ ?_ ?_); kernel_rfl) | ((with_reducible refine k1 ?_ ?_); rfl) | ((with_reducible refine k0 ?_ ?_); rfl) | ((with_reducible apply kB) <;> first | rfl | intro h) | ((with_reducible refine kM ?_ ?_); rfl) | ((with_reducible refine wuT ?_ ?_); · assumption) | ((with_reducible refine wuF ?_ ?_); · assumption) | ((with_reducible refine wtT ?_ ?_); · assumption) | ((with_reducible refine wtF ?_ ?_); · assumption) | (with_reducible refine Wt.h (fun h => ?_) (fun h => ?_)) <;> try (exfalso; omega) | (with_reducible refine Wu.h (fun h => ?_) (fun h => ?_)) <;> try simp only [h] | (with_reducible refine Wn.h (fun h => ?_) ?_) <;> try (exfalso; omega) | ((fail_if_success with_reducible refine Wz.h ?_); simp (disch := omega) only [↓LD, LU, LS, LT, loadA_rf, seval]) | ((with_reducible refine And.intro ?_ ?_); omega) | ((fail_if_success with_reducible refine Wz.h ?_); simp only [D.int, D.bool]))
  all_goals (refine end1 rfl rfl (by kernel_rfl) .f ⟨congrArg D.bool ?_, rfl⟩; simp [inI, *])
def ownI (v : Int) : Int := (v.tmod 10 + 10).tmod 10
theorem c_ver_Owner (v : Int) : Con Try.prog 44 [D.int v] [] fun r H' => r = D.int (ownI v) ∧ H' = [] := by
  have h1 := Int.tmod_lt_of_pos v (show (0 : Int) < 10 by omega)
  have h2 : -10 < v.tmod 10 := by
    have := Int.tmod_lt_of_pos (-v) (show (0 : Int) < 10 by omega)
    rw [Int.neg_tmod] at this; omega
  refine Con.walk good fn_ver_Owner (by simp) ?_
  unfold s_ver_Owner
  simp only [argsE]
  repeat' (first | (with_reducible first | refine Wa.h ?_ | refine Ws.h ?_ | refine Wr.h ?_ | refine Wb.h fun K hK => ?_ | (refine hK _ ?_; clear hK K)) | ((with_reducible refine kQ ?_ ?_); kernel_rfl) | ((with_reducible refine k1 ?_ ?_); rfl) | ((with_reducible refine k0 ?_ ?_); rfl) | ((with_reducible apply kB) <;> first | rfl | intro h) | ((with_reducible refine kM ?_ ?_); rfl) | ((with_reducible refine wuT ?_ ?_); · assumption) | ((with_reducible refine wuF ?_ ?_); · assumption) | ((with_reducible refine wtT ?_ ?_); · assumption) | ((with_reducible refine wtF ?_ ?_); · assumption) | (with_reducible refine Wt.h (fun h => ?_) (fun h => ?_)) <;> try (exfalso; omega) | (with_reducible refine Wu.h (fun h => ?_) (fun h => ?_)) <;> try simp only [h] | (with_reducible refine Wn.h (fun h => ?_) ?_) <;> try (exfalso; omega) | ((fail_if_success with_reducible refine Wz.h ?_); simp (disch := omega) only [↓LD, LU, LS, LT, loadA_rf, seval]) | ((with_reducible refine And.intro ?_ ?_); omega) | ((fail_if_success with_reducible refine Wz.h ?_); simp only [D.int, D.bool]))
  refine end1 rfl rfl (by kernel_rfl) .f ⟨rfl, rfl⟩
def verB (v : Int) : Bool := inI v 1 1099511627776 && inI (ownI v) 1 8
instance {n : Int} {H : List Row} {K : D → List Row → Prop} : Wa (callW Try.prog (.fn 43 []) [.f (.v (.int .i64 n))] H K) (K (.f (.v (.bool (inI n 1 8)))) H) :=
  ⟨callW_pure (c_ver_is n) rfl rfl rfl⟩
instance {n : Int} {H : List Row} {K : D → List Row → Prop} : Wa (callW Try.prog (.fn 44 []) [.f (.v (.int .i64 n))] H K) (K (.f (.v (.int .i64 (ownI n)))) H) :=
  ⟨callW_pure (c_ver_Owner n) rfl rfl rfl⟩
theorem c_ver_Right (v : Int) : Con Try.prog 27 [D.int v] [] fun r H' => r = D.bool (verB v) ∧ H' = [] := by
  refine Con.walk good fn_ver_Right (by simp) ?_
  unfold s_ver_Right
  simp only [argsE]
  repeat' (first | (with_reducible first | refine Wa.h ?_ | refine Ws.h ?_ | refine Wr.h ?_ | refine Wb.h fun K hK => ?_ | (refine hK _ ?_; clear hK K)) | ((with_reducible refine kQ ?_ ?_); kernel_rfl) | ((with_reducible refine k1 ?_ ?_); rfl) | ((with_reducible refine k0 ?_ ?_); rfl) | ((with_reducible apply kB) <;> first | rfl | intro h) | ((with_reducible refine kM ?_ ?_); rfl) | ((with_reducible refine wuT ?_ ?_); · assumption) | ((with_reducible refine wuF ?_ ?_); · assumption) | ((with_reducible refine wtT ?_ ?_); · assumption) | ((with_reducible refine wtF ?_ ?_); · assumption) | (with_reducible refine Wt.h (fun h => ?_) (fun h => ?_)) <;> try (exfalso; omega) | (with_reducible refine Wu.h (fun h => ?_) (fun h => ?_)) <;> try simp only [h] | (with_reducible refine Wn.h (fun h => ?_) ?_) <;> try (exfalso; omega) | ((fail_if_success with_reducible refine Wz.h ?_); simp (disch := omega) only [↓LD, LU, LS, LT, loadA_rf, seval]) | ((with_reducible refine And.intro ?_ ?_); omega) | ((fail_if_success with_reducible refine Wz.h ?_); simp only [D.int, D.bool]))
  all_goals (refine end1 rfl rfl (by kernel_rfl) .f ⟨congrArg D.bool ?_, rfl⟩; simp [verB, inI, *])
instance {n : Int} {H : List Row} {K : D → List Row → Prop} : Wa (callW Try.prog (.fn 27 []) [.f (.v (.int .i64 n))] H K) (K (.f (.v (.bool (verB n)))) H) :=
  ⟨callW_pure (c_ver_Right n) rfl rfl rfl⟩
/-- A letter of a name. -/
def chB (c : UInt8) : Bool := inI c.toNat 97 122 || inI c.toNat 48 57 || decide ((c.toNat : Int) = 45)
def nameB (l : Bs) : Bool := decide (l ≠ []) && decide (l.length ≤ 16) && l.all chB
theorem c_ev_IsName (l : Bs) : Con Try.prog 45 [.f (.v (.string (BB l)))] [] fun r H' => r = D.bool (nameB l) ∧ H' = [] := by
  refine Con.walk good fn_ev_IsName (by simp) ?_
  unfold s_ev_IsName
  simp only [argsE]
  repeat' (first | (with_reducible first | refine Wa.h ?_ | refine Ws.h ?_ | refine Wr.h ?_ | refine Wb.h fun K hK => ?_ | (refine hK _ ?_; clear hK K)) | ((with_reducible refine kQ ?_ ?_); kernel_rfl) | ((with_reducible refine k1 ?_ ?_); rfl) | ((with_reducible refine k0 ?_ ?_); rfl) | ((with_reducible apply kB) <;> first | rfl | intro h) | ((with_reducible refine kM ?_ ?_); rfl) | ((with_reducible refine wuT ?_ ?_); · assumption) | ((with_reducible refine wuF ?_ ?_); · assumption) | ((with_reducible refine wtT ?_ ?_); · assumption) | ((with_reducible refine wtF ?_ ?_); · assumption) | (with_reducible refine Wt.h (fun h => ?_) (fun h => ?_)) <;> try (exfalso; omega) | (with_reducible refine Wu.h (fun h => ?_) (fun h => ?_)) <;> try simp only [h] | (with_reducible refine Wn.h (fun h => ?_) ?_) <;> try (exfalso; omega) | ((fail_if_success with_reducible refine Wz.h ?_); simp (disch := omega) only [↓LD, LU, LS, LT, loadA_rf, seval]) | ((with_reducible refine And.intro ?_ ?_); omega) | ((fail_if_success with_reducible refine Wz.h ?_); simp only [D.int, D.bool]))
  · refine end1 rfl rfl (by kernel_rfl) .f ⟨congrArg D.bool ?_, rfl⟩
    simp [nameB, h]
  · rename_i h0
    refine end1 rfl rfl (by kernel_rfl) .f ⟨congrArg D.bool ?_, rfl⟩
    have : ¬ l.length ≤ 16 := by omega
    simp [nameB, this]
  rename_i h0
  have hn : nameB l = l.all chB := by
    have : l.length ≤ 16 := by omega
    simp [nameB, h0, this]
  refine HS.loopG [13, 14, 15] (fun k : Nat => ⟨frm 39 [(13, .f (fY l)), (14, D.int l.length), (15, D.int k)], [], []⟩) (fun k => k ≤ l.length ∧ l.all chB = (l.drop k).all chB) (fun k => l.length - k) 0 (by kernel_rfl) ⟨Nat.zero_le _, rfl⟩ ?_
  rintro k ⟨hk, hr⟩
  by_cases hkl : k < l.length
  · rw [drop_gt hkl, List.all_cons] at hr
    repeat' (first | (with_reducible first | refine Wa.h ?_ | refine Ws.h ?_ | refine Wr.h ?_ | refine Wb.h fun K hK => ?_ | (refine hK _ ?_; clear hK K)) | ((with_reducible refine kQ ?_ ?_); kernel_rfl) | ((with_reducible refine k1 ?_ ?_); rfl) | ((with_reducible refine k0 ?_ ?_); rfl) | ((with_reducible apply kB) <;> first | rfl | intro h) | ((with_reducible refine kM ?_ ?_); rfl) | ((with_reducible refine wuT ?_ ?_); · assumption) | ((with_reducible refine wuF ?_ ?_); · assumption) | ((with_reducible refine wtT ?_ ?_); · assumption) | ((with_reducible refine wtF ?_ ?_); · assumption) | (with_reducible refine Wt.h (fun h => ?_) (fun h => ?_)) <;> try (exfalso; omega) | (with_reducible refine Wu.h (fun h => ?_) (fun h => ?_)) <;> try simp only [h] | (with_reducible refine Wn.h (fun h => ?_) ?_) <;> try (exfalso; omega) | ((fail_if_success with_reducible refine Wz.h ?_); simp (disch := omega) only [↓LD, LU, LS, LT, loadA_rf, seval, fY]) | ((with_reducible refine And.intro ?_ ?_); omega) | ((fail_if_success with_reducible refine Wz.h ?_); simp only [D.int, D.bool]))
    all_goals first
      | (refine end1 rfl rfl (by kernel_rfl) .f ⟨congrArg D.bool ?_, rfl⟩
         have hc : chB (gt l k) = false := by simp only [chB, inI]; simp [*]
         rw [hn, hr, hc]; rfl)
      | (refine Next.mk (k + 1) (by kernel_rfl) ⟨by omega, ?_⟩ (by omega)
         have hc : chB (gt l k) = true := by simp only [chB, inI]; simp [*]
         rw [hr, hc]; rfl)
  · repeat' (first | (with_reducible first | refine Wa.h ?_ | refine Ws.h ?_ | refine Wr.h ?_ | refine Wb.h fun K hK => ?_ | (refine hK _ ?_; clear hK K)) | ((with_reducible refine kQ ?_ ?_); kernel_rfl) | ((with_reducible refine k1 ?_ ?_); rfl) | ((with_reducible refine k0 ?_ ?_); rfl) | ((with_reducible apply kB) <;> first | rfl | intro h) | ((with_reducible refine kM ?_ ?_); rfl) | ((with_reducible refine wuT ?_ ?_); · assumption) | ((with_reducible refine wuF ?_ ?_); · assumption) | ((with_reducible refine wtT ?_ ?_); · assumption) | ((with_reducible refine wtF ?_ ?_); · assumption) | (with_reducible refine Wt.h (fun h => ?_) (fun h => ?_)) <;> try (exfalso; omega) | (with_reducible refine Wu.h (fun h => ?_) (fun h => ?_)) <;> try simp only [h] | (with_reducible refine Wn.h (fun h => ?_) ?_) <;> try (exfalso; omega) | ((fail_if_success with_reducible refine Wz.h ?_); simp (disch := omega) only [↓LD, LU, LS, LT, loadA_rf, seval]) | ((with_reducible refine And.intro ?_ ?_); omega) | ((fail_if_success with_reducible refine Wz.h ?_); simp only [D.int, D.bool]))
    refine end1 rfl rfl (by kernel_rfl) .f ⟨congrArg D.bool ?_, rfl⟩
    rw [hn, hr, List.drop_of_length_le (by omega)]; rfl
instance {l : Bs} {H : List Row} {K : D → List Row → Prop} : Wa (callW Try.prog (.fn 45 []) [.f (.v (.string (BB l)))] H K) (K (.f (.v (.bool (nameB l)))) H) :=
  ⟨callW_pure (c_ev_IsName l) rfl rfl rfl⟩
end Go.Proofs.Ytgbbpelfpagdoaa.Mir

/- Functions of the program, told without it. -/
namespace Go.Proofs.Ytgbbpelfpagdoaa.Mir
open Go Go.RowKit

/-- cutover.dag.right -/
def s_dag_right : SCode :=
  (.seq (.ops [.a 2 (.box 34 (.t 0)), .a 4 (.mv kF)]) (.seq (.ops [.a 5 (.mv (kI (-1)))]) (.seq (.seq (.ops [.a 8 (.off 0 (.t 2)), .a 9 (.load1 (.t 8)),
 .a 10 (.slen (.t 9)), .a 11 (.mv (kI 0))]) (.block 0 (.loop (.seq (.ops [.a 12 (.bin .lss (.t 11) (.t 10))]) (.seq (.cond (.t 12) .skip (.exit 0))
 (.seq (.block 1 (.seq (.ops [.a 13 (.idx 1 (.t 9) (.t 11)), .a 14 (.load1 (.t 13)), .a 7 (.mv (.t 14))]) (.seq (.seq (.ops (ap [.a 15 (.mv (.t 7)), .a
 16 (.mv (.t 5)), .a 17 (.bin .leq (.t 15) (.t 16))] (ap [.a 18 (.mv (.t 17)), .g (some 19) (.mv (.t 7)) 18 false] (ap [.g (some 20) (.mv (.t 1)) 18
 false, .g (some 21) (.bin .geq (.t 19) (.t 20)) 18 false] [.a 22 (.pick (.t 18) kT (.t 21))])))) (.cond (.t 22) (.seq (.ops [.a 4 (.mv kF)]) .ret)
 .skip)) (.ops [.a 23 (.mv (.t 7)), .a 5 (.mv (.t 23))])))) (.ops [.a 24 (.bin .add (.t 11) (kI 1)), .a 11 (.mv (.t 24))]))))))) (.seq (.ops (ap [.a 25
 (.off 1 (.t 2)), .a 26 (.load1 (.t 25)), .a 27 (.bin .geq (.t 26) (kI 1))] (ap [.a 28 (.mv (.t 27)), .g (some 29) (.off 1 (.t 2)) 28 true] (ap [.g
 (some 30) (.load1 (.t 29)) 28 true, .g (some 31) (.bin .leq (.t 30) (kI 5)) 28 true] (ap [.a 32 (.pick (.t 28) (.t 31) kF), .a 33 (.mv (.t 32)), .g
 (some 34) (.off 2 (.t 2)) 33 true] (ap [.g (some 35) (.load1 (.t 34)) 33 true, .g (some 36) (.bin .geq (.t 35) (kI 1)) 33 true] (ap [.a 37 (.pick (.t
 33) (.t 36) kF), .a 38 (.mv (.t 37)), .g (some 39) (.off 2 (.t 2)) 38 true] (ap [.g (some 40) (.load1 (.t 39)) 38 true, .g (some 41) (.bin .leq (.t 40)
 (kI 1048576)) 38 true] [.a 42 (.pick (.t 38) (.t 41) kF), .a 4 (.mv (.t 42))])))))))) .ret))))
theorem fn_dag_right : Fn Try.prog 39 43 [.t 4] s_dag_right := .of Try.func39 (by kernel_rfl)

/-- cutover.dag.met -/
def s_dag_met : SCode :=
  (.seq (.ops [.a 3 (.box 46 (.t 1)), .a 4 (.mv kF)]) (.seq (.ops (ap [.a 5 (.mv (.t 0)), .a 6 (.fn 42 [(.t 3)]), .a 7 (.call (kC 41) [(.t 5), (.t 6)])]
 [.a 8 (.unot (.t 7)), .a 4 (.mv (.t 8))])) .ret))
theorem fn_dag_met : Fn Try.prog 22 9 [.t 4] s_dag_met := .of Try.func22 (by kernel_rfl)

/-- cutover.dag.met$1 -/
def s_dag_met1 : SCode :=
  (.seq (.ops [.a 3 (.mv kF)]) (.seq (.ops (ap [.a 4 (.mv (.t 0)), .a 5 (.load1 (.t 1)), .a 6 (.slen (.t 5)), .a 7 (.bin .geq (.t 4) (.t 6))] (ap [.a 8
 (.mv (.t 7)), .g (some 9) (.load1 (.t 1)) 8 false] [.g (some 10) (.mv (.t 0)) 8 false, .g (some 11) (.idx 1 (.t 9) (.t 10)) 8 false, .g (some 12)
 (.load1 (.t 11)) 8 false, .g (some 13) (.unot (.t 12)) 8 false, .a 14 (.pick (.t 8) kT (.t 13)), .a 3 (.mv (.t 14))]))) .ret))
theorem fn_dag_met1 : Fn Try.prog 42 15 [.t 3] s_dag_met1 := .of Try.func42 (by kernel_rfl)

/-- slices.ContainsFunc[[]int,int] -/
def s_int_ContainsFunc : SCode :=
  (.seq (.ops [.a 4 (.mv kF)]) (.seq (.ops (ap [.a 5 (.mv (.t 0)), .a 6 (.mv (.t 1)), .a 7 (.call (kC 50) [(.t 5), (.t 6)])] (ap [.a 8 (.bin .geq (.t 7)
 (kI 0))] [.a 4 (.mv (.t 8))]))) .ret))
theorem fn_int_ContainsFunc : Fn Try.prog 41 9 [.t 4] s_int_ContainsFunc := .of Try.func41 (by kernel_rfl)

/-- slices.IndexFunc[[]int,int] -/
def s_int_IndexFunc : SCode :=
  (.seq (.ops [.a 4 (.mv (kI 0))]) (.seq (.seq (.ops [.a 6 (.mv (.t 0)), .a 7 (.slen (.t 6)), .a 8 (.mv (kI 0))]) (.block 0 (.loop (.seq (.ops [.a 9
 (.bin .lss (.t 8) (.t 7))]) (.seq (.cond (.t 9) .skip (.exit 0)) (.seq (.block 1 (.seq (.ops [.a 10 (.mv (.t 8)), .a 5 (.mv (.t 10))]) (.seq (.ops [.a
 11 (.mv (.t 1)), .a 12 (.mv (.t 0)), .a 13 (.mv (.t 5)), .a 14 (.idx 1 (.t 12) (.t 13)), .a 15 (.load1 (.t 14)), .a 16 (.call (.t 11) [(.t 15)])])
 (.cond (.t 16) (.seq (.ops [.a 17 (.mv (.t 5)), .a 4 (.mv (.t 17))]) .ret) .skip)))) (.ops [.a 18 (.bin .add (.t 8) (kI 1)), .a 8 (.mv (.t 18))])))))))
 (.seq (.ops [.a 4 (.mv (kI (-1)))]) .ret)))
theorem fn_int_IndexFunc : Fn Try.prog 50 19 [.t 4] s_int_IndexFunc := .of Try.func50 (by kernel_rfl)

/-- cutover.dag.order -/
def s_dag_order : SCode :=
  (.seq (.ops [.a 2 (.mv kN)]) (.seq (.ops [.a 3 (.mv kN)]) (.seq (.ops [.a 8 (.mv (.t 0)), .a 9 (.slen (.t 8)), .a 10 (.mkslice 4 1 1 [(.v (.bool
 false))] (.t 9) (.t 9)), .a 4 (.mv (.t 10))]) (.seq (.seq (.ops [.a 11 (.mv (.t 0)), .a 12 (.slen (.t 11)), .a 13 (.mv (kI 0))]) (.block 0 (.loop (.seq
 (.ops [.a 14 (.bin .lss (.t 13) (.t 12))]) (.seq (.cond (.t 14) .skip (.exit 0)) (.seq (.block 1 (.seq (.ops [.a 5 (.mv (kI (-1)))]) (.seq (.seq (.ops
 [.a 15 (.mv (.t 0)), .a 16 (.slen (.t 15)), .a 17 (.mv (kI 0))]) (.block 2 (.loop (.seq (.ops [.a 18 (.bin .lss (.t 17) (.t 16))]) (.seq (.cond (.t 18)
 .skip (.exit 2)) (.seq (.block 3 (.seq (.ops [.a 19 (.mv (.t 17)), .a 20 (.idx 3 (.t 15) (.t 17)), .a 21 (.loadA 3 (.t 20)), .a 7 (.alloc 34 [jN, jI,
 jI]), .a 6 (.mv (.t 19)), .n (.store 3 (.t 7) (.t 21))]) (.seq (.ops (ap [.a 22 (.mv (.t 5)), .a 23 (.bin .lss (.t 22) (kI 0))] (ap [.a 24 (.mv (.t
 23)), .g (some 25) (.mv (.t 4)) 24 true] (ap [.g (some 26) (.mv (.t 6)) 24 true, .g (some 27) (.idx 1 (.t 25) (.t 26)) 24 true, .g (some 28) (.load1
 (.t 27)) 24 true, .g (some 29) (.unot (.t 28)) 24 true, .a 30 (.pick (.t 24) (.t 29) kF), .a 31 (.mv (.t 30)), .g (some 32) (.off 0 (.t 7)) 31 true]
 (ap [.g (some 33) (.load1 (.t 32)) 31 true, .g (some 34) (.mv (.t 4)) 31 true, .g (some 35) (.call (kC 22) [(.t 33), (.t 34)]) 31 true] [.a 36 (.pick
 (.t 31) (.t 35) kF)]))))) (.cond (.t 36) (.ops [.a 37 (.mv (.t 6)), .a 5 (.mv (.t 37))]) .skip)))) (.ops [.a 38 (.bin .add (.t 17) (kI 1)), .a 17 (.mv
 (.t 38))]))))))) (.seq (.seq (.ops [.a 39 (.mv (.t 5)), .a 40 (.bin .lss (.t 39) (kI 0))]) (.cond (.t 40) (.exit 0) .skip)) (.seq (.ops [.a 41 (.mv (.t
 4)), .a 42 (.mv (.t 5)), .a 43 (.idx 1 (.t 41) (.t 42)), .n (.store 1 (.t 43) kT)]) (.ops (ap [.a 44 (.mv (.t 3)), .a 45 (.mv (.t 5)), .a 46 (.bsl 3 1
 1 [jI] [(0, (.t 45))]), .a 47 (.app 3 1 8 (.t 44) (.t 46))] [.a 3 (.mv (.t 47))]))))))) (.ops [.a 48 (.bin .add (.t 13) (kI 1)), .a 13 (.mv (.t
 48))]))))))) (.seq (.ops [.a 49 (.mv (.t 3)), .a 2 (.mv (.t 49))]) .ret)))))
theorem fn_dag_order : Fn Try.prog 40 50 [.t 2] s_dag_order := .of Try.func40 (by kernel_rfl)

/-- cutover.dag.Check -/
def s_dag_Check : SCode :=
  (.seq (.ops [.a 2 (.mv (kI 0))]) (.seq (.seq (.ops (ap [.a 5 (.mv (.t 0)), .a 6 (.slen (.t 5)), .a 7 (.bin .lss (.t 6) (kI 1))] (ap [.a 8 (.mv (.t 7)),
 .g (some 9) (.mv (.t 0)) 8 false] (ap [.g (some 10) (.slen (.t 9)) 8 false, .g (some 11) (.bin .gtr (.t 10) (kI 8)) 8 false] [.a 12 (.pick (.t 8) kT
 (.t 11))])))) (.cond (.t 12) (.seq (.ops [.a 2 (.mv (kI 1))]) .ret) .skip)) (.seq (.seq (.ops [.a 13 (.mv (.t 0)), .a 14 (.slen (.t 13)), .a 15 (.mv
 (kI 0))]) (.block 0 (.loop (.seq (.ops [.a 16 (.bin .lss (.t 15) (.t 14))]) (.seq (.cond (.t 16) .skip (.exit 0)) (.seq (.block 1 (.seq (.ops [.a 17
 (.idx 3 (.t 13) (.t 15)), .a 18 (.loadA 3 (.t 17)), .a 4 (.alloc 34 [jN, jI, jI]), .n (.store 3 (.t 4) (.t 18))]) (.seq (.ops (ap [.a 19 (.loadA 3 (.t
 4)), .a 20 (.mv (.t 0)), .a 21 (.slen (.t 20)), .a 22 (.call (kC 39) [(.t 19), (.t 21)])] [.a 23 (.unot (.t 22))])) (.cond (.t 23) (.seq (.ops [.a 2
 (.mv (kI 1))]) .ret) .skip)))) (.ops [.a 24 (.bin .add (.t 15) (kI 1)), .a 15 (.mv (.t 24))]))))))) (.seq (.seq (.ops (ap [.a 25 (.mv (.t 0)), .a 26
 (.call (kC 40) [(.t 25)])] [.a 27 (.slen (.t 26)), .a 28 (.mv (.t 0)), .a 29 (.slen (.t 28)), .a 30 (.bin .lss (.t 27) (.t 29))])) (.cond (.t 30) (.seq
 (.ops [.a 2 (.mv (kI 9))]) .ret) .skip)) (.seq (.ops [.a 2 (.mv (kI 0))]) .ret)))))
theorem fn_dag_Check : Fn Try.prog 21 31 [.t 2] s_dag_Check := .of Try.func21 (by kernel_rfl)

/-- cutover.dag.Ready -/
def s_dag_Ready : SCode :=
  (.seq (.ops [.a 4 (.mv kN)]) (.seq (.ops [.a 5 (.mv kN)]) (.seq (.seq (.ops (ap [.a 8 (.mv (.t 0)), .a 9 (.call (kC 21) [(.t 8)])] [.a 10 (.bin .neq
 (.t 9) (kI 0))])) (.cond (.t 10) (.seq (.ops [.a 4 (.mv kN)]) .ret) .skip)) (.seq (.seq (.ops [.a 11 (.mv (.t 0)), .a 12 (.slen (.t 11)), .a 13 (.mv
 (kI 0))]) (.block 0 (.loop (.seq (.ops [.a 14 (.bin .lss (.t 13) (.t 12))]) (.seq (.cond (.t 14) .skip (.exit 0)) (.seq (.block 1 (.seq (.ops [.a 15
 (.mv (.t 13)), .a 16 (.idx 3 (.t 11) (.t 13)), .a 17 (.loadA 3 (.t 16)), .a 7 (.alloc 34 [jN, jI, jI]), .a 6 (.mv (.t 15)), .n (.store 3 (.t 7) (.t
 17))]) (.seq (.ops (ap [.a 18 (.mv (.t 6)), .a 19 (.mv (.t 1)), .a 20 (.slen (.t 19)), .a 21 (.bin .geq (.t 18) (.t 20))] (ap [.a 22 (.mv (.t 21)), .g
 (some 23) (.mv (.t 1)) 22 false] (ap [.g (some 24) (.mv (.t 6)) 22 false, .g (some 25) (.idx 1 (.t 23) (.t 24)) 22 false, .g (some 26) (.load1 (.t 25))
 22 false, .g (some 27) (.unot (.t 26)) 22 false, .a 28 (.pick (.t 22) kT (.t 27)), .a 29 (.mv (.t 28)), .g (some 30) (.off 0 (.t 7)) 29 true] (ap [.g
 (some 31) (.load1 (.t 30)) 29 true, .g (some 32) (.mv (.t 1)) 29 true, .g (some 33) (.call (kC 22) [(.t 31), (.t 32)]) 29 true] [.a 34 (.pick (.t 29)
 (.t 33) kF)]))))) (.cond (.t 34) (.ops (ap [.a 35 (.mv (.t 5)), .a 36 (.mv (.t 6)), .a 37 (.bsl 3 1 1 [jI] [(0, (.t 36))]), .a 38 (.app 3 1 8 (.t 35)
 (.t 37))] [.a 5 (.mv (.t 38))])) .skip)))) (.ops [.a 39 (.bin .add (.t 13) (kI 1)), .a 13 (.mv (.t 39))]))))))) (.seq (.ops [.a 40 (.mv (.t 5)), .a 4
 (.mv (.t 40))]) .ret)))))
theorem fn_dag_Ready : Fn Try.prog 11 41 [.t 4] s_dag_Ready := .of Try.func11 (by kernel_rfl)

/-- slices.Clone[[]int,int] -/
def s_int_Clone : SCode :=
  (.seq (.ops [.a 2 (.mv kN)]) (.seq (.seq (.ops [.a 3 (.mv (.t 0)), .a 4 (.nilq true 0 (.t 3) kN)]) (.cond (.t 4) (.seq (.ops [.a 2 (.mv kN)]) .ret)
 .skip)) (.seq (.ops (ap [.a 5 (.bsl 3 1 0 [] []), .a 6 (.mv (.t 0)), .a 7 (.app 3 1 8 (.t 5) (.t 6))] [.a 2 (.mv (.t 7))])) .ret)))
theorem fn_int_Clone : Fn Try.prog 24 8 [.t 2] s_int_Clone := .of Try.func24 (by kernel_rfl)

/-- slices.Contains[[]int,int] -/
def s_int_Contains : SCode :=
  (.seq (.ops [.a 4 (.mv kF)]) (.seq (.ops (ap [.a 5 (.mv (.t 0)), .a 6 (.mv (.t 1)), .a 7 (.call (kC 51) [(.t 5), (.t 6)])] (ap [.a 8 (.bin .geq (.t 7)
 (kI 0))] [.a 4 (.mv (.t 8))]))) .ret))
theorem fn_int_Contains : Fn Try.prog 47 9 [.t 4] s_int_Contains := .of Try.func47 (by kernel_rfl)

/-- slices.Index[[]int,int] -/
def s_int_Index : SCode :=
  (.seq (.ops [.a 4 (.mv (kI 0))]) (.seq (.seq (.ops [.a 6 (.mv (.t 0)), .a 7 (.slen (.t 6)), .a 8 (.mv (kI 0))]) (.block 0 (.loop (.seq (.ops [.a 9
 (.bin .lss (.t 8) (.t 7))]) (.seq (.cond (.t 9) .skip (.exit 0)) (.seq (.block 1 (.seq (.ops [.a 10 (.mv (.t 8)), .a 5 (.mv (.t 10))]) (.seq (.ops [.a
 11 (.mv (.t 1)), .a 12 (.mv (.t 0)), .a 13 (.mv (.t 5)), .a 14 (.idx 1 (.t 12) (.t 13)), .a 15 (.load1 (.t 14)), .a 16 (.bin .eql (.t 11) (.t 15))])
 (.cond (.t 16) (.seq (.ops [.a 17 (.mv (.t 5)), .a 4 (.mv (.t 17))]) .ret) .skip)))) (.ops [.a 18 (.bin .add (.t 8) (kI 1)), .a 8 (.mv (.t 18))])))))))
 (.seq (.ops [.a 4 (.mv (kI (-1)))]) .ret)))
theorem fn_int_Index : Fn Try.prog 51 19 [.t 4] s_int_Index := .of Try.func51 (by kernel_rfl)

end Go.Proofs.Ytgbbpelfpagdoaa.Mir

/- The program's graphs: their contracts over plain lists: right, met. -/
namespace Go.Proofs.Ytgbbpelfpagdoaa.Mir
open Go Go.RowKit
set_option linter.unusedVariables false
set_option linter.unusedSimpArgs false
set_option maxHeartbeats 1000000

def rise (n : Int) : Int → List Int → Bool
  | _, [] => true
  | last, x :: xs => decide (last < x) && decide (x < n) && rise n x xs
def rightB (d : Nd) (n : Int) : Bool := rise n (-1) d.ns && (decide (1 ≤ d.tr) && decide (d.tr ≤ 5) && decide (1 ≤ d.le) && decide (d.le ≤ 1048576))
def ndD (d : Nd) : D := .ag [.f (fI d.ns), D.int d.tr, D.int d.le]

theorem c_dag_right (d : Nd) (n : Int) (hl : d.ns.length < 1000000) : Con Try.prog 39 [ndD d, D.int n] [] fun r H' => r = D.bool (rightB d n) ∧ H' = [] := by
  obtain ⟨ns, tr, le⟩ := d
  dsimp only at hl
  refine Con.walk good fn_dag_right (by simp) ?_
  unfold s_dag_right
  simp only [argsE, List.length_nil, Nat.reduceAdd]
  repeat' (first | (with_reducible first | refine Wa.h ?_ | refine Ws.h ?_ | refine Wr.h ?_ | refine Wb.h fun K hK => ?_ | (refine hK _ ?_; clear hK K)) | ((with_reducible refine kQ ?_ ?_); kernel_rfl) | ((with_reducible refine k1 ?_ ?_); rfl) | ((with_reducible refine k0 ?_ ?_); rfl) | ((with_reducible apply kB) <;> first | rfl | intro h) | ((with_reducible refine kM ?_ ?_); rfl) | (with_reducible refine Wt.h (fun h => ?_) (fun h => ?_)) <;> try (exfalso; omega) | (with_reducible refine Wu.h (fun h => ?_) (fun h => ?_)) <;> try simp only [h] | (with_reducible refine Wn.h (fun h => ?_) ?_) <;> try (exfalso; omega) | ((fail_if_success with_reducible refine Wz.h ?_); simp (disch := omega) only [↓LD, LU, LS, LT, loadA_rf, seval, fI, ndD]) | ((with_reducible refine And.intro ?_ ?_); omega) | ((fail_if_success with_reducible refine Wz.h ?_); simp only [D.int, D.bool]))
  refine HS.loopP (fun x : Nat × Int => [(1, D.int n), (2, .pt 0 0), (4, D.bool false), (5, D.int x.2), (9, .f (fI ns)), (10, D.int ns.length), (11, D.int x.1)]) (fun _ => [.box 34 [.f (fI ns), D.int tr, D.int le]])
    (fun x => x.1 ≤ ns.length ∧ rise n (-1) ns = rise n x.2 (ns.drop x.1)) (fun x => ns.length - x.1) (0, -1) rfl (by kernel_rfl) ⟨Nat.zero_le _, rfl⟩ ?_
  rintro ⟨k, z⟩ ⟨hk, hr⟩
  dsimp only at hk hr
  repeat' (first | (with_reducible first | refine Wa.h ?_ | refine Ws.h ?_ | refine Wr.h ?_ | refine Wb.h fun K hK => ?_ | (refine hK _ ?_; clear hK K)) | ((with_reducible refine kQ ?_ ?_); kernel_rfl) | ((with_reducible refine k1 ?_ ?_); rfl) | ((with_reducible refine k0 ?_ ?_); rfl) | ((with_reducible apply kB) <;> first | rfl | intro h) | ((with_reducible refine kM ?_ ?_); rfl) | (with_reducible refine Wt.h (fun h => ?_) (fun h => ?_)) <;> try (exfalso; omega) | (with_reducible refine Wu.h (fun h => ?_) (fun h => ?_)) <;> try simp only [h] | (with_reducible refine Wn.h (fun h => ?_) ?_) <;> try (exfalso; omega) | ((fail_if_success with_reducible refine Wz.h ?_); simp (disch := omega) only [↓LD, LU, LS, LT, loadA_rf, seval, fI]) | ((with_reducible refine And.intro ?_ ?_); omega) | ((fail_if_success with_reducible refine Wz.h ?_); simp only [D.int, D.bool]))
  all_goals first
    | (refine end1 rfl rfl (by kernel_rfl) .f ⟨congrArg D.bool ?_, rfl⟩
       first
        | (rw [rightB, hr, drop_gt (by omega), rise]; simp; omega)
        | (rw [rightB, hr, List.drop_of_length_le (by omega)]; simp [rise]; omega))
    | (refine NextP.mk (k + 1, gt ns k) rfl (by kernel_rfl) ?_ ?_
       · refine ⟨by dsimp only; omega, ?_⟩
         rw [hr, drop_gt (by omega)]; simp [rise]; omega
       · dsimp only; omega)

/-- Is a node among those that are done? -/
def inB (done : List Bool) (x : Int) : Bool := decide (x < done.length) && gt done x.toNat
def metB (done : List Bool) (ns : List Int) : Bool := ns.all (inB done)
theorem c_dag_met1 (done : List Bool) (x : Int) (hx : 0 ≤ x) (hl : done.length < 140737488355328) : Con Try.prog 42 [D.int x, .pt 0 0] [.box 46 [.f (fB done)]] fun r H' => r = D.bool (!inB done x) ∧ H' = [.box 46 [.f (fB done)]] := by
  refine Con.walk good fn_dag_met1 (by simp) ?_
  unfold s_dag_met1
  simp only [argsE, List.length_cons, List.length_nil, Nat.reduceAdd]
  repeat' (first | (with_reducible first | refine Wa.h ?_ | refine Ws.h ?_ | refine Wr.h ?_ | refine Wb.h fun K hK => ?_ | (refine hK _ ?_; clear hK K)) | ((with_reducible refine kQ ?_ ?_); kernel_rfl) | ((with_reducible refine k1 ?_ ?_); rfl) | ((with_reducible refine k0 ?_ ?_); rfl) | ((with_reducible apply kB) <;> first | rfl | intro h) | ((with_reducible refine kM ?_ ?_); rfl) | (with_reducible refine Wt.h (fun h => ?_) (fun h => ?_)) <;> try (exfalso; omega) | (with_reducible refine Wu.h (fun h => ?_) (fun h => ?_)) <;> try simp only [h] | (with_reducible refine Wn.h (fun h => ?_) ?_) <;> try (exfalso; omega) | ((fail_if_success with_reducible refine Wz.h ?_); simp (disch := omega) only [↓LD, LU, LS, LT, loadA_rf, seval, fB]) | ((with_reducible refine And.intro ?_ ?_); omega) | ((fail_if_success with_reducible refine Wz.h ?_); simp only [D.int, D.bool]))
  · refine endA rfl rfl ⟨congrArg D.bool ?_, rfl⟩
    simp [inB]; omega
  · refine endA rfl rfl ⟨congrArg D.bool ?_, rfl⟩
    have h1 : x < done.length := by omega
    simp [inB, h1]

/-- The first place of which a test says yes; -1. -/
def idxF {α : Type} (p : α → Bool) : Nat → List α → Int
  | _, [] => -1
  | i, x :: xs => if p x then i else idxF p (i + 1) xs
theorem idxF_any {α : Type} (p : α → Bool) : ∀ (i : Nat) (l : List α), decide (0 ≤ idxF p i l) = l.any p
  | _, [] => rfl
  | i, x :: xs => by
    simp only [idxF, List.any_cons]
    split
    · rename_i h; simp [h]
    · rename_i h; rw [idxF_any p (i + 1) xs]; simp [h]
theorem gt_mem {α : Type} [Inhabited α] {l : List α} {k : Nat} (h : k < l.length) : gt l k ∈ l := by rw [gt_eq h]; exact List.getElem_mem h
theorem c_int_IndexFunc (l : List Int) (g : FuncId) (caps : List D) (H : List Row) (p : Int → Bool) (hl : l.length < 1000000)
    (hf : ∀ x ∈ l, Con Try.prog g (D.int x :: caps) H fun r H' => r = D.bool (p x) ∧ H' = H) : Con Try.prog 50 [.f (fI l), .fn g caps] H fun r H' => r = D.int (idxF p 0 l) ∧ H' = H := by
  refine Con.walk good fn_int_IndexFunc (by simp) ?_
  unfold s_int_IndexFunc
  simp only [argsE, List.length_cons, List.length_nil, Nat.reduceAdd]
  repeat' (first | (with_reducible first | refine Wa.h ?_ | refine Ws.h ?_ | refine Wr.h ?_ | refine Wb.h fun K hK => ?_ | (refine hK _ ?_; clear hK K)) | ((with_reducible refine kQ ?_ ?_); kernel_rfl) | ((with_reducible refine k1 ?_ ?_); rfl) | ((with_reducible refine k0 ?_ ?_); rfl) | ((with_reducible apply kB) <;> first | rfl | intro h) | ((with_reducible refine kM ?_ ?_); rfl) | (with_reducible refine Wt.h (fun h => ?_) (fun h => ?_)) <;> try (exfalso; omega) | (with_reducible refine Wu.h (fun h => ?_) (fun h => ?_)) <;> try simp only [h] | (with_reducible refine Wn.h (fun h => ?_) ?_) <;> try (exfalso; omega) | ((fail_if_success with_reducible refine Wz.h ?_); simp (disch := omega) only [↓LD, LU, LS, LT, loadA_rf, seval, fI]) | ((with_reducible refine And.intro ?_ ?_); omega) | ((fail_if_success with_reducible refine Wz.h ?_); simp only [D.int, D.bool]))
  refine HS.loopP (fun x : Nat => [(0, .f (fI l)), (1, .fn g caps), (7, D.int l.length), (8, D.int x)]) (fun _ => H)
    (fun x => x ≤ l.length ∧ idxF p 0 l = idxF p x (l.drop x)) (fun x => l.length - x) 0 rfl (by kernel_rfl) ⟨Nat.zero_le _, rfl⟩ ?_
  rintro k ⟨hk, hr⟩
  repeat' (first | (with_reducible first | refine Wa.h ?_ | refine Ws.h ?_ | refine Wr.h ?_ | refine Wb.h fun K hK => ?_ | (refine hK _ ?_; clear hK K)) | ((with_reducible refine kQ ?_ ?_); kernel_rfl) | ((with_reducible refine k1 ?_ ?_); rfl) | ((with_reducible refine k0 ?_ ?_); rfl) | ((with_reducible apply kB) <;> first | rfl | intro h) | ((with_reducible refine kM ?_ ?_); rfl) | (with_reducible refine Wt.h (fun h => ?_) (fun h => ?_)) <;> try (exfalso; omega) | (with_reducible refine Wu.h (fun h => ?_) (fun h => ?_)) <;> try simp only [h] | (with_reducible refine Wn.h (fun h => ?_) ?_) <;> try (exfalso; omega) | ((fail_if_success with_reducible refine Wz.h ?_); simp (disch := omega) only [↓LD, LU, LS, LT, loadA_rf, seval, fI]) | ((with_reducible refine And.intro ?_ ?_); omega) | ((fail_if_success with_reducible refine Wz.h ?_); simp only [D.int, D.bool]))
  rotate_left
  · refine endA rfl rfl ⟨congrArg D.int ?_, rfl⟩
    rw [hr, List.drop_of_length_le (by omega)]; rfl
  refine callW_self (hf _ (gt_mem (by omega))) ?_
  rintro _ H' ⟨rfl, hH⟩
  rw [hH]; clear hH H'
  repeat' (first | (with_reducible first | refine Wa.h ?_ | refine Ws.h ?_ | refine Wr.h ?_ | refine Wb.h fun K hK => ?_ | (refine hK _ ?_; clear hK K)) | ((with_reducible refine kQ ?_ ?_); kernel_rfl) | ((with_reducible refine k1 ?_ ?_); rfl) | ((with_reducible refine k0 ?_ ?_); rfl) | ((with_reducible apply kB) <;> first | rfl | intro h) | ((with_reducible refine kM ?_ ?_); rfl) | (with_reducible refine Wt.h (fun h => ?_) (fun h => ?_)) <;> try (exfalso; omega) | (with_reducible refine Wu.h (fun h => ?_) (fun h => ?_)) <;> try simp only [h] | (with_reducible refine Wn.h (fun h => ?_) ?_) <;> try (exfalso; omega) | ((fail_if_success with_reducible refine Wz.h ?_); simp (disch := omega) only [↓LD, LU, LS, LT, loadA_rf, seval, D.bool]) | ((with_reducible refine And.intro ?_ ?_); omega) | ((fail_if_success with_reducible refine Wz.h ?_); simp only [D.int, D.bool]))
  · refine endA rfl rfl ⟨congrArg D.int ?_, rfl⟩
    rw [hr, drop_gt (by omega), idxF, if_pos h]
  · refine NextP.mk (k + 1) rfl (by kernel_rfl) ?_ ?_
    · refine ⟨by omega, ?_⟩
      rw [hr, drop_gt (by omega), idxF, if_neg (by simp [h])]
    · omega
theorem c_int_ContainsFunc (l : List Int) (g : FuncId) (caps : List D) (H : List Row) (p : Int → Bool) (hl : l.length < 1000000)
    (hf : ∀ x ∈ l, Con Try.prog g (D.int x :: caps) H fun r H' => r = D.bool (p x) ∧ H' = H) : Con Try.prog 41 [.f (fI l), .fn g caps] H fun r H' => r = D.bool (l.any p) ∧ H' = H := by
  refine Con.walk good fn_int_ContainsFunc (by simp) ?_
  unfold s_int_ContainsFunc
  simp only [argsE, List.length_cons, List.length_nil, Nat.reduceAdd]
  repeat' (first | (with_reducible first | refine Wa.h ?_ | refine Ws.h ?_ | refine Wr.h ?_ | refine Wb.h fun K hK => ?_ | (refine hK _ ?_; clear hK K)) | ((with_reducible refine kQ ?_ ?_); kernel_rfl) | ((with_reducible refine k1 ?_ ?_); rfl) | ((with_reducible refine k0 ?_ ?_); rfl) | ((with_reducible apply kB) <;> first | rfl | intro h) | ((with_reducible refine kM ?_ ?_); rfl) | (with_reducible refine Wt.h (fun h => ?_) (fun h => ?_)) <;> try (exfalso; omega) | (with_reducible refine Wu.h (fun h => ?_) (fun h => ?_)) <;> try simp only [h] | (with_reducible refine Wn.h (fun h => ?_) ?_) <;> try (exfalso; omega) | ((fail_if_success with_reducible refine Wz.h ?_); simp (disch := omega) only [↓LD, LU, LS, LT, loadA_rf, seval, fI]) | ((with_reducible refine And.intro ?_ ?_); omega) | ((fail_if_success with_reducible refine Wz.h ?_); simp only [D.int, D.bool]))
  refine callW_self (c_int_IndexFunc l g caps H p hl hf) ?_
  rintro _ H' ⟨rfl, hH⟩
  rw [hH]; clear hH H'
  repeat' (first | (with_reducible first | refine Wa.h ?_ | refine Ws.h ?_ | refine Wr.h ?_ | refine Wb.h fun K hK => ?_ | (refine hK _ ?_; clear hK K)) | ((with_reducible refine kQ ?_ ?_); kernel_rfl) | ((with_reducible refine k1 ?_ ?_); rfl) | ((with_reducible refine k0 ?_ ?_); rfl) | ((with_reducible apply kB) <;> first | rfl | intro h) | ((with_reducible refine kM ?_ ?_); rfl) | (with_reducible refine Wt.h (fun h => ?_) (fun h => ?_)) <;> try (exfalso; omega) | (with_reducible refine Wu.h (fun h => ?_) (fun h => ?_)) <;> try simp only [h] | (with_reducible refine Wn.h (fun h => ?_) ?_) <;> try (exfalso; omega) | ((fail_if_success with_reducible refine Wz.h ?_); simp (disch := omega) only [↓LD, LU, LS, LT, loadA_rf, seval, D.int]) | ((with_reducible refine And.intro ?_ ?_); omega) | ((fail_if_success with_reducible refine Wz.h ?_); simp only [D.int, D.bool]))
  all_goals
    refine endA rfl rfl ⟨congrArg D.bool ?_, rfl⟩
    rw [← idxF_any p 0 l]; simp; omega

theorem c_dag_met (ns : List Int) (done : List Bool) (h0 : ∀ x ∈ ns, 0 ≤ x) (hl : ns.length < 1000000) (hd : done.length < 140737488355328) : Con Try.prog 22 [.f (fI ns), .f (fB done)] [] fun r H' => r = D.bool (metB done ns) ∧ H' = [] := by
  refine Con.walk good fn_dag_met (by simp) ?_
  unfold s_dag_met
  simp only [argsE, List.length_cons, List.length_nil, Nat.reduceAdd]
  repeat' (first | (with_reducible first | refine Wa.h ?_ | refine Ws.h ?_ | refine Wr.h ?_ | refine Wb.h fun K hK => ?_ | (refine hK _ ?_; clear hK K)) | ((with_reducible refine kQ ?_ ?_); kernel_rfl) | ((with_reducible refine k1 ?_ ?_); rfl) | ((with_reducible refine k0 ?_ ?_); rfl) | ((with_reducible apply kB) <;> first | rfl | intro h) | ((with_reducible refine kM ?_ ?_); rfl) | (with_reducible refine Wt.h (fun h => ?_) (fun h => ?_)) <;> try (exfalso; omega) | (with_reducible refine Wu.h (fun h => ?_) (fun h => ?_)) <;> try simp only [h] | (with_reducible refine Wn.h (fun h => ?_) ?_) <;> try (exfalso; omega) | ((fail_if_success with_reducible refine Wz.h ?_); simp (disch := omega) only [↓LD, LU, LS, LT, loadA_rf, seval]) | ((with_reducible refine And.intro ?_ ?_); omega) | ((fail_if_success with_reducible refine Wz.h ?_); simp only [D.int, D.bool]))
  refine callW_self (c_int_ContainsFunc ns _ _ _ (fun x => !inB done x) hl ?_) ?_
  · intro x hx
    exact c_dag_met1 done x (h0 x hx) hd
  rintro _ H' ⟨rfl, rfl⟩
  repeat' (first | (with_reducible first | refine Wa.h ?_ | refine Ws.h ?_ | refine Wr.h ?_ | refine Wb.h fun K hK => ?_ | (refine hK _ ?_; clear hK K)) | ((with_reducible refine kQ ?_ ?_); kernel_rfl) | ((with_reducible refine k1 ?_ ?_); rfl) | ((with_reducible refine k0 ?_ ?_); rfl) | ((with_reducible apply kB) <;> first | rfl | intro h) | ((with_reducible refine kM ?_ ?_); rfl) | (with_reducible refine Wt.h (fun h => ?_) (fun h => ?_)) <;> try (exfalso; omega) | (with_reducible refine Wu.h (fun h => ?_) (fun h => ?_)) <;> try simp only [h] | (with_reducible refine Wn.h (fun h => ?_) ?_) <;> try (exfalso; omega) | ((fail_if_success with_reducible refine Wz.h ?_); simp (disch := omega) only [↓LD, LU, LS, LT, loadA_rf, seval]) | ((with_reducible refine And.intro ?_ ?_); omega) | ((fail_if_success with_reducible refine Wz.h ?_); simp only [D.int, D.bool]))
  refine end1 rfl rfl (by kernel_rfl) .f ⟨congrArg D.bool ?_, rfl⟩
  rw [metB, List.all_eq_not_any_not]
end Go.Proofs.Ytgbbpelfpagdoaa.Mir

/- Events: what is right, by the program: definitions, parts, all. -/
namespace Go.Proofs.Ytgbbpelfpagdoaa.Mir
open Go Go.RowKit
set_option linter.unusedVariables false
set_option linter.unusedSimpArgs false
set_option maxHeartbeats 4000000

theorem c_ev_rightDef (d : Nd) (n : Int) (hl : d.ns.length < 1000000) : Con Try.prog 46 [ndD d, D.int n] [] fun r H' => r = D.bool (rightB d n) ∧ H' = [] := by
  obtain ⟨ns, tr, le⟩ := d
  dsimp only at hl
  refine Con.walk good fn_ev_rightDef (by simp) ?_
  unfold s_ev_rightDef
  simp only [argsE]
  repeat' (first | (with_reducible first | refine Wa.h ?_ | refine Ws.h ?_ | refine Wr.h ?_ | refine Wb.h fun K hK => ?_ | (refine hK _ ?_; clear hK K)) | ((with_reducible refine kQ ?_ ?_); kernel_rfl) | ((with_reducible refine k1 ?_ ?_); rfl) | ((with_reducible refine k0 ?_ ?_); rfl) | ((with_reducible apply kB) <;> first | rfl | intro h) | ((with_reducible refine kM ?_ ?_); rfl) | ((with_reducible refine wuT ?_ ?_); · assumption) | ((with_reducible refine wuF ?_ ?_); · assumption) | ((with_reducible refine wtT ?_ ?_); · assumption) | ((with_reducible refine wtF ?_ ?_); · assumption) | (with_reducible refine Wt.h (fun h => ?_) (fun h => ?_)) <;> try (exfalso; omega) | (with_reducible refine Wu.h (fun h => ?_) (fun h => ?_)) <;> try simp only [h] | (with_reducible refine Wn.h (fun h => ?_) ?_) <;> try (exfalso; omega) | ((fail_if_success with_reducible refine Wz.h ?_); simp (disch := omega) only [↓LD, LU, LS, LT, loadA_rf, seval, fI, ndD]) | ((with_reducible refine And.intro ?_ ?_); omega) | ((fail_if_success with_reducible refine Wz.h ?_); simp only [D.int, D.bool]))
  refine HS.loopP (fun x : Nat × Int => [(1, D.int n), (2, .pt 0 0), (4, D.bool false), (5, D.int x.2), (9, .f (fI ns)), (10, D.int ns.length), (11, D.int x.1)]) (fun _ => [.box 34 [.f (fI ns), D.int tr, D.int le]])
    (fun x => x.1 ≤ ns.length ∧ rise n (-1) ns = rise n x.2 (ns.drop x.1)) (fun x => ns.length - x.1) (0, -1) rfl (by kernel_rfl) ⟨Nat.zero_le _, rfl⟩ ?_
  rintro ⟨k, z⟩ ⟨hk, hr⟩
  dsimp only at hk hr
  repeat' (first | (with_reducible first | refine Wa.h ?_ | refine Ws.h ?_ | refine Wr.h ?_ | refine Wb.h fun K hK => ?_ | (refine hK _ ?_; clear hK K)) | ((with_reducible refine kQ ?_ ?_); kernel_rfl) | ((with_reducible refine k1 ?_ ?_); rfl) | ((with_reducible refine k0 ?_ ?_); rfl) | ((with_reducible apply kB) <;> first | rfl | intro h) | ((with_reducible refine kM ?_ ?_); rfl) | ((with_reducible refine wuT ?_ ?_); · assumption) | ((with_reducible refine wuF ?_ ?_); · assumption) | ((with_reducible refine wtT ?_ ?_); · assumption) | ((with_reducible refine wtF ?_ ?_); · assumption) | (with_reducible refine Wt.h (fun h => ?_) (fun h => ?_)) <;> try (exfalso; omega) | (with_reducible refine Wu.h (fun h => ?_) (fun h => ?_)) <;> try simp only [h] | (with_reducible refine Wn.h (fun h => ?_) ?_) <;> try (exfalso; omega) | ((fail_if_success with_reducible refine Wz.h ?_); simp (disch := omega) only [↓LD, LU, LS, LT, loadA_rf, seval, fI]) | ((with_reducible refine And.intro ?_ ?_); omega) | ((fail_if_success with_reducible refine Wz.h ?_); simp only [D.int, D.bool]))
  all_goals first
    | (refine end1 rfl rfl (by kernel_rfl) .f ⟨congrArg D.bool ?_, rfl⟩
       first
        | (rw [rightB, hr, drop_gt (by omega), rise]; simp; omega)
        | (rw [rightB, hr, List.drop_of_length_le (by omega)]; simp_all [rise, inI]; try omega))
    | (refine NextP.mk (k + 1, gt ns k) rfl (by kernel_rfl) ?_ ?_
       · refine ⟨by dsimp only; omega, ?_⟩
         rw [hr, drop_gt (by omega)]; simp [rise]; omega
       · dsimp only; omega)
instance {d : Nd} {n : Int} {H : List Row} {K : D → List Row → Prop} : Wa (callW Try.prog (.fn 46 []) [.ag [.f (fI d.ns), .f (.v (.int .i64 d.tr)), .f (.v (.int .i64 d.le))], .f (.v (.int .i64 n))] H K) (d.ns.length < 1000000 ∧ K (.f (.v (.bool (rightB d n)))) H) :=
  ⟨fun h => callW_pure (c_ev_rightDef d n h.1) rfl rfl rfl h.2⟩
def FitN (ds : List Nd) : Prop := ∀ d ∈ ds, d.ns.length < 1000000
def defsB (ds : List Nd) : Bool := ds.all (fun d => rightB d ds.length) && inI ds.length 1 8
theorem c_ev_rightDefs (ds : List Nd) (hf : FitN ds) (hl : ds.length < 1000000) : Con Try.prog 30 [.f (fG ds)] [] fun r H' => r = D.bool (defsB ds) ∧ H' = [] := by
  refine Con.walk good fn_ev_rightDefs (by simp) ?_
  unfold s_ev_rightDefs
  simp only [argsE]
  repeat' (first | (with_reducible first | refine Wa.h ?_ | refine Ws.h ?_ | refine Wr.h ?_ | refine Wb.h fun K hK => ?_ | (refine hK _ ?_; clear hK K)) | ((with_reducible refine kQ ?_ ?_); kernel_rfl) | ((with_reducible refine k1 ?_ ?_); rfl) | ((with_reducible refine k0 ?_ ?_); rfl) | ((with_reducible apply kB) <;> first | rfl | intro h) | ((with_reducible refine kM ?_ ?_); rfl) | ((with_reducible refine wuT ?_ ?_); · assumption) | ((with_reducible refine wuF ?_ ?_); · assumption) | ((with_reducible refine wtT ?_ ?_); · assumption) | ((with_reducible refine wtF ?_ ?_); · assumption) | (with_reducible refine Wt.h (fun h => ?_) (fun h => ?_)) <;> try (exfalso; omega) | (with_reducible refine Wu.h (fun h => ?_) (fun h => ?_)) <;> try simp only [h] | (with_reducible refine Wn.h (fun h => ?_) ?_) <;> try (exfalso; omega) | ((fail_if_success with_reducible refine Wz.h ?_); simp (disch := omega) only [↓LD, LU, LS, LT, loadA_rf, seval, fG]) | ((with_reducible refine And.intro ?_ ?_); omega) | ((fail_if_success with_reducible refine Wz.h ?_); simp only [D.int, D.bool]))
  refine HS.loopG [0, 5, 6, 7] (fun k : Nat => ⟨frm 20 [(0, .f (fG ds)), (5, .f (fG ds)), (6, D.int ds.length), (7, D.int k)], [], []⟩)
    (fun k => k ≤ ds.length ∧ ds.all (fun d => rightB d ds.length) = (ds.drop k).all (fun d => rightB d ds.length)) (fun k => ds.length - k) 0 (by kernel_rfl) ⟨Nat.zero_le _, rfl⟩ ?_
  rintro k ⟨hk, hr⟩
  by_cases hkl : k < ds.length
  · rw [drop_gt hkl, List.all_cons] at hr
    have hg := hf _ (gt_mem hkl)
    repeat' (first | (with_reducible first | refine Wa.h ?_ | refine Ws.h ?_ | refine Wr.h ?_ | refine Wb.h fun K hK => ?_ | (refine hK _ ?_; clear hK K)) | ((with_reducible refine kQ ?_ ?_); kernel_rfl) | ((with_reducible refine k1 ?_ ?_); rfl) | ((with_reducible refine k0 ?_ ?_); rfl) | ((with_reducible apply kB) <;> first | rfl | intro h) | ((with_reducible refine kM ?_ ?_); rfl) | ((with_reducible refine wuT ?_ ?_); · assumption) | ((with_reducible refine wuF ?_ ?_); · assumption) | ((with_reducible refine wtT ?_ ?_); · assumption) | ((with_reducible refine wtF ?_ ?_); · assumption) | (with_reducible refine Wt.h (fun h => ?_) (fun h => ?_)) <;> try (exfalso; omega) | (with_reducible refine Wu.h (fun h => ?_) (fun h => ?_)) <;> try simp only [h] | (with_reducible refine Wn.h (fun h => ?_) ?_) <;> try (exfalso; omega) | ((fail_if_success with_reducible refine Wz.h ?_); simp (disch := omega) only [↓LD, LU, LS, LT, loadA_rf, seval, fG, nd_load, nd_cs, nd_at0, nd_at1, nd_at2, -loadA_rf]) | ((with_reducible refine And.intro ?_ ?_); omega) | ((fail_if_success with_reducible refine Wz.h ?_); simp only [D.int, D.bool]))
    · refine end1 rfl rfl (by kernel_rfl) .f ⟨congrArg D.bool ?_, rfl⟩
      have hc : rightB (gt ds k) ds.length = false := by simpa using h
      rw [defsB, hr, hc]; rfl
    · refine Next.mk (k + 1) (by kernel_rfl) ⟨by omega, ?_⟩ (by omega)
      have hc : rightB (gt ds k) ds.length = true := by simpa using h
      rw [hr, hc]; rfl
  · repeat' (first | (with_reducible first | refine Wa.h ?_ | refine Ws.h ?_ | refine Wr.h ?_ | refine Wb.h fun K hK => ?_ | (refine hK _ ?_; clear hK K)) | ((with_reducible refine kQ ?_ ?_); kernel_rfl) | ((with_reducible refine k1 ?_ ?_); rfl) | ((with_reducible refine k0 ?_ ?_); rfl) | ((with_reducible apply kB) <;> first | rfl | intro h) | ((with_reducible refine kM ?_ ?_); rfl) | ((with_reducible refine wuT ?_ ?_); · assumption) | ((with_reducible refine wuF ?_ ?_); · assumption) | ((with_reducible refine wtT ?_ ?_); · assumption) | ((with_reducible refine wtF ?_ ?_); · assumption) | (with_reducible refine Wt.h (fun h => ?_) (fun h => ?_)) <;> try (exfalso; omega) | (with_reducible refine Wu.h (fun h => ?_) (fun h => ?_)) <;> try simp only [h] | (with_reducible refine Wn.h (fun h => ?_) ?_) <;> try (exfalso; omega) | ((fail_if_success with_reducible refine Wz.h ?_); simp (disch := omega) only [↓LD, LU, LS, LT, loadA_rf, seval, fG]) | ((with_reducible refine And.intro ?_ ?_); omega) | ((fail_if_success with_reducible refine Wz.h ?_); simp only [D.int, D.bool]))
    refine end1 rfl rfl (by kernel_rfl) .f ⟨congrArg D.bool ?_, rfl⟩
    rw [defsB, hr, List.drop_of_length_le (by omega)]; rfl
end Go.Proofs.Ytgbbpelfpagdoaa.Mir
