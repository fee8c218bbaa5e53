/- (*crc.Table).Sum told by its contract, for the machine. -/
import Derived.Test.YtaclakglglicdaaGreatMirSortG
import Derived.Test.YtaclakglglicdaaGreatCrcZ
namespace Go.Proofs.YtaclakglglicdaaGreat.Mir
open Go Go.RowKit

def byteF : F → Option UInt8
  | .v (.int .u8 (.ofNat k)) => match Nat.blt k 256 with
    | true => some (UInt8.ofNat k)
    | false => none
  | _ => none
def bytesF : List F → Option (List UInt8)
  | [] => some []
  | x :: xs => match byteF x with
    | some b => match bytesF xs with
      | some bs => some (b :: bs)
      | none => none
    | none => none
abbrev u8F (b : UInt8) : F := .v (.int .u8 (b.toNat : Nat))
theorem byteF_ok {x : F} {b : UInt8} (h : byteF x = some b) : x = u8F b := by
  unfold byteF at h
  split at h
  · rename_i k
    split at h
    · rename_i hk
      cases h
      have hk : k < 256 := Nat.blt_eq.mp hk
      have : (UInt8.ofNat k).toNat = k := by simp; omega
      rw [u8F, this]; rfl
    · cases h
  · cases h
theorem bytesF_ok : ∀ {xs : List F} {bs : List UInt8}, bytesF xs = some bs → xs = bs.map u8F
  | [], bs, h => by cases h; rfl
  | x :: xs, bs, h => by
    unfold bytesF at h
    split at h
    · rename_i b hb
      split at h
      · rename_i cs hcs
        cases h
        rw [byteF_ok hb, bytesF_ok hcs]; rfl
      · cases h
    · cases h
/-- The bytes that a slice reads. -/
def bytesD (H : List Row) : D → Option (List UInt8)
  | .f (.v (.slice none 0 0)) => some []
  | .f .e => some []
  | .f (.s xs n) => match Nat.beq xs.length n with
    | true => bytesF xs
    | false => none
  | .sl r off n => match Nat.beq n 0 with
    | true => some []
    | false => match H[r]? with
      | some (.data _ xs) => match Nat.ble (off + n) xs.length with
        | true => bytesF ((xs.drop off).take n)
        | false => none
      | some (.froz _ xs) => match Nat.ble (off + n) xs.length with
        | true => bytesF ((xs.drop off).take n)
        | false => none
      | _ => none
  | _ => none

def tabV (d m : Int) (ws : List Nat) : List Value := [Value.int .u32 d, .int .i32 0, .int .u32 0, .int .i64 m] ++ ws.map (fun n : Nat => Value.int .u32 n)
def tabD (d m : Int) (ws : List Nat) : List D := (tabV d m ws).map fun v => .f (.v v)
def eqW : List D → List Nat → Bool
  | [], [] => true
  | .f (.v (.int .u32 (.ofNat k))) :: ds, n :: ns => match Nat.beq k n with
    | true => eqW ds ns
    | false => false
  | _, _ => false
theorem eqW_eq : ∀ {ds : List D} {ns : List Nat}, eqW ds ns = true → ds = ns.map fun n : Nat => .f (.v (.int .u32 n))
  | [], [], _ => rfl
  | d :: ds, n :: ns, h => by
    unfold eqW at h
    split at h
    · rename_i heq; cases heq
    · rename_i k es n' ns' h1 h2
      cases h1; cases h2
      split at h
      · rename_i hk
        obtain rfl := Nat.eq_of_beq_eq_true hk
        rw [eqW_eq h]; rfl
      · cases h
    · cases h
  | [], n :: ns, h => by simp [eqW] at h
  | d :: ds, [], h => by cases d <;> simp [eqW] at h
def fromW (b m : Bool) : Option Bool := match b with
  | true => some m
  | false => none
theorem fromW_eq {b m m' : Bool} (h : fromW b m = some m') : b = true ∧ m' = m := by
  cases b
  · cases h
  · cases h; exact ⟨rfl, rfl⟩
/-- Is a row a table, made or not? -/
def madeOf : List D → Option Bool
  | .f (.v (.int .u32 (.ofNat d))) :: .f (.v (.int .i32 (.ofNat 0))) :: .f (.v (.int .u32 (.ofNat 0))) :: .f (.v (.int .i64 (.ofNat m))) :: ws => match d, m with
    | 1, 1 => fromW (eqW ws tab256) true
    | 0, 0 => fromW (eqW ws zeros256) false
    | _, _ => none
  | _ => none
def tabOf : Bool → List D
  | true => tabD 1 1 tab256
  | false => tabD 0 0 zeros256
theorem madeOf_ok {cs : List D} {m : Bool} (h : madeOf cs = some m) : cs = tabOf m := by
  unfold madeOf at h
  split at h
  · rename_i d k ws
    split at h
    · obtain ⟨he, rfl⟩ := fromW_eq h
      rw [eqW_eq he]
      simp only [tabOf, tabD, tabV, List.map_append, List.map_map]
      rfl
    · obtain ⟨he, rfl⟩ := fromW_eq h
      rw [eqW_eq he]
      simp only [tabOf, tabD, tabV, List.map_append, List.map_map]
      rfl
    · cases h
  · cases h

def sumG : List D → List Row → Option Eff
  | [.pt r 0, d], H => match H[r]? with
    | some (.box T cs) => match Nat.beq T 199 with
      | true => match madeOf cs with
        | some m => match bytesD H d with
          | some bs => match Nat.ble bs.length 16777216 with
            | true => some ⟨.f (.v (.int .u32 (crcN bs : Nat))), (match m with | true => [] | false => [(r, .box 199 (tabD 1 1 tab256))]), []⟩
            | false => none
          | none => none
        | none => none
      | false => none
    | _ => none
  | _, _ => none

theorem two_args {P : Program} {w : World} {φ : Nat → Nat × Nat} {A : Nat → Prop} {N : Nat} {d e : D} {vs : Array Value} (h : Rs P w φ A N [d, e] vs.toList) : ∃ u v, vs = #[u, v] ∧ R P w φ A N d u ∧ R P w φ A N e v := by
  obtain ⟨l⟩ := vs
  obtain ⟨h1, h2⟩ := h
  match l, h1 with
  | [u, v], _ => exact ⟨u, v, rfl, h2 0 d u rfl rfl, h2 1 e v rfl rfl⟩
theorem Rs.vals {P : Program} {w : World} {φ : Nat → Nat × Nat} {A : Nat → Prop} {N : Nat} {l us : List Value} (h : Rs P w φ A N (l.map fun v => D.f (.v v)) us) : us = l := by
  obtain ⟨h1, h2⟩ := h
  rw [List.length_map] at h1
  refine List.ext_getElem h1 fun i hi hj => ?_
  have := h2 i (.f (.v l[i])) us[i] (by rw [List.getElem?_map, List.getElem?_eq_getElem hj]; rfl) (List.getElem?_eq_getElem hi)
  generalize us[i] = u at this ⊢
  generalize l[i] = x at this ⊢
  cases this with | f h => cases h with | v _ => rfl
theorem Rs.ofvals {P : Program} {w : World} {φ : Nat → Nat × Nat} {A : Nat → Prop} {N : Nat} {l : List Value} (h : ∀ v ∈ l, v.oneCell' = true) : Rs P w φ A N (l.map fun v => D.f (.v v)) l := by
  refine ⟨by rw [List.length_map], fun i d u hd hu => ?_⟩
  rw [List.getElem?_map, hu] at hd
  cases hd
  exact .f (.v (h u (List.mem_of_getElem? hu)))
theorem set_same {α : Type} {l : List α} {r : Nat} {x : α} (h : l[r]? = some x) : l.set r x = l := by
  apply List.ext_getElem?
  intro i
  rw [List.getElem?_set]
  split
  · rename_i e
    subst e
    rw [if_pos (List.getElem?_eq_some_iff.1 h).1, h]
  · rfl
theorem RFs.bytes {w : World} {A : Nat → Prop} {bs : List UInt8} {us : List Value} (h : RFs w A (bs.map u8F) us) : us = u8s bs := by
  obtain ⟨h1, h2⟩ := h
  rw [List.length_map] at h1
  refine List.ext_getElem (by rw [u8s, List.length_map]; exact h1) fun i hi hj => ?_
  have hb : i < bs.length := by omega
  have := h2 i (u8F bs[i]) us[i] (by rw [List.getElem?_map, List.getElem?_eq_getElem hb]; rfl) (List.getElem?_eq_getElem hi)
  simp only [u8s, List.getElem_map]
  generalize us[i] = u at this
  cases this with | v _ => rfl

section
variable {P : Program} {w w' : World} {φ : Nat → Nat × Nat} {X : Nat → Prop} {H : List Row}

theorem bytes_in (hH : HR P w φ X H) {d : D} {v : Value} (hd : R P w φ (Av X φ H) H.length d v) {bs : List UInt8} (hb : bytesD H d = some bs) {q : Nat} {row : Row} (hq : H[q]? = some row) (hl : row.live = true) (hnd : ∀ T xs, row ≠ .data T xs) :
    ∃ a c, v = .slice a bs.length c ∧ Rd w a (u8s bs) ∧ (bs ≠ [] → ∀ ad, a = some ad → ad.block ≠ (φ q).1) := by
  have hlive : Av X φ H (φ q).1 := .inr (live_of hq hl)
  unfold bytesD at hb
  split at hb
  · cases hb
    cases hd with | f h => cases h with | v _ =>
    exact ⟨none, 0, rfl, Rd.nil _ _, fun h => absurd rfl h⟩
  · cases hb
    cases hd with | f h => cases h with | e =>
    exact ⟨_, 0, rfl, Rd.nil _ _, fun h => absurd rfl h⟩
  · rename_i xs n
    split at hb
    · rename_i hn
      obtain rfl := Nat.eq_of_beq_eq_true hn
      have hx := bytesF_ok hb
      cases hd with | f h =>
      cases h with
      | s cs hn2 hlen hc hr =>
        have hcs : cs = u8s bs := RFs.bytes (w := w) (A := Av X φ H) (by rw [← hx]; exact ⟨hlen, hr⟩)
        refine ⟨_, _, by rw [hx, List.length_map], .inr ⟨_, rfl, fun j u hu => (hc j u (by rw [hcs]; exact hu)).1⟩, fun hne ad had => ?_⟩
        cases had
        rintro rfl'
        obtain ⟨b, bs', rfl⟩ := List.exists_cons_of_ne_nil hne
        exact (hc 0 (.int .u8 (b.toNat : Nat)) (by rw [hcs]; rfl)).2 (by rw [rfl']; exact hlive)
      | s0 =>
        cases hb
        exact ⟨none, 0, rfl, Rd.nil _ _, fun h => absurd rfl h⟩
    · cases hb
  · rename_i r off n
    split at hb
    · rename_i hn
      obtain rfl := Nat.eq_of_beq_eq_true hn
      cases hb
      cases hd with
      | sl _ _ _ _ _ => exact ⟨_, _, rfl, Rd.nil _ _, fun h => absurd rfl h⟩
      | sl0 _ => exact ⟨_, _, rfl, Rd.nil _ _, fun h => absurd rfl h⟩
    · rename_i hn
      have hn0 : n ≠ 0 := fun e => by rw [e] at hn; cases hn
      have key : ∀ {pre us post xs : List Value} {fs : List F} {T : TypeId} {fr : Nat × Nat}, w.heap[(φ r).1]? = some (.cells (pre ++ us ++ post).toArray T fr) → pre.length = (φ r).2 → RFs w (Av X φ H) fs us → off + n ≤ fs.length → bytesF ((fs.drop off).take n) = some bs →
          (φ r).1 ≠ (φ q).1 → ∃ a c, v = .slice a bs.length c ∧ Rd w a (u8s bs) ∧ (bs ≠ [] → ∀ ad, a = some ad → ad.block ≠ (φ q).1) := by
        intro pre us post _ fs T fr hb1 hp hrf hle hbs hne
        have hx := bytesF_ok hbs
        have hlen : bs.length = n := by
          have := congrArg List.length hx
          rw [List.length_map, List.length_take, List.length_drop] at this
          omega
        have hus : (us.drop off).take n = u8s bs := by
          apply RFs.bytes (w := w) (A := Av X φ H)
          rw [← hx]
          refine ⟨by rw [List.length_take, List.length_drop, List.length_take, List.length_drop, hrf.1], fun i x u hxi hui => ?_⟩
          rw [List.getElem?_take] at hxi hui
          split at hxi
          · rename_i hi
            rw [if_pos hi] at hui
            rw [List.getElem?_drop] at hxi hui
            exact hrf.2 _ _ _ hxi hui
          · cases hxi
        cases hd with
        | sl _ hcap hcells hi hsz =>
          refine ⟨_, _, by rw [hlen], .inr ⟨_, rfl, fun j u hu => ?_⟩, fun _ ad had => by cases had; exact hne⟩
          rw [← hus, List.getElem?_take] at hu
          split at hu
          · rename_i hj
            rw [List.getElem?_drop] at hu
            have hlt : off + j < us.length := (List.getElem?_eq_some_iff.1 hu).1
            have hadd : (⟨(φ r).1, (φ r).2 + off, none⟩ : Addr).add j = ⟨(φ r).1, (φ r).2 + off + j, none⟩ := by simp [Addr.add]
            rw [hadd, cellH hb1]
            simp only [List.getElem?_toArray]
            rw [List.getElem?_append_left (by rw [List.length_append]; omega), List.getElem?_append_right (by omega), ← hu]
            congr 1; omega
          · cases hu
        | sl0 _ => exact absurd rfl hn0
      split at hb
      · rename_i T xs hrow
        split at hb
        · rename_i hle
          obtain ⟨pre, us, post, g1, g2, g3⟩ := hH.rows r _ hrow
          refine key (xs := []) g1 g2 g3 (Nat.le_of_ble_eq_true hle) hb fun e => ?_
          have := hH.apart r q _ _ hrow hq rfl hl e
          subst this
          rw [hrow] at hq
          cases hq
          exact hnd _ _ rfl
        · cases hb
      · rename_i T xs hrow
        split at hb
        · rename_i hle
          obtain ⟨g0, pre, us, post, fr, g1, g2, g3⟩ := hH.rows r _ hrow
          refine key (xs := []) g1 g2 g3 (Nat.le_of_ble_eq_true hle) hb fun e => g0 (by rw [e]; exact hlive)
        · cases hb
      · cases hb
  · cases hb
end

theorem sum_ok : Sound Tryz.prog 145 sumG := by
  intro args H e hg w φ X vs hH hargs
  unfold sumG at hg
  split at hg
  · rename_i r d
    split at hg
    · rename_i T cs hrow
      split at hg
      · rename_i hT
        obtain rfl := Nat.eq_of_beq_eq_true hT
        split at hg
        · rename_i m hm
          split at hg
          · rename_i bs hbs
            split at hg
            · rename_i hlen
              cases hg
              obtain ⟨u, v, rfl, hu, hv⟩ := two_args hargs
              cases hu with | pt hrl =>
              obtain ⟨h0, cs', h1, h2, h3⟩ := hH.rows r _ hrow
              have hcs := madeOf_ok hm
              have hts : TS w (φ r).1 m ∧ cs'.size = 260 := by
                cases m
                · have : cs'.toList = tabV 0 0 zeros256 := by rw [hcs] at h2; exact Rs.vals h2
                  refine ⟨⟨by rw [zeros256, List.length_replicate], h1.trans ?_⟩, by rw [← Array.length_toList, this, tabV, List.length_append, List.length_map, zeros256, List.length_replicate]; rfl⟩
                  rw [← Array.toArray_toList (xs := cs'), this]; rfl
                · have : cs'.toList = tabV 1 1 tab256 := by rw [hcs] at h2; exact Rs.vals h2
                  refine ⟨⟨by rw [tab256, List.length_map, List.length_range], h1.trans ?_⟩, by rw [← Array.length_toList, this, tabV, List.length_append, List.length_map, tab256, List.length_map, List.length_range]; rfl⟩
                  rw [← Array.toArray_toList (xs := cs'), this]; rfl
              obtain ⟨a, c, rfl, hrd, hne⟩ := bytes_in hH hv hbs hrow rfl (fun _ _ h => by cases h)
              rw [h0]
              refine (sum_any (φ r).1 m a c bs w hts.1 hrd hne (by have := Nat.le_of_ble_eq_true hlen; omega)).mono ?_
              rintro e w' ⟨rfl, hts', ch⟩
              have hc' : w'.heap[(φ r).1]? = some (.cells (tabV 1 1 tab256).toArray 199 (0, 0)) := hts'.2
              have hk : Keep (fun b => true = true ∧ b = (φ r).1) w w' := by
                refine ⟨ch.size, fun b hb hn => ch.block b hb (fun e => hn ⟨rfl, e⟩), fun b cs T fr hc => ?_, ch.os, ch.tape, ch.output⟩
                by_cases hbr : b = (φ r).1
                · subst hbr
                  rw [h1] at hc
                  cases hc
                  refine ⟨_, _, hc', ?_⟩
                  rw [hts.2, List.size_toArray, tabV, List.length_append, List.length_map, tab256, List.length_map, List.length_range]; rfl
                · exact ⟨cs, fr, (ch.block b (block_lt hc) hbr).trans hc, rfl⟩
              have hone : ∀ v ∈ tabV 1 1 tab256, v.oneCell' = true := by
                intro v hv
                rcases List.mem_append.1 hv with hv | hv
                · simp only [List.mem_cons, List.not_mem_nil, or_false] at hv
                  rcases hv with rfl | rfl | rfl | rfl <;> rfl
                · obtain ⟨n, _, rfl⟩ := List.mem_map.1 hv
                  rfl
              obtain ⟨t1, t2, _⟩ := hH.turn (row' := .box 199 (tabD 1 1 tab256)) hrow hk (fun _ => rfl) (fun _ => ⟨h0, _, hc', Rs.ofvals hone, fun u hu => hone u (by simpa using hu)⟩)
              cases m
              · exact ⟨_, rfl, φ, fun _ _ => rfl, by simpa [Eff.heap, applyUpd] using t1, .f (.v rfl), hk.mono (fun b _ hb => by rw [hb.2]; exact live_of hrow rfl), by simpa [Eff.heap, applyUpd] using t2⟩
              · have hset : H.set r (.box 199 (tabD 1 1 tab256)) = H := by
                  rw [hcs] at hrow
                  exact set_same hrow
                rw [hset] at t1 t2
                exact ⟨_, rfl, φ, fun _ _ => rfl, by simpa [Eff.heap, applyUpd] using t1, .f (.v rfl), hk.mono (fun b _ hb => by rw [hb.2]; exact live_of hrow rfl), by simpa [Eff.heap, applyUpd] using t2⟩
            · cases hg
          · cases hg
        · cases hg
      · cases hg
    · cases hg
  · cases hg
end Go.Proofs.YtaclakglglicdaaGreat.Mir
