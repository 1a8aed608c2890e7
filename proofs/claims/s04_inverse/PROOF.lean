import PyProof.Rows.All
import Wide.All
import OpenK.AllK
import Wide.FinOn
import Open.SpecLaws
import KE.OsHead
import KE.OsGo
import HandS.ForMost
import HandS.Spec
import HandS.Walk
import PySem.Challenge.RW_lanemaps_s04_inverse
set_option Elab.async false
set_option linter.all false
set_option maxRecDepth 100000
set_option maxHeartbeats 2000000
/-! lanemaps.lanes.inverse: first the mathematics (the specification by Python's numbers), then each def of the program by the hand layer, then the end. -/
namespace Lm
/-- numbers from 0 to 255 -/
def Byt (l : List Int) : Prop := ∀ x ∈ l, 0 ≤ x ∧ x ≤ 255
/-! the line's words -/
theorem list_app (l r : List Int) : Rc03Neutral.list ((l.length : Int) :: (l ++ r)) = some (l, r) := by
  show (if 0 ≤ (l.length : Int) ∧ (l.length : Int).toNat ≤ (l ++ r).length then some ((l ++ r).take (l.length : Int).toNat, (l ++ r).drop (l.length : Int).toNat) else none) = _
  rw [if_pos ⟨Int.natCast_nonneg _, by simp⟩]
  simp
theorem list_end (l : List Int) : Rc03Neutral.list ((l.length : Int) :: l) = some (l, []) := by
  have h := list_app l []
  rw [List.append_nil] at h
  exact h
theorem two_of (a b : List Int) (k : List Int → List Int → Rc03.Call × Bool) : Rc03Neutral.two ((a.length : Int) :: (a ++ ((b.length : Int) :: b))) k = some (k a b) := by
  unfold Rc03Neutral.two
  rw [list_app]
  simp only [Option.bind_some]
  rw [list_end]
  rfl
theorem one_of (a : List Int) (k : List Int → Rc03.Call × Bool) : Rc03Neutral.one ((a.length : Int) :: a) k = some (k a) := by
  unfold Rc03Neutral.one
  rw [list_end]
  rfl
theorem f_of {c : List Int} {q : Rc03.Call × Bool} (h : Rc03Neutral.callOf c = some q) :
    Rc03Neutral.f c = (Rc03.spec q.1).num :: (((Rc03.spec q.1).bytes.map fun b => ((b.toNat : Nat) : Int)) ++ (Rc03.spec q.1).counts.map fun (x : Nat) => (x : Int)) := by
  unfold Rc03Neutral.f
  rw [h]
def ans (s : Rc03.Call) : List Int := (Rc03.spec s).num :: (((Rc03.spec s).bytes.map fun b => ((b.toNat : Nat) : Int)) ++ (Rc03.spec s).counts.map fun (x : Nat) => (x : Int))
theorem apply_ans (m t : List Int) : PyRc03.apply m t = ans (.apply (Rc03Neutral.row m) (Rc03Neutral.row t)) := by
  unfold PyRc03.apply
  refine f_of (q := (.apply (Rc03Neutral.row m) (Rc03Neutral.row t), Rc03Neutral.map m && Rc03Neutral.text t.length t)) ?_
  have e : [0] ++ [(m.length : Int)] ++ m ++ [(t.length : Int)] ++ t ++ [(t.length : Int)] = (0 : Int) :: ((m.length : Int) :: (m ++ ((t.length : Int) :: (t ++ [(t.length : Int)])))) := by simp
  rw [e]
  unfold Rc03Neutral.callOf
  simp only [if_true, list_app, Option.bind_some]
theorem apply64_ans (m t : List Int) : PyRc03.apply64 m t = ans (.apply64 (Rc03Neutral.row m) (Rc03Neutral.row t)) := by
  unfold PyRc03.apply64
  refine f_of (q := (.apply64 (Rc03Neutral.row m) (Rc03Neutral.row t), Rc03Neutral.map m && Rc03Neutral.lanes t)) ?_
  have e : [1] ++ [(m.length : Int)] ++ m ++ [(t.length : Int)] ++ t = (1 : Int) :: ((m.length : Int) :: (m ++ ((t.length : Int) :: t))) := by simp
  rw [e]
  unfold Rc03Neutral.callOf
  simp only [two_of]
  rfl
theorem compose_ans (m t : List Int) : PyRc03.compose m t = ans (.compose (Rc03Neutral.row m) (Rc03Neutral.row t)) := by
  unfold PyRc03.compose
  refine f_of (q := (.compose (Rc03Neutral.row m) (Rc03Neutral.row t), Rc03Neutral.map m && Rc03Neutral.map t)) ?_
  have e : [2] ++ [(m.length : Int)] ++ m ++ [(t.length : Int)] ++ t = (2 : Int) :: ((m.length : Int) :: (m ++ ((t.length : Int) :: t))) := by simp
  rw [e]
  unfold Rc03Neutral.callOf
  simp only [two_of]
  rfl
theorem inverse_ans (m t : List Int) : PyRc03.inverse m t = ans (.inverse (Rc03Neutral.row m) (Rc03Neutral.row t)) := by
  unfold PyRc03.inverse
  refine f_of (q := (.inverse (Rc03Neutral.row m) (Rc03Neutral.row t), Rc03Neutral.map m && Rc03Neutral.map t)) ?_
  have e : [3] ++ [(m.length : Int)] ++ m ++ [(t.length : Int)] ++ t = (3 : Int) :: ((m.length : Int) :: (m ++ ((t.length : Int) :: t))) := by simp
  rw [e]
  unfold Rc03Neutral.callOf
  simp only [two_of]
  rfl
theorem count_ans (t c : List Int) : PyRc03.count t c = ans (.count (Rc03Neutral.row t) (c.map Int.toNat)) := by
  unfold PyRc03.count
  refine f_of (q := (.count (Rc03Neutral.row t) (c.map Int.toNat), Rc03Neutral.text t.length t && Rc03Neutral.counts c)) ?_
  have e : [4] ++ [(t.length : Int)] ++ t ++ [(t.length : Int)] ++ [(c.length : Int)] ++ c = (4 : Int) :: ((t.length : Int) :: (t ++ ((t.length : Int) :: ((c.length : Int) :: c)))) := by simp
  rw [e]
  unfold Rc03Neutral.callOf
  simp only [list_app, Option.bind_some, one_of]
  rfl
theorem move_ans (m t : List Int) : PyRc03.move m t = ans (.move (Rc03Neutral.row m) (Rc03Neutral.row t)) := by
  unfold PyRc03.move
  refine f_of (q := (.move (Rc03Neutral.row m) (Rc03Neutral.row t), Rc03Neutral.lanes m && Rc03Neutral.lanes t)) ?_
  have e : [5] ++ [(m.length : Int)] ++ m ++ [(t.length : Int)] ++ t = (5 : Int) :: ((m.length : Int) :: (m ++ ((t.length : Int) :: t))) := by simp
  rw [e]
  unfold Rc03Neutral.callOf
  simp only [two_of]
  rfl
theorem put_ans (m t : List Int) : PyRc03.put m t = ans (.put (Rc03Neutral.row m) (Rc03Neutral.row t)) := by
  unfold PyRc03.put
  refine f_of (q := (.put (Rc03Neutral.row m) (Rc03Neutral.row t), Rc03Neutral.lanes m && Rc03Neutral.lanes t)) ?_
  have e : [6] ++ [(m.length : Int)] ++ m ++ [(t.length : Int)] ++ t = (6 : Int) :: ((m.length : Int) :: (m ++ ((t.length : Int) :: t))) := by simp
  rw [e]
  unfold Rc03Neutral.callOf
  simp only [two_of]
  rfl
theorem unnamed_ans (p : List Int) : PyRc03.unnamed p = ans (.unnamed (Rc03Neutral.row p)) := by
  unfold PyRc03.unnamed
  refine f_of (q := (.unnamed (Rc03Neutral.row p), Rc03Neutral.lanes p)) ?_
  have e : [7] ++ [(p.length : Int)] ++ p = (7 : Int) :: ((p.length : Int) :: p) := by simp
  rw [e]
  unfold Rc03Neutral.callOf
  simp only [one_of]
  rfl
theorem first_ans (p : List Int) : PyRc03.first p = ans (.first (Rc03Neutral.row p)) := by
  unfold PyRc03.first
  refine f_of (q := (.first (Rc03Neutral.row p), Rc03Neutral.lanes p)) ?_
  have e : [8] ++ [(p.length : Int)] ++ p = (8 : Int) :: ((p.length : Int) :: p) := by simp
  rw [e]
  unfold Rc03Neutral.callOf
  simp only [one_of]
  rfl
theorem before_ans (p : List Int) : PyRc03.before p = ans (.before (Rc03Neutral.row p)) := by
  unfold PyRc03.before
  refine f_of (q := (.before (Rc03Neutral.row p), Rc03Neutral.lanes p)) ?_
  have e : [9] ++ [(p.length : Int)] ++ p = (9 : Int) :: ((p.length : Int) :: p) := by simp
  rw [e]
  unfold Rc03Neutral.callOf
  simp only [one_of]
  rfl
theorem rank_ans (p : List Int) : PyRc03.rank p = ans (.rank (Rc03Neutral.row p)) := by
  unfold PyRc03.rank
  refine f_of (q := (.rank (Rc03Neutral.row p), Rc03Neutral.lanes p)) ?_
  have e : [10] ++ [(p.length : Int)] ++ p = (10 : Int) :: ((p.length : Int) :: p) := by simp
  rw [e]
  unfold Rc03Neutral.callOf
  simp only [one_of]
  rfl
/-! bytes -/
theorem byte_val {x : Int} (h : 0 ≤ x ∧ x ≤ 255) : (UInt8.ofNat x.toNat).toNat = x.toNat := by
  rw [UInt8.toNat_ofNat']
  omega
theorem byte_int {x : Int} (h : 0 ≤ x ∧ x ≤ 255) : (((UInt8.ofNat x.toNat).toNat : Nat) : Int) = x := by
  rw [byte_val h]
  omega
theorem byte_inj {x y : Int} (hx : 0 ≤ x ∧ x ≤ 255) (hy : 0 ≤ y ∧ y ≤ 255) : (UInt8.ofNat x.toNat == UInt8.ofNat y.toNat) = (x == y) := by
  by_cases e : x = y
  · subst e
    simp
  · have n : UInt8.ofNat x.toNat ≠ UInt8.ofNat y.toNat := fun q => e (by rw [← byte_int hx, ← byte_int hy, q])
    rw [beq_eq_false_iff_ne.mpr n, beq_eq_false_iff_ne.mpr e]
theorem byt_getD {l : List Int} (h : Byt l) (i : Nat) : 0 ≤ l.getD i 0 ∧ l.getD i 0 ≤ 255 := by
  rw [List.getD_eq_getElem?_getD]
  cases e : l[i]? with
  | none => exact ⟨Int.le_refl 0, by decide⟩
  | some x => exact h x (List.mem_of_getElem? e)
theorem row_getD (l : List Int) (i : Nat) : (Rc03Neutral.row l).getD i 0 = UInt8.ofNat (l.getD i 0).toNat := by
  unfold Rc03Neutral.row
  rw [List.getD_eq_getElem?_getD, List.getElem?_map, List.getD_eq_getElem?_getD]
  cases l[i]? <;> rfl
/-! 1, 2: maps -/
def mappedF (m t : List Int) : List Int := t.map fun b => m.getD b.toNat 0
theorem has_int {m : List Int} (hm : Byt m) {b : Int} (hb : 0 ≤ b ∧ b ≤ 255) : (((Rc03.has (Rc03Neutral.row m) (UInt8.ofNat b.toNat)).toNat : Nat) : Int) = m.getD b.toNat 0 := by
  unfold Rc03.has
  rw [byte_val hb, row_getD, byte_int (byt_getD hm _)]
theorem mapped_int {m t : List Int} (hm : Byt m) (ht : Byt t) : (((Rc03Neutral.row t).map (Rc03.has (Rc03Neutral.row m))).map fun b => ((b.toNat : Nat) : Int)) = mappedF m t := by
  unfold Rc03Neutral.row mappedF
  rw [List.map_map, List.map_map]
  refine List.map_congr_left fun b hb => ?_
  exact has_int hm (ht b hb)
theorem apply_eq {m t : List Int} (hm : Byt m) (ht : Byt t) : PyRc03.apply m t = [0] ++ mappedF m t := by
  rw [apply_ans, ← mapped_int hm ht]
  simp [ans, Rc03.spec, Rc03.apply]
theorem apply64_eq {m t : List Int} (hm : Byt m) (ht : Byt t) : PyRc03.apply64 m t = [0] ++ mappedF m t := by
  rw [apply64_ans, ← mapped_int hm ht]
  simp [ans, Rc03.spec, Rc03.apply]
theorem compose_eq {m t : List Int} (hm : Byt m) (ht : Byt t) : PyRc03.compose m t = [0] ++ mappedF m t := by
  rw [compose_ans, ← mapped_int hm ht]
  simp [ans, Rc03.spec, Rc03.compose]
end Lm
namespace Lm
/-! lists by their places -/
theorem list_by {l : List Int} {n : Nat} {g : Nat → Int} (hn : l.length = n) (h : ∀ i, i < n → l.getD i 0 = g i) : l = (List.range n).map g := by
  refine List.ext_getElem? fun i => ?_
  rw [List.getElem?_map]
  by_cases hi : i < n
  · have e := h i hi
    rw [List.getD_eq_getElem?_getD] at e
    rw [List.getElem?_range hi]
    have hl : i < l.length := by omega
    rw [List.getElem?_eq_getElem hl] at e ⊢
    exact congrArg some e
  · rw [List.getElem?_eq_none (by omega), List.getElem?_eq_none (by simp; omega)]
    rfl
theorem getD_set {α : Type} (l : List α) (i j : Nat) (x d : α) (hi : i < l.length) : (l.set i x).getD j d = if i = j then x else l.getD j d := by
  rw [List.getD_eq_getElem?_getD, List.getElem?_set, List.getD_eq_getElem?_getD]
  by_cases e : i = j
  · subst e
    simp [hi]
  · simp [e]
theorem getD_rep {α : Type} (n i : Nat) (x d : α) (hi : i < n) : (List.replicate n x).getD i d = x := by
  rw [List.getD_eq_getElem?_getD, List.getElem?_replicate, if_pos hi]
  rfl
theorem range_succ_foldl {α : Type} (f : α → Nat → α) (a : α) (n : Nat) : (List.range (n + 1)).foldl f a = f ((List.range n).foldl f a) n := by
  rw [List.range_succ, List.foldl_append]
  rfl
/-! 4: counts -/
def countStep (f : List Int) (b : Int) : List Int := f.set b.toNat ((f.getD b.toNat 0 + 1) % 4294967296)
def countF (t c : List Int) : List Int := t.foldl countStep c
theorem countStep_len (f : List Int) (b : Int) : (countStep f b).length = f.length := List.length_set
theorem countF_len : ∀ (t c : List Int), (countF t c).length = c.length
  | [], _ => rfl
  | b :: t, c => by
    show (countF t (countStep c b)).length = _
    rw [countF_len t, countStep_len]
theorem countF_at : ∀ (t c : List Int), Byt t → c.length = 256 → (∀ i, 0 ≤ c.getD i 0 ∧ c.getD i 0 < 4294967296) → ∀ y, y < 256 →
    (countF t c).getD y 0 = (c.getD y 0 + ((t.countP fun b => b.toNat == y : Nat) : Int)) % 4294967296
  | [], c, _, _, hc, y, _ => by
    show c.getD y 0 = _
    have := hc y
    simp only [List.countP_nil]
    omega
  | b :: t, c, ht, hl, hc, y, hy => by
    show (countF t (countStep c b)).getD y 0 = _
    have hb := ht b List.mem_cons_self
    have hset : ∀ i, (countStep c b).getD i 0 = if b.toNat = i then (c.getD b.toNat 0 + 1) % 4294967296 else c.getD i 0 := fun i => getD_set _ _ _ _ _ (by omega)
    rw [countF_at t (countStep c b) (fun x hx => ht x (List.mem_cons_of_mem _ hx)) (by rw [countStep_len]; exact hl) (fun i => by
      rw [hset]
      have := hc i
      split <;> omega) y hy, hset, List.countP_cons]
    have := hc y
    by_cases e : b.toNat = y
    · subst e
      simp only [if_true, beq_self_eq_true]
      omega
    · simp only [if_neg e, beq_iff_eq]
      omega
theorem count_row (y : Nat) : ∀ (t : List Int), Byt t → ((Rc03Neutral.row t).countP fun x => x.toNat == y) = t.countP fun b => b.toNat == y
  | [], _ => rfl
  | b :: t, ht => by
    show (UInt8.ofNat b.toNat :: Rc03Neutral.row t).countP _ = _
    rw [List.countP_cons, List.countP_cons, count_row y t fun x hx => ht x (List.mem_cons_of_mem _ hx), byte_val (ht b List.mem_cons_self)]
theorem nat_getD (c : List Int) (i : Nat) : (c.map Int.toNat).getD i 0 = (c.getD i 0).toNat := by
  rw [List.getD_eq_getElem?_getD, List.getElem?_map, List.getD_eq_getElem?_getD]
  cases c[i]? <;> rfl
theorem count_eq {t c : List Int} (ht : Byt t) (hl : c.length = 256) (hc : ∀ x ∈ c, 0 ≤ x ∧ x ≤ 4294967295) : PyRc03.count t c = [0] ++ countF t c := by
  have hc' : ∀ i, 0 ≤ c.getD i 0 ∧ c.getD i 0 < 4294967296 := by
    intro i
    rw [List.getD_eq_getElem?_getD]
    cases e : c[i]? with
    | none => exact ⟨Int.le_refl 0, by decide⟩
    | some x =>
      have := hc x (List.mem_of_getElem? e)
      show 0 ≤ x ∧ x < 4294967296
      omega
  rw [count_ans, list_by (l := countF t c) ((countF_len t c).trans hl) (countF_at t c ht hl hc')]
  simp only [ans, Rc03.spec, Rc03.counted, List.map_nil, List.nil_append, List.map_map, List.cons_append]
  refine congrArg _ (List.map_congr_left fun y _ => ?_)
  simp only [Function.comp]
  rw [count_row y t ht, nat_getD]
  have := hc' y
  omega
/-! 5: move -/
def placeF (p : List Int) (i : Nat) : Nat := (p.getD i 0 % 64).toNat
theorem place_eq {p : List Int} (hp : Byt p) (i : Nat) : Rc03.place (Rc03Neutral.row p) i = placeF p i := by
  unfold Rc03.place Rc03.lane placeF
  have := byt_getD hp i
  rw [row_getD, byte_val this]
  omega
theorem placeF_lt (p : List Int) (i : Nat) : placeF p i < 64 := by
  unfold placeF
  omega
theorem lane_int {v : List Int} (hv : Byt v) (i : Nat) : (((Rc03.lane (Rc03Neutral.row v) i).toNat : Nat) : Int) = v.getD i 0 := by
  unfold Rc03.lane
  rw [row_getD, byte_int (byt_getD hv i)]
def moveF (v p : List Int) : List Int := (List.range 64).map fun i => v.getD (placeF p i) 0
theorem move_eq {v p : List Int} (hv : Byt v) (hp : Byt p) : PyRc03.move v p = [0] ++ moveF v p := by
  rw [move_ans]
  simp only [ans, Rc03.spec, Rc03.move, List.map_map, List.map_nil, List.append_nil, List.cons_append, List.nil_append, moveF]
  refine congrArg _ (List.map_congr_left fun i _ => ?_)
  simp only [Function.comp]
  rw [place_eq hp, lane_int hv]
/-! 6: put -/
/-- a list whose place g i is set to h i, i = 0 .. n - 1 -/
def setAll {α : Type} (g : Nat → Nat) (h : Nat → α) (l : List α) (n : Nat) : List α := (List.range n).foldl (fun f i => f.set (g i) (h i)) l
theorem setAll_succ {α : Type} (g : Nat → Nat) (h : Nat → α) (l : List α) (n : Nat) : setAll g h l (n + 1) = (setAll g h l n).set (g n) (h n) := range_succ_foldl _ _ _
theorem setAll_len {α : Type} (g : Nat → Nat) (h : Nat → α) (l : List α) : ∀ n, (setAll g h l n).length = l.length
  | 0 => rfl
  | n + 1 => by rw [setAll_succ, List.length_set, setAll_len g h l n]
/-- the last of those that name a place -/
def lastOf (g : Nat → Nat) (n k : Nat) : Option Nat := ((List.range n).filter fun i => g i == k).getLast?
theorem lastOf_succ (g : Nat → Nat) (n k : Nat) : lastOf g (n + 1) k = if g n = k then some n else lastOf g n k := by
  unfold lastOf
  rw [List.range_succ, List.filter_append]
  by_cases e : g n = k
  · have _q := e
    simp [e]
  · simp [e]
theorem setAll_at {α : Type} (g : Nat → Nat) (h : Nat → α) (l : List α) (d : α) (k : Nat) : ∀ n, (∀ i, i < n → g i < l.length) →
    (setAll g h l n).getD k d = match lastOf g n k with | some i => h i | none => l.getD k d
  | 0, _ => rfl
  | n + 1, hg => by
    rw [setAll_succ, getD_set _ _ _ _ _ (by rw [setAll_len]; exact hg n (by omega)), lastOf_succ, setAll_at g h l d k n fun i hi => hg i (by omega)]
    by_cases e : g n = k
    · rw [if_pos e, if_pos e]
    · rw [if_neg e, if_neg e]
def putF (v p : List Int) : List Int := setAll (placeF p) (fun i => v.getD i 0) (List.replicate 64 0) 64
theorem putF_len (v p : List Int) : (putF v p).length = 64 := by
  unfold putF
  rw [setAll_len, List.length_replicate]
theorem put_eq {v p : List Int} (hv : Byt v) (hp : Byt p) : PyRc03.put v p = [0] ++ putF v p := by
  rw [put_ans, list_by (putF_len v p) fun k hk => setAll_at (placeF p) (fun i => v.getD i 0) _ 0 k 64 fun i _ => by rw [List.length_replicate]; exact placeF_lt p i]
  simp only [ans, Rc03.spec, Rc03.put, List.map_map, List.map_nil, List.append_nil, List.cons_append, List.nil_append]
  refine congrArg _ (List.map_congr_left fun k hk => ?_)
  simp only [Function.comp]
  have e : ((List.range 64).filter fun i => Rc03.place (Rc03Neutral.row p) i == k).getLast? = lastOf (placeF p) 64 k := by
    unfold lastOf
    refine congrArg _ (List.filter_congr fun i _ => ?_)
    rw [place_eq hp]
  rw [e]
  cases lastOf (placeF p) 64 k with
  | none =>
    rw [getD_rep _ _ _ _ (List.mem_range.mp hk)]
    rfl
  | some i => exact lane_int hv i
/-! 7: masks -/
def maskF (l : List Bool) (n : Nat) : Int := (List.range n).foldl (fun a i => if l.getD i false = true then a + 2 ^ i else a) 0
theorem maskF_succ (l : List Bool) (n : Nat) : maskF l (n + 1) = if l.getD n false = true then maskF l n + 2 ^ n else maskF l n := range_succ_foldl _ _ _
theorem maskF_at {l : List Bool} {f : Nat → Bool} : ∀ n, (∀ i, i < n → l.getD i false = f i) → maskF l n = ((((List.range n).map fun i => if f i = true then 2 ^ i else 0).sum : Nat) : Int)
  | 0, _ => rfl
  | n + 1, h => by
    rw [maskF_succ, maskF_at n fun i hi => h i (by omega), h n (by omega), List.range_succ, List.map_append, List.sum_append, List.map_cons, List.map_nil, List.sum_cons, List.sum_nil]
    cases f n with
    | true =>
      simp only [if_true, Nat.add_zero, Int.natCast_add, Int.natCast_pow]
      rfl
    | false => simp
theorem mask_eq {l : List Bool} {f : Nat → Bool} (h : ∀ i, i < 64 → l.getD i false = f i) : maskF l 64 = ((Rc03.mask f : Nat) : Int) := maskF_at 64 h
def freeF (p : List Int) : List Bool := setAll (placeF p) (fun _ => false) (List.replicate 64 true) 64
theorem lastOf_none (g : Nat → Nat) (k : Nat) : ∀ n, lastOf g n k = none ↔ (∀ i, i < n → g i ≠ k)
  | 0 => ⟨fun _ i h => absurd h (by omega), fun _ => rfl⟩
  | n + 1 => by
    rw [lastOf_succ]
    by_cases e : g n = k
    · rw [if_pos e]
      exact ⟨fun h => (nomatch h), fun h => absurd e (h n (by omega))⟩
    · rw [if_neg e, lastOf_none g k n]
      refine ⟨fun h i hi => ?_, fun h i hi => h i (by omega)⟩
      by_cases q : i = n
      · subst q
        exact e
      · exact h i (by omega)
theorem free_at (p : List Int) (k : Nat) (hk : k < 64) : (freeF p).getD k false = (List.range 64).all fun i => placeF p i != k := by
  unfold freeF
  rw [setAll_at _ _ _ _ _ 64 fun i _ => by rw [List.length_replicate]; exact placeF_lt p i]
  have hn := lastOf_none (placeF p) k 64
  cases e : lastOf (placeF p) 64 k with
  | none =>
    have h := hn.mp e
    rw [getD_rep _ _ _ _ hk]
    refine (List.all_eq_true.mpr fun i hi => ?_).symm
    exact bne_iff_ne.mpr (h i (List.mem_range.mp hi))
  | some j =>
    refine Eq.symm (Bool.eq_false_iff.mpr fun q => ?_)
    have := hn.mpr fun i hi => bne_iff_ne.mp (List.all_eq_true.mp q i (List.mem_range.mpr hi))
    rw [e] at this
    cases this
def unnamedF (p : List Int) : Int := maskF (freeF p) 64
theorem unnamed_eq {p : List Int} (hp : Byt p) : PyRc03.unnamed p = [unnamedF p] := by
  rw [unnamed_ans]
  simp only [ans, Rc03.spec, List.map_nil, List.append_nil]
  refine congrArg (fun x => [x]) ?_
  unfold unnamedF
  rw [mask_eq (free_at p)]
  unfold Rc03.unnamed
  simp only [place_eq hp]
/-! 8, 9, 10: likes and lessers -/
def likeF (v : List Int) (i : Nat) : Nat := ((v.take i).filter fun b => b == v.getD i 0).length
def lessF (v : List Int) (i : Nat) : Nat := (v.filter fun b => decide (b < v.getD i 0)).length
theorem take_by (v : List Int) (i : Nat) (hi : i ≤ v.length) : v.take i = (List.range i).map fun j => v.getD j 0 := by
  refine list_by (by rw [List.length_take]; omega) fun j hj => ?_
  rw [List.getD_eq_getElem?_getD, List.getElem?_take, if_pos hj, List.getD_eq_getElem?_getD]
theorem like_eq {v : List Int} (hv : Byt v) (i : Nat) (hi : i ≤ v.length) : Rc03.equalBefore (Rc03Neutral.row v) i = likeF v i := by
  unfold Rc03.equalBefore likeF
  rw [take_by v i hi, List.filter_map, List.length_map, List.countP_eq_length_filter]
  refine congrArg _ (List.filter_congr fun j _ => ?_)
  unfold Rc03.lane
  rw [row_getD, row_getD, byte_inj (byt_getD hv j) (byt_getD hv i)]
  rfl
theorem less_eq {v : List Int} (hv : Byt v) (hl : v.length = 64) (i : Nat) : Rc03.less (Rc03Neutral.row v) i = lessF v i := by
  have e : v = (List.range 64).map fun j => v.getD j 0 := list_by hl fun _ _ => rfl
  have e2 : lessF v i = (((List.range 64).map fun j => v.getD j 0).filter fun b => decide (b < v.getD i 0)).length := by
    unfold lessF
    rw [← e]
  rw [e2]
  unfold Rc03.less
  rw [List.filter_map, List.length_map, List.countP_eq_length_filter]
  refine congrArg _ (List.filter_congr fun j _ => ?_)
  unfold Rc03.lane
  have h1 := byt_getD hv j
  have h2 := byt_getD hv i
  rw [row_getD, row_getD, byte_val h1, byte_val h2]
  simp only [Function.comp]
  refine decide_eq_decide.mpr ?_
  omega
theorem like_le (v : List Int) (i : Nat) : likeF v i ≤ i := by
  unfold likeF
  refine Nat.le_trans (List.length_filter_le _ _) ?_
  rw [List.length_take]
  omega
theorem less_le (v : List Int) (i : Nat) : lessF v i ≤ v.length := List.length_filter_le _ _
theorem ofNat_small {n : Nat} (h : n < 256) : (UInt8.ofNat n).toNat = n := by
  rw [UInt8.toNat_ofNat']
  omega
def beforeF (v : List Int) : List Int := (List.range 64).map fun i => ((likeF v i : Nat) : Int)
theorem before_eq {v : List Int} (hv : Byt v) (hl : v.length = 64) : PyRc03.before v = [0] ++ beforeF v := by
  rw [before_ans]
  simp only [ans, Rc03.spec, Rc03.before, List.map_map, List.map_nil, List.append_nil, List.cons_append, List.nil_append, beforeF]
  refine congrArg _ (List.map_congr_left fun i hi => ?_)
  have hi' := List.mem_range.mp hi
  simp only [Function.comp]
  have := like_le v i
  rw [like_eq hv i (by omega), ofNat_small (by omega)]
def rankF (v : List Int) : List Int := (List.range 64).map fun i => ((lessF v i : Nat) : Int) + ((likeF v i : Nat) : Int)
theorem rank_eq {v : List Int} (hv : Byt v) (hl : v.length = 64) : PyRc03.rank v = [0] ++ rankF v := by
  rw [rank_ans]
  simp only [ans, Rc03.spec, Rc03.rank, List.map_map, List.map_nil, List.append_nil, List.cons_append, List.nil_append, rankF]
  refine congrArg _ (List.map_congr_left fun i hi => ?_)
  have hi' := List.mem_range.mp hi
  simp only [Function.comp]
  have h1 := like_le v i
  have h2 := less_le v i
  rw [like_eq hv i (by omega), less_eq hv hl, ofNat_small (by omega)]
  omega
def firstF (v : List Int) : Int := maskF ((List.range 64).map fun i => decide (((likeF v i : Nat) : Int) = 0)) 64
theorem first_eq {v : List Int} (hv : Byt v) (hl : v.length = 64) : PyRc03.first v = [firstF v] := by
  rw [first_ans]
  simp only [ans, Rc03.spec, List.map_nil, List.append_nil]
  refine congrArg (fun x => [x]) ?_
  unfold firstF
  rw [mask_eq (f := fun i => (List.range i).all fun j => Rc03.lane (Rc03Neutral.row v) j != Rc03.lane (Rc03Neutral.row v) i)]
  · rfl
  · intro i hi
    rw [List.getD_eq_getElem?_getD, List.getElem?_map, List.getElem?_range hi]
    show decide (((likeF v i : Nat) : Int) = 0) = _
    rw [← like_eq hv i (by omega)]
    unfold Rc03.equalBefore
    rw [Bool.eq_iff_iff, decide_eq_true_eq, List.all_eq_true, Int.natCast_eq_zero, List.countP_eq_zero]
    refine forall_congr' fun j => forall_congr' fun _ => ?_
    rw [bne_iff_ne, beq_iff_eq]
end Lm
namespace Lm
/-! 3: what a map lacks; the map that undoes it -/
def hasStep (f : List Bool) (b : Int) : List Bool := f.set b.toNat true
def hasF (m : List Int) : List Bool := m.foldl hasStep (List.replicate 256 false)
theorem hasStep_len (f : List Bool) (b : Int) : (hasStep f b).length = f.length := List.length_set
theorem hasFold_len : ∀ (m : List Int) (f : List Bool), (m.foldl hasStep f).length = f.length
  | [], _ => rfl
  | b :: m, f => by
    rw [List.foldl_cons, hasFold_len m, hasStep_len]
theorem hasFold_at : ∀ (m : List Int) (f : List Bool), Byt m → f.length = 256 → ∀ y : Nat,
    (m.foldl hasStep f).getD y false = (m.contains (y : Int) || f.getD y false)
  | [], f, _, _, y => by simp
  | b :: m, f, hm, hl, y => by
    have hb := hm b List.mem_cons_self
    rw [List.foldl_cons, hasFold_at m _ (fun x hx => hm x (List.mem_cons_of_mem _ hx)) (by rw [hasStep_len]; exact hl) y, List.contains_cons]
    have e : (hasStep f b).getD y false = if b.toNat = y then true else f.getD y false := getD_set _ _ _ _ _ (by omega)
    rw [e]
    by_cases q : b.toNat = y
    · have h : ((y : Int) == b) = true := beq_iff_eq.mpr (by omega)
      rw [if_pos q, h]
      simp
    · have h : ((y : Int) == b) = false := beq_eq_false_iff_ne.mpr (by omega)
      rw [if_neg q, h]
      simp
theorem has_at {m : List Int} (hm : Byt m) (y : Nat) (hy : y < 256) : (hasF m).getD y false = m.contains (y : Int) := by
  unfold hasF
  rw [hasFold_at m _ hm List.length_replicate y, getD_rep _ _ _ _ hy, Bool.or_false]
theorem contains_row (y : Nat) (hy : y < 256) : ∀ (m : List Int), Byt m → (Rc03Neutral.row m).contains (UInt8.ofNat y) = m.contains (y : Int)
  | [], _ => rfl
  | b :: m, hm => by
    show (UInt8.ofNat b.toNat :: Rc03Neutral.row m).contains _ = _
    rw [List.contains_cons, List.contains_cons, contains_row y hy m fun x hx => hm x (List.mem_cons_of_mem _ hx)]
    have e := byte_inj (x := (y : Int)) (y := b) (by omega) (hm b List.mem_cons_self)
    rw [Int.toNat_natCast] at e
    rw [e]
def lackNs (m : List Int) : List Nat := (List.range 256).filter fun y => !(hasF m).getD y false
def lackF (m : List Int) : List Int := (lackNs m).map fun y => ((y : Nat) : Int)
theorem missing_eq {m : List Int} (hm : Byt m) : Rc03.missing (Rc03Neutral.row m) = (lackNs m).head? := by
  unfold Rc03.missing lackNs
  rw [List.head?_filter]
  have e : ∀ (l : List Nat), (∀ y ∈ l, y < 256) → l.find? (fun y => !(Rc03Neutral.row m).contains (UInt8.ofNat y)) = l.find? (fun y => !(hasF m).getD y false) := by
    intro l
    induction l with
    | nil => intro _; rfl
    | cons y l ih =>
      intro h
      have hy := h y List.mem_cons_self
      rw [List.find?_cons, List.find?_cons, ih fun x hx => h x (List.mem_cons_of_mem _ hx), contains_row y hy m hm, has_at hm y hy]
  exact e _ fun y hy => List.mem_range.mp hy
def undoneF (m : List Int) : List Int := setAll (fun i => (m.getD i 0).toNat) (fun i => ((i : Nat) : Int)) (List.replicate 256 0) 256
theorem undoneF_len (m : List Int) : (undoneF m).length = 256 := by
  unfold undoneF
  rw [setAll_len, List.length_replicate]
/-- a list of n numbers in which each of 0 .. n - 1 stands has none twice -/
theorem nodup_of_all {m : List Int} {n : Nat} (hl : m.length = n) (h : ∀ y : Nat, y < n → (y : Int) ∈ m) : m.Nodup := by
  rw [List.nodup_iff_count]
  intro a
  refine Nat.le_of_not_lt fun hc => ?_
  have ha : a ∈ m := List.count_pos_iff.mp (by omega)
  have hs : ((List.range n).map fun y => ((y : Nat) : Int)) ⊆ m.erase a := by
    intro x hx
    obtain ⟨y, hy, rfl⟩ := List.mem_map.mp hx
    by_cases e : (y : Int) = a
    · rw [e]
      refine List.count_pos_iff.mp ?_
      rw [List.count_erase_self]
      omega
    · exact (List.mem_erase_of_ne e).mpr (h y (List.mem_range.mp hy))
  have hd : ((List.range n).map fun y => ((y : Nat) : Int)).Nodup := by
    refine List.Pairwise.map _ (fun a b q => ?_) List.nodup_range
    omega
  have hle := hd.length_le_of_subset hs
  rw [List.length_map, List.length_range, List.length_erase_of_mem ha] at hle
  have : 0 < m.length := List.length_pos_of_mem ha
  omega
theorem getD_mem {m : List Int} {i : Nat} (hi : i < m.length) : m.getD i 0 = m[i] := by
  rw [List.getD_eq_getElem?_getD, List.getElem?_eq_getElem hi]
  rfl
theorem lastOf_some {g : Nat → Nat} {n k i : Nat} (h : lastOf g n k = some i) : i < n ∧ g i = k := by
  unfold lastOf at h
  have := List.mem_filter.mp (List.mem_of_getLast? h)
  exact ⟨List.mem_range.mp this.1, beq_iff_eq.mp this.2⟩
theorem find_at {m : List Int} (hm : Byt m) {y : Nat} (hy : y < 256) {i : Nat} (h : (Rc03Neutral.row m).findIdx? (fun x => x == UInt8.ofNat y) = some i) : i < m.length ∧ m.getD i 0 = (y : Int) := by
  have hi := List.findIdx?_eq_some_iff_getElem.mp h
  obtain ⟨hlt, hp, _⟩ := hi
  have hlt' : i < m.length := by
    unfold Rc03Neutral.row at hlt
    rw [List.length_map] at hlt
    exact hlt
  refine ⟨hlt', ?_⟩
  have e1 : (Rc03Neutral.row m)[i] = UInt8.ofNat (m.getD i 0).toNat := by
    have := row_getD m i
    rw [List.getD_eq_getElem?_getD, List.getElem?_eq_getElem hlt] at this
    exact this
  rw [e1] at hp
  have e := byte_inj (x := m.getD i 0) (y := (y : Int)) (byt_getD hm i) (by omega)
  rw [Int.toNat_natCast] at e
  rw [e] at hp
  exact beq_iff_eq.mp hp
theorem undone_at {m : List Int} (hm : Byt m) (hl : m.length = 256) (hall : ∀ y : Nat, y < 256 → (y : Int) ∈ m) (y : Nat) (hy : y < 256) :
    (undoneF m).getD y 0 = ((((Rc03Neutral.row m).findIdx? fun x => x == UInt8.ofNat y).getD 0 : Nat) : Int) ∧ ((Rc03Neutral.row m).findIdx? fun x => x == UInt8.ofNat y).getD 0 < 256 := by
  have hd := nodup_of_all hl hall
  unfold undoneF
  rw [setAll_at _ _ _ 0 y 256 fun i _ => by
    rw [List.length_replicate]
    have := byt_getD hm i
    omega]
  cases e1 : (Rc03Neutral.row m).findIdx? (fun x => x == UInt8.ofNat y) with
  | none =>
    have := List.findIdx?_eq_none_iff.mp e1
    have c := contains_row y hy m hm
    rw [List.contains_iff_mem.mpr (hall y hy), List.contains_iff_mem] at c
    have := this _ c
    rw [beq_self_eq_true] at this
    cases this
  | some i =>
    obtain ⟨hi, ei⟩ := find_at hm hy e1
    refine ⟨?_, by show i < 256; omega⟩
    cases e2 : lastOf (fun i => (m.getD i 0).toNat) 256 y with
    | none =>
      have := (lastOf_none _ _ _).mp e2 i (by omega)
      exact absurd (show (m.getD i 0).toNat = y by omega) this
    | some j =>
      obtain ⟨hj, ej⟩ := lastOf_some e2
      have ej' : m.getD j 0 = (y : Int) := by
        have := byt_getD hm j
        have ej : (m.getD j 0).toNat = y := ej
        omega
      have : i = j := by
        refine (List.getElem?_inj hi hd).mp ?_
        rw [List.getElem?_eq_getElem hi, List.getElem?_eq_getElem (by omega), ← getD_mem hi, ← getD_mem (by omega), ei, ej']
      show (j : Int) = (i : Int)
      rw [this]
theorem row_back : ∀ {o : List Int}, Byt o → ((Rc03Neutral.row o).map fun b => ((b.toNat : Nat) : Int)) = o
  | [], _ => rfl
  | b :: o, h => by
    show (((UInt8.ofNat b.toNat).toNat : Nat) : Int) :: ((Rc03Neutral.row o).map fun b => ((b.toNat : Nat) : Int)) = b :: o
    rw [byte_int (h b List.mem_cons_self), row_back fun x hx => h x (List.mem_cons_of_mem _ hx)]
theorem inverse_none {m o : List Int} (hm : Byt m) (hl : m.length = 256) (h : lackF m = []) : PyRc03.inverse m o = [-1] ++ undoneF m := by
  have hn : lackNs m = [] := List.map_eq_nil_iff.mp h
  have hmi := missing_eq hm
  rw [hn] at hmi
  have hall : ∀ y : Nat, y < 256 → (y : Int) ∈ m := by
    intro y hy
    have := List.filter_eq_nil_iff.mp hn y (List.mem_range.mpr hy)
    rw [has_at hm y hy] at this
    refine List.contains_iff_mem.mp ?_
    cases q : m.contains (y : Int) with
    | true => rfl
    | false =>
      rw [q] at this
      exact absurd rfl this
  rw [inverse_ans]
  simp only [ans, Rc03.spec, hmi, List.head?_nil, Rc03.inverse, List.map_map, List.map_nil, List.append_nil, List.cons_append, List.nil_append]
  refine congrArg _ ?_
  rw [list_by (undoneF_len m) fun y hy => (undone_at hm hl hall y hy).1]
  refine List.map_congr_left fun y hy => ?_
  simp only [Function.comp]
  rw [ofNat_small (undone_at hm hl hall y (List.mem_range.mp hy)).2]
theorem inverse_some {m o : List Int} (hm : Byt m) (ho : Byt o) {x : Int} {r : List Int} (h : lackF m = x :: r) : PyRc03.inverse m o = [x] ++ o := by
  have hmi := missing_eq hm
  cases q : lackNs m with
  | nil =>
    unfold lackF at h
    rw [q] at h
    cases h
  | cons y s =>
    unfold lackF at h
    rw [q] at h
    obtain ⟨rfl, _⟩ := List.cons.inj h
    rw [q] at hmi
    rw [inverse_ans]
    simp only [ans, Rc03.spec, hmi, List.head?_cons, List.map_nil, List.append_nil, row_back ho, List.cons_append, List.nil_append]
end Lm
namespace Lm
open PySem PySem.Spec PyProof.Rows L2
open PySem.W (Codec)
/-! ### small words of the walk -/
theorem same_upd {H : Hp} {p : Addr} {o : HO} (h : H p = none) : Same H (upd H p o) := fun b x e => (upd_ne (ne_of_none e h)).trans e
theorem same_put {H H' : Hp} {p : Addr} {o : HO} (s : Same H H') (h : H p = none) : Same H (upd H' p o) := fun b x e => (upd_ne (ne_of_none e h)).trans (s b x e)
theorem at_map {α β : Type} {f : α → β} {l : List α} {i : Nat} {y : β} (h : (l.map f)[i]? = some y) : ∃ z, l[i]? = some z ∧ y = f z := by
  rw [List.getElem?_map] at h
  obtain ⟨z, e1, e2⟩ := Option.map_eq_some_iff.mp h
  exact ⟨z, e1, e2.symm⟩
/-- the z-th of a list, by getD -/
theorem at_getD {α : Type} {f : α → V} {m : List α} {z : Int} (d : α) (h : 0 ≤ z) (hl : z < m.length) : atI (m.map f) z = some (f (m.getD z.toNat d)) := by
  refine at_of (j := z.toNat) (by omega) ?_
  rw [List.getElem?_map, List.getD_eq_getElem?_getD, List.getElem?_eq_getElem (by omega)]
  rfl
theorem ix_in {n : Nat} {z : Int} (h0 : 0 ≤ z) (h1 : z < n) : ixN n z = some z.toNat := by
  unfold ixN
  rw [if_pos h0, if_pos h1]
theorem few {n : Nat} (h : n ≤ 100000) : n < sizeLine := Nat.lt_of_le_of_lt h (by decide)
theorem fewE {n : Nat} (h : n ≤ 100000) : n ≤ sizeLine := Nat.le_of_lt (few h)
theorem range_more {β : Type} (f : Nat → β) (i : Nat) : (List.range (i + 1)).map f = (List.range i).map f ++ [f i] := by
  rw [List.range_succ, List.map_append]
  rfl
theorem take_more {α : Type} {l : List α} {i : Nat} {x : α} (h : l[i]? = some x) : l.take (i + 1) = l.take i ++ [x] := by
  rw [List.take_add_one, h]
  rfl
theorem rep_flat {α : Type} (x : α) : ∀ n, (List.replicate n [x]).flatten = List.replicate n x
  | 0 => rfl
  | n + 1 => by
    rw [List.replicate_succ, List.flatten_cons, rep_flat x n]
    rfl
theorem rep_map {α : Type} (f : α → V) (x : α) (n : Nat) : (List.replicate n [f x]).flatten = (List.replicate n x).map f := by
  rw [rep_flat, List.map_replicate]
theorem ints_in {lo hi : Int} {l : List Int} (h : l.all (Codec.inInt lo hi) = true) : ∀ x ∈ l, lo ≤ x ∧ x ≤ hi := fun x hx => Codec.inInt_iff.mp (List.all_eq_true.mp h x hx)
theorem len_is {n : Nat} {α : Type} {l : List α} (h : Codec.inLen n n l = true) : l.length = n := by
  have q := Codec.inNat_iff.mp (show Codec.inNat n n l.length = true from h)
  exact Nat.le_antisymm q.2 q.1
theorem len_most {n : Nat} {α : Type} {l : List α} (h : Codec.inLen 0 n l = true) : l.length ≤ n := (Codec.inNat_iff.mp (show Codec.inNat 0 n l.length = true from h)).2
end Lm
namespace Lm
open PySem PySem.Spec PyProof.Rows L2
open PySem.W (Codec)
/-! ### the text by places -/
def stmtAt (i : Nat) : Stmt := PySem.Challenge.pw_lanemaps_s04_inverse.main.body.getD i (.Pass ⟨0, 0, 0, 0⟩)
abbrev s_lacking : Stmt := stmtAt 2
theorem sc_lacking : FnScope ["own_map", "found", "byte"] ["own_map"] (defScope s_lacking) := ⟨rfl, rfl, rfl, by decide +kernel, rfl, by decide +kernel, by decide +kernel⟩
abbrev s_undone : Stmt := stmtAt 3
theorem sc_undone : FnScope ["own_map", "found", "byte", "other"] ["own_map"] (defScope s_undone) := ⟨rfl, rfl, rfl, by decide +kernel, rfl, by decide +kernel, by decide +kernel⟩
abbrev s_inverse : Stmt := stmtAt 6
theorem sc_inverse : FnScope ["the_map", "old", "some"] ["the_map", "old"] (defScope s_inverse) := ⟨rfl, rfl, rfl, by decide +kernel, rfl, by decide +kernel, by decide +kernel⟩
section
variable {P : Program} {w : World} {K : PySem.W.Frag} {mg : Str → Option Value} {base : Heap}
/-! ### lacking -/
def spLacking (K : PySem.W.Frag) : Sp := fun vs H Q _ => ∃ (a : Addr) (m : List Int), vs = [.ref a] ∧ SqL K H a (m.map V.int) ∧ m.length = 256 ∧ Byt m ∧
  ∀ H' p, Same H H' → H p = none → H' p = some (.lst ((lackF m).map V.int)) → Q (.ref p) H'
theorem lack_more (m : List Int) (i : Nat) : ((List.range (i + 1)).filter fun y => !(hasF m).getD y false) = ((List.range i).filter fun y => !(hasF m).getD y false) ++ (if (hasF m).getD i false = true then [] else [i]) := by
  rw [List.range_succ, List.filter_append, List.filter_cons, List.filter_nil]
  cases (hasF m).getD i false <;> rfl
theorem ok_lacking {f : Addr} {fd : FuncData} (F : Fun K "lacking" "lacking" s_lacking f fd) {tk : Tok} (gB : mg "BYTES" = some (.int 256 tk)) (nR : mg "range" = none) : FnOk P w K mg base CX0 1 f fd ["own_map"] (spLacking K) := by
  refine F.ok sc_lacking (fun vs H Q E h => ?_) (fun cdv A outer s H vs Q E hr h => ?_)
  · obtain ⟨a, m, rfl, _⟩ := h
    rfl
  · obtain ⟨a, m, rfl, hA, hm, hb, q⟩ := h
    refine ⟨_, pss_cons (ps_set (i := 1) sc_lacking.nd rfl (Or.inr rfl) (pe_op op_rep (pe_lst (pa_cons pe_bl pa_nil)) (pe_glob (v := .int 256) (by rfl) gB ⟨_, rfl⟩)))
      (pss_cons (ps_for PassesOwn.never rfl (pi_list (pv 0)) (pg_name (i := 2) sc_lacking.nd rfl (Or.inl rfl)) (pss_one (ps_asg pe_bl (pg_sub (pv 1) (pv 2) set_list))))
      (pss_one (ps_ret (pe_lc (own := [("byte", 2)]) (g := gName 2) rfl sc_lacking.nd (pi_range1 (by rfl) nR (pa_cons (pe_glob (v := .int 256) (by rfl) gB ⟨_, rfl⟩) pa_nil))
        (blkOk_by (N := ["own_map", "found", "byte"]) (sc := defScope s_lacking) (by decide +kernel))
        (fun _ _ _ _ _ => pg_name (i := 2) sc_lacking.nd rfl (Or.inl rfl)) (fun _ _ _ _ _ => pts_one (pt_not (pt_val (pe_ix (r := rIxL K) ix_list (pv 1) (pv 2) (fun _ _ => rfl)))))
        (fun _ _ _ _ _ => pv 2))))), ?_⟩
    refine ⟨fewE (by show 1 ≤ _; decide), fun z nz => ⟨z, 256, _, rfl, rfl, upd_same, by decide, by decide, fewE (by show 1 * 256 ≤ _; decide), fun p np => ?_⟩⟩
    have npH : H p = none := (same_upd nz).free np
    have s2 : Same H (upd (upd H z (.lst [.bl false])) p (.lst (List.replicate (256 : Int).toNat [V.bl false]).flatten)) := same_put (same_upd nz) npH
    refine ⟨.ref a, rfl, a, rfl, ⟨_, s2.seq hA⟩, for_list (K := K) (a := a) (xs := m.map V.int) (fun i σ H' => ∃ y, σ = [some (.ref a), some (.ref p), y] ∧ Same H H' ∧ H' p = some (.lst ((hasF (m.take i)).map V.bl)))
      ⟨_, rfl, s2, ?_⟩ (fun i σ H' _ ⟨_, _, sm, _⟩ => sm.seq hA) ?_ ?_⟩
    · rw [upd_same, rep_map]
      rfl
    · rintro i x σ H' hx ⟨y, rfl, sm, hp⟩
      obtain ⟨z, hz, rfl⟩ := at_map hx
      have hz' := hb z (List.mem_of_getElem? hz)
      have hl : (hasF (m.take i)).length = 256 := (hasFold_len _ _).trans List.length_replicate
      refine ⟨.ref p, rfl, .int z, rfl, p, _, _, _, rfl, rfl, hp, ix_in hz'.1 ?_, ?_⟩
      · rw [List.length_map, hl]
        omega
      · refine ⟨_, rfl, same_put sm npH, ?_⟩
        rw [upd_same, take_more hz]
        unfold hasF
        rw [List.foldl_append, ← List.map_set]
        rfl
    · rintro σ H1 ⟨y, rfl, sm, hp⟩
      rw [List.length_map, List.take_length] at hp
      have hl : (hasF m).length = 256 := (hasFold_len _ _).trans List.length_replicate
      refine ⟨256, rfl, by decide, by decide, fun D nD => ?_⟩
      have nDH : H D = none := sm.free nD
      have npD : p ≠ D := ne_of_none hp nD
      refine lc_range (lo := 0) (n := 256) (fun i H' => Same H H' ∧ H' p = some (.lst ((hasF m).map V.bl)) ∧ H' D = some (.lst (((List.range i).filter fun y => !(hasF m).getD y false).map fun (j : Nat) => V.int j)))
        ⟨same_put sm nDH, (upd_ne npD).trans hp, upd_same⟩ ?_ ?_
      · rintro i H' hi ⟨sm', hp', hD⟩
        rw [Int.zero_add]
        refine ⟨rfl, .ref p, rfl, .int i, rfl, p, _, _, _, rfl, rfl, .of hp', at_getD false (by omega) (by omega), _, rfl, ?_⟩
        rw [Int.toNat_natCast, lack_more]
        cases e : (hasF m).getD i false with
        | true =>
          refine ⟨sm', hp', ?_⟩
          rw [hD, if_pos rfl, List.append_nil]
        | false =>
          refine ⟨.int i, rfl, _, hD, ?_, same_put sm' nDH, (upd_ne npD).trans hp', ?_⟩
          · rw [List.length_map]
            refine few (Nat.le_trans (List.length_filter_le _ _) ?_)
            rw [List.length_range]
            omega
          · rw [upd_same, if_neg Bool.false_ne_true, List.map_append]
            rfl
      · rintro H' ⟨sm', hp', hD⟩
        refine q H' D sm' nDH ?_
        rw [hD]
        unfold lackF lackNs
        rw [List.map_map]
        rfl
/-! ### undone -/
def spUndone (K : PySem.W.Frag) : Sp := fun vs H Q _ => ∃ (a : Addr) (m : List Int), vs = [.ref a] ∧ SqL K H a (m.map V.int) ∧ m.length = 256 ∧ Byt m ∧
  ∀ H' p, Same H H' → H p = none → H' p = some (.lst ((undoneF m).map V.int)) → Q (.ref p) H'
theorem ok_undone {f : Addr} {fd : FuncData} (F : Fun K "undone" "undone" s_undone f fd) {tk : Tok} (gB : mg "BYTES" = some (.int 256 tk)) (nE : mg "enumerate" = none) : FnOk P w K mg base CX0 1 f fd ["own_map"] (spUndone K) := by
  refine F.ok sc_undone (fun vs H Q E h => ?_) (fun cdv A outer s H vs Q E hr h => ?_)
  · obtain ⟨a, m, rfl, _⟩ := h
    rfl
  · obtain ⟨a, m, rfl, hA, hm, hb, q⟩ := h
    refine ⟨_, pss_cons (ps_set (i := 1) sc_undone.nd rfl (Or.inl rfl) (pe_op op_rep (pe_lst (pa_cons pe_int pa_nil)) (pe_glob (v := .int 256) (by rfl) gB ⟨_, rfl⟩)))
      (pss_cons (ps_for PassesOwn.never rfl (pi_enum (by rfl) nE (pa_cons (pv 0) pa_nil)) (pg_tup rfl (pgs_cons (pg_name (i := 2) sc_undone.nd rfl (Or.inl rfl)) (pgs_cons (pg_name (i := 3) sc_undone.nd rfl (Or.inl rfl)) pgs_nil)))
        (pss_one (ps_asg (pv 2) (pg_sub (pv 1) (pv 3) set_list))))
      (pss_one (ps_ret (pv 1)))), ?_⟩
    refine ⟨fewE (by show 1 ≤ _; decide), fun z nz => ⟨z, 256, _, rfl, rfl, upd_same, by decide, by decide, fewE (by show 1 * 256 ≤ _; decide), fun p np => ?_⟩⟩
    have npH : H p = none := (same_upd nz).free np
    have s2 : Same H (upd (upd H z (.lst [.int 0])) p (.lst (List.replicate (256 : Int).toNat [V.int 0]).flatten)) := same_put (same_upd nz) npH
    refine ⟨.ref a, rfl, a, _, rfl, s2.seq hA, for_it (walk_enum (K := K) (a := a) (xs := m.map V.int)) (fun i σ H' => ∃ y z, σ = [some (.ref a), some (.ref p), y, z] ∧ Same H H' ∧ H' p = some (.lst ((setAll (fun i => (m.getD i 0).toNat) (fun i => ((i : Nat) : Int)) (List.replicate 256 0) i).map V.int)))
      ⟨_, _, rfl, s2, ?_⟩ (fun i σ H' _ ⟨_, _, _, sm, _⟩ => sm.seq hA) ?_ ?_⟩
    · rw [upd_same, rep_map]
      rfl
    · rintro i x σ H1 H2 hi ⟨y, z, rfl, sm, hp⟩ ⟨T, u, v, rfl, nT, rfl, hu, hv⟩
      cases hu
      obtain ⟨k, hk, rfl⟩ := at_map hv
      have hk' := hb k (List.mem_of_getElem? hk)
      have s3 : Same H (upd H1 T (.tup [.int (i : Nat), .int k])) := same_put sm (sm.free nT)
      have e : m.getD i 0 = k := by
        rw [List.getD_eq_getElem?_getD, hk]
        rfl
      refine ⟨T, _, rfl, .of upd_same, rfl, _, _, rfl, _, _, rfl, rfl, .int i, rfl, .ref p, rfl, .int k, rfl, p, _, _, _, rfl, rfl, (upd_ne (ne_of_none hp nT)).trans hp, ix_in hk'.1 ?_, ?_⟩
      · rw [List.length_map, setAll_len, List.length_replicate]
        omega
      · refine ⟨some (.int i), some (.int k), rfl, same_put s3 npH, ?_⟩
        rw [upd_same, setAll_succ, List.map_set, e]
    · rintro σ H' ⟨y, z, rfl, sm, hp⟩
      rw [List.length_map, hm] at hp
      exact ⟨.ref p, rfl, q H' p sm npH hp⟩
/-! ### the def that is called -/
def sp_main (K : PySem.W.Frag) : Sp := fun vs H Q _ => ∃ (a b : Addr) (m t : List Int), vs = [.ref a, .ref b] ∧ SqL K H a (m.map V.int) ∧ SqL K H b (t.map V.int) ∧ m.length = 256 ∧ (∀ z ∈ m, (0 : Int) ≤ z ∧ z ≤ 255) ∧ t.length = 256 ∧ (∀ z ∈ t, (0 : Int) ≤ z ∧ z ≤ 255) ∧
  ∀ H' p, H' p = some (.lst ((PyRc03.inverse m t).map V.int)) → Q (.ref p) H'
theorem shaped_ints : ∀ l : List Int, SeqAt.shaped (.list (l.map PyData.int)) = true := by
  intro l
  induction l with
  | nil => rfl
  | cons x l ih => exact ih
theorem dp_ints {K : PySem.W.Frag} {H : Hp} : ∀ l : List Int, DpAll K H (l.map V.int) (l.map PyData.int)
  | [] => .nil
  | x :: l => .cons (.int x) (dp_ints l)
theorem ok_main {f fL fU : Addr} {fd fdL fdU : FuncData} (F : Fun K "inverse" "inverse" s_inverse f fd) {tk : Tok} (gO : mg "UNDONE" = some (.int (-1) tk)) (nL : mg "list" = none)
    (GL : FnOk P w K mg base CX0 1 fL fdL ["own_map"] (spLacking K)) (gL : mg "lacking" = some (.ref fL)) (kL : PySem.W.keepIn K (.ref fL) = true) (bL : Binds K fdL ["own_map"] [])
    (GU : FnOk P w K mg base CX0 1 fU fdU ["own_map"] (spUndone K)) (gU : mg "undone" = some (.ref fU)) (kU : PySem.W.keepIn K (.ref fU) = true) (bU : Binds K fdU ["own_map"] []) : FnOk P w K mg base CX0 2 f fd ["the_map", "old"] (sp_main K) := by
  refine F.ok sc_inverse (fun vs H Q E h => ?_) (fun cdv A outer s H vs Q E hr h => ?_)
  · obtain ⟨a, b, m, t, rfl, _⟩ := h
    rfl
  · obtain ⟨a, b, m, t, rfl, hA, hB, hm, hm2, ht, ht2, q⟩ := h
    refine ⟨_, pss_cons (ps_set (i := 2) sc_inverse.nd rfl (Or.inl rfl) (pe_call GL hr (by rfl) gL kL bL .nil pass0 (pa_cons (pv 0) pa_nil)))
      (pss_cons (ps_if (pt_cmpR (op_eqD hr.units) (pv 2) (pe_lst pa_nil) (nomark _))
        (pss_one (ps_ret (pe_op op_cat (pe_lst (pa_cons (pe_glob (v := .int (-1)) (by rfl) gO ⟨_, rfl⟩) pa_nil)) (pe_call GU hr (by rfl) gU kU bU .nil pass0 (pa_cons (pv 0) pa_nil))))) pss_nil)
      (pss_one (ps_ret (pe_op op_cat (pe_lst (pa_cons (pe_ix (r := rIxL K) ix_list (pv 2) pe_int (fun _ _ => rfl)) pa_nil)) (pe_callTy call_list_of (by rfl) nL (by decide +kernel) (pa_cons (pv 1) pa_nil)))))), ?_⟩
    refine ⟨.ref a, rfl, a, m, rfl, hA, hm, hm2, fun H1 p sm np hp => ?_⟩
    refine ⟨.ref p, rfl, Nat.zero_le _, fun z nz => ?_⟩
    have s2 : Same H1 (upd H1 z (.lst [])) := same_upd nz
    refine ⟨.list ((lackF m).map PyData.int), .list [], .lst (.of (s2 _ _ hp)) (dp_ints _), .lst (.of upd_same) .nil, shaped_ints _, rfl, _, rfl, ?_⟩
    cases e : lackF m with
    | nil =>
      refine ⟨fewE (by show 1 ≤ _; decide), fun y ny => ?_⟩
      have s3 : Same H (upd (upd H1 z (.lst [])) y (.lst [.int (-1)])) := (sm.trans s2).trans (same_upd ny)
      refine ⟨.ref a, rfl, a, m, rfl, s3.seq hA, hm, hm2, fun H2 u sm2 nu hu => ?_⟩
      refine ⟨y, u, _, _, rfl, rfl, sm2 _ _ upd_same, hu, ?_, fun r nr => q _ r ?_⟩
      · rw [List.length_map, undoneF_len]
        exact fewE (by decide)
      · rw [upd_same, inverse_none hm2 hm e, List.map_append]
        rfl
    | cons x l =>
      have hp' := s2 _ _ hp
      rw [e] at hp'
      refine ⟨.ref p, rfl, p, _, 0, .int x, rfl, rfl, .of hp', at_of (j := 0) rfl rfl, fewE (by show 1 ≤ _; decide), fun y ny => ?_⟩
      have s3 : Same H (upd (upd H1 z (.lst [])) y (.lst [.int x])) := (sm.trans s2).trans (same_upd ny)
      refine ⟨.ref b, rfl, b, _, rfl, .inl (s3.seq hB), fun u nu => ?_⟩
      refine ⟨y, u, _, _, rfl, rfl, same_upd nu _ _ upd_same, upd_same, ?_, fun r nr => q _ r ?_⟩
      · rw [List.length_map]
        exact fewE (by show 1 + _ ≤ _; omega)
      · rw [upd_same, inverse_some hm2 ht2 e, List.map_append]
        rfl
end
/-! ### what the top has written -/
theorem all_mk {P : Program} {w : World} {K : PySem.W.Frag} {h : Heap} {mg : Str → Option Value} {fa f1 f2 f3 : Addr} (X : K.In h) (G : h.Ns mainGlobals mg) (hfa : mg "inverse" = some (.ref fa))
    {od1 an1 od2 an2 od3 an3 : Option Addr} {sl1 sl2 sl3 : Array (Option Value)} {oc1 kV1 dc1 pm1 cd1 ct1 oc2 kV2 dc2 pm2 cd2 ct2 oc3 kV3 dc3 pm3 cd3 ct3 : Value} {tk_BYTES tk_UNDONE : Tok}
    (a1 : PySem.W.nsIn K mainGlobals "lacking" = some (some (.ref f1))) (l1 : K.lookup f1 = some ⟨oc1, od1, .func (PySem.W.fnOf "lacking" "lacking" (defArgs s_lacking) (defBody s_lacking) (defScope s_lacking) .none kV1 dc1 pm1 an1 cd1 ct1), sl1⟩)
    (c1 : PySem.W.codeIn K cd1 "lacking" = true) (k1 : PySem.W.keepIn K (.ref f1) = true)
    (a2 : PySem.W.nsIn K mainGlobals "undone" = some (some (.ref f2))) (l2 : K.lookup f2 = some ⟨oc2, od2, .func (PySem.W.fnOf "undone" "undone" (defArgs s_undone) (defBody s_undone) (defScope s_undone) .none kV2 dc2 pm2 an2 cd2 ct2), sl2⟩)
    (c2 : PySem.W.codeIn K cd2 "undone" = true) (k2 : PySem.W.keepIn K (.ref f2) = true)
    (a3 : PySem.W.nsIn K mainGlobals "inverse" = some (some (.ref f3))) (l3 : K.lookup f3 = some ⟨oc3, od3, .func (PySem.W.fnOf "inverse" "inverse" (defArgs s_inverse) (defBody s_inverse) (defScope s_inverse) .none kV3 dc3 pm3 an3 cd3 ct3), sl3⟩)
    (c3 : PySem.W.codeIn K cd3 "inverse" = true) (k3 : PySem.W.keepIn K (.ref f3) = true)
    (g_BYTES : PySem.W.nsIn K mainGlobals "BYTES" = some (some (.int 256 tk_BYTES)))
    (g_UNDONE : PySem.W.nsIn K mainGlobals "UNDONE" = some (some (.int (-1) tk_UNDONE)))
    (z_range : PySem.W.nsIn K mainGlobals "range" = some none)
    (z_enumerate : PySem.W.nsIn K mainGlobals "enumerate" = some none)
    (z_list : PySem.W.nsIn K mainGlobals "list" = some none)
    : ∃ fd : FuncData, (∀ (s : Shared) (us : List Value), us.length = (["the_map", "old"] : List Str).length → BindsTo s fd ⟨us, []⟩ ((["the_map", "old"] : List Str).zip us)) ∧ ∀ base : Heap, K.In base → base.Ns mainGlobals mg → FnOk P w K mg base CX0 2 fa fd ["the_map", "old"] (sp_main K) := by
  have e := hfa.symm.trans (PySem.W.mg_of X G a3)
  cases e
  have F1 := fun_mk (st := s_lacking) l1 c1 k1
  have F2 := fun_mk (st := s_undone) l2 c2 k2
  have F3 := fun_mk (st := s_inverse) l3 c3 k3
  have b1 := F1.binds (ps := ["own_map"]) fun _ _ _ _ _ _ us hl => match us, hl with | [_], _ => rfl
  have b2 := F2.binds (ps := ["own_map"]) fun _ _ _ _ _ _ us hl => match us, hl with | [_], _ => rfl
  refine ⟨PySem.W.fnOf "inverse" "inverse" (defArgs s_inverse) (defBody s_inverse) (defScope s_inverse) .none kV3 dc3 pm3 an3 cd3 ct3, fun s us hu => match us, hu with | [_, _], _ => .of_eq rfl, fun base _ _ => ?_⟩
  have G1 : FnOk P w K mg base CX0 1 f1 _ ["own_map"] (spLacking K) := ok_lacking F1 (PySem.W.mg_of X G g_BYTES) (PySem.W.mg_none_of X G z_range)
  have G2 : FnOk P w K mg base CX0 1 f2 _ ["own_map"] (spUndone K) := ok_undone F2 (PySem.W.mg_of X G g_BYTES) (PySem.W.mg_none_of X G z_enumerate)
  exact ok_main F3 (PySem.W.mg_of X G g_UNDONE) (PySem.W.mg_none_of X G z_list) G1 (PySem.W.mg_of X G a1) F1.kp b1 G2 (PySem.W.mg_of X G a2) F2.kp b2
end Lm
open PySem PySem.W PyProof.Rows
set_option maxRecDepth 100000 in
set_option maxHeartbeats 8000000 in
theorem PySem.Challenge.cw_lanemaps_s04_inverse_holds : PySem.Challenge.rw_lanemaps_s04_inverse.Holds := by
  w_on; k_headS; (case hw => exact ⟨[(.list (List.replicate 256 (.int 0))), (.list (List.replicate 256 (.int 0)))], by decide +kernel, by decide +kernel⟩)
  k_fillS
  refine L2.walk_specK (r := PySem.Challenge.rw_lanemaps_s04_inverse) (k := 2) (CX := L2.CX0) (ps := ["the_map", "old"]) (sp := Lm.sp_main) (by decide +kernel) rfl rfl ⟨rfl, by decide, by decide⟩ (fun w h Y => PySem.W.kIn_of Y) ?F ?S (fun _ _ _ _ z => z)
  case F =>
    intro w mg fa h Y KX G hmg
    refine' Lm.all_mk KX G hmg ?a1 ?l1 ?c1 ?k1 ?a2 ?l2 ?c2 ?k2 ?a3 ?l3 ?c3 ?k3 ?g_BYTES ?g_UNDONE ?z_range ?z_enumerate ?z_list
    (case a1 => k_is)
    (case l1 => k_is)
    (case c1 => k_is)
    (case k1 => k_is)
    (case a2 => k_is)
    (case l2 => k_is)
    (case c2 => k_is)
    (case k2 => k_is)
    (case a3 => k_is)
    (case l3 => k_is)
    (case c3 => k_is)
    (case k3 => k_is)
    (case g_BYTES => k_is)
    (case g_UNDONE => k_is)
    (case z_range => k_is)
    (case z_enumerate => k_is)
    (case z_list => k_is)
  case S =>
    intro K H xs a hO hwi hask hx
    cases hx with
    | cons h1 h2 =>
      cases h2 with
      | cons h2 h3 =>
        cases h3
        cases h1 with
        | lst hs ha =>
          cases h2 with
          | lst hs2 ha2 =>
            have e := L2.ints_dw a.1 _ ha
            have e2 := L2.ints_dw a.2.1 _ ha2
            subst e e2
            have q : ((Codec.inLen 256 256 a.1 && a.1.all (Codec.inInt 0 255)) && ((Codec.inLen 256 256 a.2.1 && a.2.1.all (Codec.inInt 0 255)) && true)) = true := hwi
            simp only [Bool.and_eq_true] at q
            exact ⟨_, _, a.1, a.2.1, rfl, hs, hs2, Lm.len_is q.1.1, Lm.ints_in q.1.2, Lm.len_is q.2.1.1, Lm.ints_in q.2.1.2, fun H' p hp => .lst (L2.SqL.of hp) (L2.dw_ints _)⟩
#print axioms PySem.Challenge.cw_lanemaps_s04_inverse_holds
