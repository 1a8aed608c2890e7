import PyProof.Rows.All
import Wide.All
import OpenK.AllK
import Wide.FinOn
import Open.SpecLaws
import KE.OsHead
import KE.OsGo
import HandS.ForMost
import HandS.Spec
import HandS.Walk
import PySem.Challenge.RW_lanemaps_s03_compose
set_option Elab.async false
set_option linter.all false
set_option maxRecDepth 100000
set_option maxHeartbeats 2000000
/-! lanemaps.lanes.compose: first the mathematics (the specification by Python's numbers), then each def of the program by the hand layer, then the end. -/
namespace Lm
/-- numbers from 0 to 255 -/
def Byt (l : List Int) : Prop := ∀ x ∈ l, 0 ≤ x ∧ x ≤ 255
/-! the line's words -/
theorem list_app (l r : List Int) : Rc03Neutral.list ((l.length : Int) :: (l ++ r)) = some (l, r) := by
  show (if 0 ≤ (l.length : Int) ∧ (l.length : Int).toNat ≤ (l ++ r).length then some ((l ++ r).take (l.length : Int).toNat, (l ++ r).drop (l.length : Int).toNat) else none) = _
  rw [if_pos ⟨Int.natCast_nonneg _, by simp⟩]
  simp
theorem list_end (l : List Int) : Rc03Neutral.list ((l.length : Int) :: l) = some (l, []) := by
  have h := list_app l []
  rw [List.append_nil] at h
  exact h
theorem two_of (a b : List Int) (k : List Int → List Int → Rc03.Call × Bool) : Rc03Neutral.two ((a.length : Int) :: (a ++ ((b.length : Int) :: b))) k = some (k a b) := by
  unfold Rc03Neutral.two
  rw [list_app]
  simp only [Option.bind_some]
  rw [list_end]
  rfl
theorem one_of (a : List Int) (k : List Int → Rc03.Call × Bool) : Rc03Neutral.one ((a.length : Int) :: a) k = some (k a) := by
  unfold Rc03Neutral.one
  rw [list_end]
  rfl
theorem f_of {c : List Int} {q : Rc03.Call × Bool} (h : Rc03Neutral.callOf c = some q) :
    Rc03Neutral.f c = (Rc03.spec q.1).num :: (((Rc03.spec q.1).bytes.map fun b => ((b.toNat : Nat) : Int)) ++ (Rc03.spec q.1).counts.map fun (x : Nat) => (x : Int)) := by
  unfold Rc03Neutral.f
  rw [h]
def ans (s : Rc03.Call) : List Int := (Rc03.spec s).num :: (((Rc03.spec s).bytes.map fun b => ((b.toNat : Nat) : Int)) ++ (Rc03.spec s).counts.map fun (x : Nat) => (x : Int))
theorem apply_ans (m t : List Int) : PyRc03.apply m t = ans (.apply (Rc03Neutral.row m) (Rc03Neutral.row t)) := by
  unfold PyRc03.apply
  refine f_of (q := (.apply (Rc03Neutral.row m) (Rc03Neutral.row t), Rc03Neutral.map m && Rc03Neutral.text t.length t)) ?_
  have e : [0] ++ [(m.length : Int)] ++ m ++ [(t.length : Int)] ++ t ++ [(t.length : Int)] = (0 : Int) :: ((m.length : Int) :: (m ++ ((t.length : Int) :: (t ++ [(t.length : Int)])))) := by simp
  rw [e]
  unfold Rc03Neutral.callOf
  simp only [if_true, list_app, Option.bind_some]
theorem apply64_ans (m t : List Int) : PyRc03.apply64 m t = ans (.apply64 (Rc03Neutral.row m) (Rc03Neutral.row t)) := by
  unfold PyRc03.apply64
  refine f_of (q := (.apply64 (Rc03Neutral.row m) (Rc03Neutral.row t), Rc03Neutral.map m && Rc03Neutral.lanes t)) ?_
  have e : [1] ++ [(m.length : Int)] ++ m ++ [(t.length : Int)] ++ t = (1 : Int) :: ((m.length : Int) :: (m ++ ((t.length : Int) :: t))) := by simp
  rw [e]
  unfold Rc03Neutral.callOf
  simp only [two_of]
  rfl
theorem compose_ans (m t : List Int) : PyRc03.compose m t = ans (.compose (Rc03Neutral.row m) (Rc03Neutral.row t)) := by
  unfold PyRc03.compose
  refine f_of (q := (.compose (Rc03Neutral.row m) (Rc03Neutral.row t), Rc03Neutral.map m && Rc03Neutral.map t)) ?_
  have e : [2] ++ [(m.length : Int)] ++ m ++ [(t.length : Int)] ++ t = (2 : Int) :: ((m.length : Int) :: (m ++ ((t.length : Int) :: t))) := by simp
  rw [e]
  unfold Rc03Neutral.callOf
  simp only [two_of]
  rfl
theorem inverse_ans (m t : List Int) : PyRc03.inverse m t = ans (.inverse (Rc03Neutral.row m) (Rc03Neutral.row t)) := by
  unfold PyRc03.inverse
  refine f_of (q := (.inverse (Rc03Neutral.row m) (Rc03Neutral.row t), Rc03Neutral.map m && Rc03Neutral.map t)) ?_
  have e : [3] ++ [(m.length : Int)] ++ m ++ [(t.length : Int)] ++ t = (3 : Int) :: ((m.length : Int) :: (m ++ ((t.length : Int) :: t))) := by simp
  rw [e]
  unfold Rc03Neutral.callOf
  simp only [two_of]
  rfl
theorem count_ans (t c : List Int) : PyRc03.count t c = ans (.count (Rc03Neutral.row t) (c.map Int.toNat)) := by
  unfold PyRc03.count
  refine f_of (q := (.count (Rc03Neutral.row t) (c.map Int.toNat), Rc03Neutral.text t.length t && Rc03Neutral.counts c)) ?_
  have e : [4] ++ [(t.length : Int)] ++ t ++ [(t.length : Int)] ++ [(c.length : Int)] ++ c = (4 : Int) :: ((t.length : Int) :: (t ++ ((t.length : Int) :: ((c.length : Int) :: c)))) := by simp
  rw [e]
  unfold Rc03Neutral.callOf
  simp only [list_app, Option.bind_some, one_of]
  rfl
theorem move_ans (m t : List Int) : PyRc03.move m t = ans (.move (Rc03Neutral.row m) (Rc03Neutral.row t)) := by
  unfold PyRc03.move
  refine f_of (q := (.move (Rc03Neutral.row m) (Rc03Neutral.row t), Rc03Neutral.lanes m && Rc03Neutral.lanes t)) ?_
  have e : [5] ++ [(m.length : Int)] ++ m ++ [(t.length : Int)] ++ t = (5 : Int) :: ((m.length : Int) :: (m ++ ((t.length : Int) :: t))) := by simp
  rw [e]
  unfold Rc03Neutral.callOf
  simp only [two_of]
  rfl
theorem put_ans (m t : List Int) : PyRc03.put m t = ans (.put (Rc03Neutral.row m) (Rc03Neutral.row t)) := by
  unfold PyRc03.put
  refine f_of (q := (.put (Rc03Neutral.row m) (Rc03Neutral.row t), Rc03Neutral.lanes m && Rc03Neutral.lanes t)) ?_
  have e : [6] ++ [(m.length : Int)] ++ m ++ [(t.length : Int)] ++ t = (6 : Int) :: ((m.length : Int) :: (m ++ ((t.length : Int) :: t))) := by simp
  rw [e]
  unfold Rc03Neutral.callOf
  simp only [two_of]
  rfl
theorem unnamed_ans (p : List Int) : PyRc03.unnamed p = ans (.unnamed (Rc03Neutral.row p)) := by
  unfold PyRc03.unnamed
  refine f_of (q := (.unnamed (Rc03Neutral.row p), Rc03Neutral.lanes p)) ?_
  have e : [7] ++ [(p.length : Int)] ++ p = (7 : Int) :: ((p.length : Int) :: p) := by simp
  rw [e]
  unfold Rc03Neutral.callOf
  simp only [one_of]
  rfl
theorem first_ans (p : List Int) : PyRc03.first p = ans (.first (Rc03Neutral.row p)) := by
  unfold PyRc03.first
  refine f_of (q := (.first (Rc03Neutral.row p), Rc03Neutral.lanes p)) ?_
  have e : [8] ++ [(p.length : Int)] ++ p = (8 : Int) :: ((p.length : Int) :: p) := by simp
  rw [e]
  unfold Rc03Neutral.callOf
  simp only [one_of]
  rfl
theorem before_ans (p : List Int) : PyRc03.before p = ans (.before (Rc03Neutral.row p)) := by
  unfold PyRc03.before
  refine f_of (q := (.before (Rc03Neutral.row p), Rc03Neutral.lanes p)) ?_
  have e : [9] ++ [(p.length : Int)] ++ p = (9 : Int) :: ((p.length : Int) :: p) := by simp
  rw [e]
  unfold Rc03Neutral.callOf
  simp only [one_of]
  rfl
theorem rank_ans (p : List Int) : PyRc03.rank p = ans (.rank (Rc03Neutral.row p)) := by
  unfold PyRc03.rank
  refine f_of (q := (.rank (Rc03Neutral.row p), Rc03Neutral.lanes p)) ?_
  have e : [10] ++ [(p.length : Int)] ++ p = (10 : Int) :: ((p.length : Int) :: p) := by simp
  rw [e]
  unfold Rc03Neutral.callOf
  simp only [one_of]
  rfl
/-! bytes -/
theorem byte_val {x : Int} (h : 0 ≤ x ∧ x ≤ 255) : (UInt8.ofNat x.toNat).toNat = x.toNat := by
  rw [UInt8.toNat_ofNat']
  omega
theorem byte_int {x : Int} (h : 0 ≤ x ∧ x ≤ 255) : (((UInt8.ofNat x.toNat).toNat : Nat) : Int) = x := by
  rw [byte_val h]
  omega
theorem byte_inj {x y : Int} (hx : 0 ≤ x ∧ x ≤ 255) (hy : 0 ≤ y ∧ y ≤ 255) : (UInt8.ofNat x.toNat == UInt8.ofNat y.toNat) = (x == y) := by
  by_cases e : x = y
  · subst e
    simp
  · have n : UInt8.ofNat x.toNat ≠ UInt8.ofNat y.toNat := fun q => e (by rw [← byte_int hx, ← byte_int hy, q])
    rw [beq_eq_false_iff_ne.mpr n, beq_eq_false_iff_ne.mpr e]
theorem byt_getD {l : List Int} (h : Byt l) (i : Nat) : 0 ≤ l.getD i 0 ∧ l.getD i 0 ≤ 255 := by
  rw [List.getD_eq_getElem?_getD]
  cases e : l[i]? with
  | none => exact ⟨Int.le_refl 0, by decide⟩
  | some x => exact h x (List.mem_of_getElem? e)
theorem row_getD (l : List Int) (i : Nat) : (Rc03Neutral.row l).getD i 0 = UInt8.ofNat (l.getD i 0).toNat := by
  unfold Rc03Neutral.row
  rw [List.getD_eq_getElem?_getD, List.getElem?_map, List.getD_eq_getElem?_getD]
  cases l[i]? <;> rfl
/-! 1, 2: maps -/
def mappedF (m t : List Int) : List Int := t.map fun b => m.getD b.toNat 0
theorem has_int {m : List Int} (hm : Byt m) {b : Int} (hb : 0 ≤ b ∧ b ≤ 255) : (((Rc03.has (Rc03Neutral.row m) (UInt8.ofNat b.toNat)).toNat : Nat) : Int) = m.getD b.toNat 0 := by
  unfold Rc03.has
  rw [byte_val hb, row_getD, byte_int (byt_getD hm _)]
theorem mapped_int {m t : List Int} (hm : Byt m) (ht : Byt t) : (((Rc03Neutral.row t).map (Rc03.has (Rc03Neutral.row m))).map fun b => ((b.toNat : Nat) : Int)) = mappedF m t := by
  unfold Rc03Neutral.row mappedF
  rw [List.map_map, List.map_map]
  refine List.map_congr_left fun b hb => ?_
  exact has_int hm (ht b hb)
theorem apply_eq {m t : List Int} (hm : Byt m) (ht : Byt t) : PyRc03.apply m t = [0] ++ mappedF m t := by
  rw [apply_ans, ← mapped_int hm ht]
  simp [ans, Rc03.spec, Rc03.apply]
theorem apply64_eq {m t : List Int} (hm : Byt m) (ht : Byt t) : PyRc03.apply64 m t = [0] ++ mappedF m t := by
  rw [apply64_ans, ← mapped_int hm ht]
  simp [ans, Rc03.spec, Rc03.apply]
theorem compose_eq {m t : List Int} (hm : Byt m) (ht : Byt t) : PyRc03.compose m t = [0] ++ mappedF m t := by
  rw [compose_ans, ← mapped_int hm ht]
  simp [ans, Rc03.spec, Rc03.compose]
end Lm
namespace Lm
open PySem PySem.Spec PyProof.Rows L2
open PySem.W (Codec)
/-! ### small words of the walk -/
theorem same_upd {H : Hp} {p : Addr} {o : HO} (h : H p = none) : Same H (upd H p o) := fun b x e => (upd_ne (ne_of_none e h)).trans e
theorem same_put {H H' : Hp} {p : Addr} {o : HO} (s : Same H H') (h : H p = none) : Same H (upd H' p o) := fun b x e => (upd_ne (ne_of_none e h)).trans (s b x e)
theorem at_map {α β : Type} {f : α → β} {l : List α} {i : Nat} {y : β} (h : (l.map f)[i]? = some y) : ∃ z, l[i]? = some z ∧ y = f z := by
  rw [List.getElem?_map] at h
  obtain ⟨z, e1, e2⟩ := Option.map_eq_some_iff.mp h
  exact ⟨z, e1, e2.symm⟩
/-- the z-th of a list, by getD -/
theorem at_getD {α : Type} {f : α → V} {m : List α} {z : Int} (d : α) (h : 0 ≤ z) (hl : z < m.length) : atI (m.map f) z = some (f (m.getD z.toNat d)) := by
  refine at_of (j := z.toNat) (by omega) ?_
  rw [List.getElem?_map, List.getD_eq_getElem?_getD, List.getElem?_eq_getElem (by omega)]
  rfl
theorem ix_in {n : Nat} {z : Int} (h0 : 0 ≤ z) (h1 : z < n) : ixN n z = some z.toNat := by
  unfold ixN
  rw [if_pos h0, if_pos h1]
theorem few {n : Nat} (h : n ≤ 100000) : n < sizeLine := Nat.lt_of_le_of_lt h (by decide)
theorem fewE {n : Nat} (h : n ≤ 100000) : n ≤ sizeLine := Nat.le_of_lt (few h)
theorem range_more {β : Type} (f : Nat → β) (i : Nat) : (List.range (i + 1)).map f = (List.range i).map f ++ [f i] := by
  rw [List.range_succ, List.map_append]
  rfl
theorem take_more {α : Type} {l : List α} {i : Nat} {x : α} (h : l[i]? = some x) : l.take (i + 1) = l.take i ++ [x] := by
  rw [List.take_add_one, h]
  rfl
theorem rep_flat {α : Type} (x : α) : ∀ n, (List.replicate n [x]).flatten = List.replicate n x
  | 0 => rfl
  | n + 1 => by
    rw [List.replicate_succ, List.flatten_cons, rep_flat x n]
    rfl
theorem rep_map {α : Type} (f : α → V) (x : α) (n : Nat) : (List.replicate n [f x]).flatten = (List.replicate n x).map f := by
  rw [rep_flat, List.map_replicate]
theorem ints_in {lo hi : Int} {l : List Int} (h : l.all (Codec.inInt lo hi) = true) : ∀ x ∈ l, lo ≤ x ∧ x ≤ hi := fun x hx => Codec.inInt_iff.mp (List.all_eq_true.mp h x hx)
theorem len_is {n : Nat} {α : Type} {l : List α} (h : Codec.inLen n n l = true) : l.length = n := by
  have q := Codec.inNat_iff.mp (show Codec.inNat n n l.length = true from h)
  exact Nat.le_antisymm q.2 q.1
theorem len_most {n : Nat} {α : Type} {l : List α} (h : Codec.inLen 0 n l = true) : l.length ≤ n := (Codec.inNat_iff.mp (show Codec.inNat 0 n l.length = true from h)).2
end Lm
namespace Lm
open PySem PySem.Spec PyProof.Rows L2
open PySem.W (Codec)
/-! ### the text by places -/
def stmtAt (i : Nat) : Stmt := PySem.Challenge.pw_lanemaps_s03_compose.main.body.getD i (.Pass ⟨0, 0, 0, 0⟩)
abbrev s_mapped : Stmt := stmtAt 1
theorem sc_mapped : FnScope ["own_map", "some", "byte"] ["own_map", "some"] (defScope s_mapped) := ⟨rfl, rfl, rfl, by decide +kernel, rfl, by decide +kernel, by decide +kernel⟩
abbrev s_compose : Stmt := stmtAt 3
theorem sc_compose : FnScope ["a", "b"] ["a", "b"] (defScope s_compose) := ⟨rfl, rfl, rfl, by decide +kernel, rfl, by decide +kernel, by decide +kernel⟩
section
variable {P : Program} {w : World} {K : PySem.W.Frag} {mg : Str → Option Value} {base : Heap}
/-! ### mapped -/
def spMapped (K : PySem.W.Frag) : Sp := fun vs H Q _ => ∃ (a b : Addr) (m t : List Int), vs = [.ref a, .ref b] ∧ SqL K H a (m.map V.int) ∧ SqL K H b (t.map V.int) ∧ m.length = 256 ∧ t.length ≤ 2000 ∧ Byt t ∧
  ∀ H' p, Same H H' → H p = none → H' p = some (.lst ((mappedF m t).map V.int)) → Q (.ref p) H'
theorem ok_mapped {f : Addr} {fd : FuncData} (F : Fun K "mapped" "mapped" s_mapped f fd) : FnOk P w K mg base CX0 1 f fd ["own_map", "some"] (spMapped K) := by
  refine F.ok sc_mapped (fun vs H Q E h => ?_) (fun cdv A outer s H vs Q E hr h => ?_)
  · obtain ⟨a, b, m, t, rfl, _⟩ := h
    rfl
  · obtain ⟨a, b, m, t, rfl, hA, hB, hm, ht, hb, q⟩ := h
    refine ⟨_, pss_one (ps_ret (pe_lc (own := [("byte", 2)]) (g := gName 2) (tt := tYes) rfl sc_mapped.nd (pi_list (pv 1))
      (blkOk_by (N := ["own_map", "some", "byte"]) (sc := defScope s_mapped) (by decide +kernel))
      (fun _ _ _ _ _ => pg_name (i := 2) sc_mapped.nd rfl (Or.inl rfl)) (fun _ _ _ _ _ => pts_nil)
      (fun _ _ _ _ _ => pe_ix (r := rIxL K) ix_list (pv 0) (pv 2) (fun _ _ => rfl)))), ?_⟩
    refine ⟨.ref b, rfl, b, rfl, ⟨_, hB⟩, fun D nD => lc_list (K := K) (a := b) (xs := t.map V.int) (fun i H' => Same H H' ∧ H' D = some (.lst ((mappedF m (t.take i)).map V.int)))
      ⟨same_upd nD, upd_same⟩ (fun i H' _ h => h.1.seq hB) ?_ ?_⟩
    · rintro i x H' hx ⟨sm, hD⟩
      obtain ⟨z, hz, rfl⟩ := at_map hx
      have hz' := hb z (List.mem_of_getElem? hz)
      refine ⟨rfl, ⟨.ref a, rfl, .int z, rfl, a, _, z, _, rfl, rfl, sm.seq hA, at_getD 0 hz'.1 (by omega), _, hD, ?_, same_put sm nD, ?_⟩⟩
      · unfold mappedF
        rw [List.length_map, List.length_map, List.length_take]
        exact few (by omega)
      · rw [upd_same, take_more hz]
        unfold mappedF
        rw [List.map_append, List.map_append]
        rfl
    · rintro H' ⟨sm, hD⟩
      refine q H' D sm nD ?_
      rw [hD, List.length_map, List.take_length]
/-! ### the def that is called -/
def sp_main (K : PySem.W.Frag) : Sp := fun vs H Q _ => ∃ (a b : Addr) (m t : List Int), vs = [.ref a, .ref b] ∧ SqL K H a (m.map V.int) ∧ SqL K H b (t.map V.int) ∧ m.length = 256 ∧ (∀ z ∈ m, (0 : Int) ≤ z ∧ z ≤ 255) ∧ t.length = 256 ∧ (∀ z ∈ t, (0 : Int) ≤ z ∧ z ≤ 255) ∧
  ∀ H' p, H' p = some (.lst ((PyRc03.compose m t).map V.int)) → Q (.ref p) H'
theorem ok_main {f fM : Addr} {fd fdM : FuncData} (F : Fun K "compose" "compose" s_compose f fd) (GM : FnOk P w K mg base CX0 1 fM fdM ["own_map", "some"] (spMapped K)) (gM : mg "mapped" = some (.ref fM)) (kM : PySem.W.keepIn K (.ref fM) = true) (bM : Binds K fdM ["own_map", "some"] []) :
    FnOk P w K mg base CX0 2 f fd ["a", "b"] (sp_main K) := by
  refine F.ok sc_compose (fun vs H Q E h => ?_) (fun cdv A outer s H vs Q E hr h => ?_)
  · obtain ⟨a, b, m, t, rfl, _⟩ := h
    rfl
  · obtain ⟨a, b, m, t, rfl, hA, hB, hm, hm2, ht, ht2, q⟩ := h
    refine ⟨_, pss_one (ps_ret (pe_op op_cat (pe_lst (pa_cons pe_int pa_nil)) (pe_call GM hr (by rfl) gM kM bM .nil pass0 (pa_cons (pv 0) (pa_cons (pv 1) pa_nil))))), ?_⟩
    refine ⟨fewE (by show 1 ≤ _; decide), fun z nz => ?_⟩
    have s1 : Same H (upd H z (.lst [.int 0])) := same_upd nz
    refine ⟨.ref a, rfl, .ref b, rfl, a, b, m, t, rfl, s1.seq hA, s1.seq hB, by omega, by omega, ht2, fun H' p sm np hp => ?_⟩
    refine ⟨z, p, _, _, rfl, rfl, sm _ _ upd_same, hp, ?_, fun r nr => q _ r ?_⟩
    · have hz := (show (mappedF m t).length ≤ 2000 by unfold mappedF; rw [List.length_map]; omega)
      rw [List.length_map]
      exact fewE (by show 1 + _ ≤ _; omega)
    · rw [upd_same, compose_eq hm2 ht2, List.map_append]
      rfl
end
/-! ### what the top has written -/
theorem all_mk {P : Program} {w : World} {K : PySem.W.Frag} {h : Heap} {mg : Str → Option Value} {fa f1 f2 : Addr} (X : K.In h) (G : h.Ns mainGlobals mg) (hfa : mg "compose" = some (.ref fa))
    {od1 an1 od2 an2 : Option Addr} {sl1 sl2 : Array (Option Value)} {oc1 kV1 dc1 pm1 cd1 ct1 oc2 kV2 dc2 pm2 cd2 ct2 : Value}
    (a1 : PySem.W.nsIn K mainGlobals "mapped" = some (some (.ref f1))) (l1 : K.lookup f1 = some ⟨oc1, od1, .func (PySem.W.fnOf "mapped" "mapped" (defArgs s_mapped) (defBody s_mapped) (defScope s_mapped) .none kV1 dc1 pm1 an1 cd1 ct1), sl1⟩)
    (c1 : PySem.W.codeIn K cd1 "mapped" = true) (k1 : PySem.W.keepIn K (.ref f1) = true)
    (a2 : PySem.W.nsIn K mainGlobals "compose" = some (some (.ref f2))) (l2 : K.lookup f2 = some ⟨oc2, od2, .func (PySem.W.fnOf "compose" "compose" (defArgs s_compose) (defBody s_compose) (defScope s_compose) .none kV2 dc2 pm2 an2 cd2 ct2), sl2⟩)
    (c2 : PySem.W.codeIn K cd2 "compose" = true) (k2 : PySem.W.keepIn K (.ref f2) = true)
    : ∃ fd : FuncData, (∀ (s : Shared) (us : List Value), us.length = (["a", "b"] : List Str).length → BindsTo s fd ⟨us, []⟩ ((["a", "b"] : List Str).zip us)) ∧ ∀ base : Heap, K.In base → base.Ns mainGlobals mg → FnOk P w K mg base CX0 2 fa fd ["a", "b"] (sp_main K) := by
  have e := hfa.symm.trans (PySem.W.mg_of X G a2)
  cases e
  have F1 := fun_mk (st := s_mapped) l1 c1 k1
  have F2 := fun_mk (st := s_compose) l2 c2 k2
  have b1 := F1.binds (ps := ["own_map", "some"]) fun _ _ _ _ _ _ us hl => match us, hl with | [_, _], _ => rfl
  refine ⟨PySem.W.fnOf "compose" "compose" (defArgs s_compose) (defBody s_compose) (defScope s_compose) .none kV2 dc2 pm2 an2 cd2 ct2, fun s us hu => match us, hu with | [_, _], _ => .of_eq rfl, fun base _ _ => ?_⟩
  have G1 : FnOk P w K mg base CX0 1 f1 _ ["own_map", "some"] (spMapped K) := ok_mapped F1 
  exact ok_main F2 G1 (PySem.W.mg_of X G a1) F1.kp b1
end Lm
open PySem PySem.W PyProof.Rows
set_option maxRecDepth 100000 in
set_option maxHeartbeats 8000000 in
theorem PySem.Challenge.cw_lanemaps_s03_compose_holds : PySem.Challenge.rw_lanemaps_s03_compose.Holds := by
  w_on; k_headS; (case hw => exact ⟨[(.list (List.replicate 256 (.int 0))), (.list (List.replicate 256 (.int 0)))], by decide +kernel, by decide +kernel⟩)
  k_fillS
  refine L2.walk_specK (r := PySem.Challenge.rw_lanemaps_s03_compose) (k := 2) (CX := L2.CX0) (ps := ["a", "b"]) (sp := Lm.sp_main) (by decide +kernel) rfl rfl ⟨rfl, by decide, by decide⟩ (fun w h Y => PySem.W.kIn_of Y) ?F ?S (fun _ _ _ _ z => z)
  case F =>
    intro w mg fa h Y KX G hmg
    refine' Lm.all_mk KX G hmg ?a1 ?l1 ?c1 ?k1 ?a2 ?l2 ?c2 ?k2
    (case a1 => k_is)
    (case l1 => k_is)
    (case c1 => k_is)
    (case k1 => k_is)
    (case a2 => k_is)
    (case l2 => k_is)
    (case c2 => k_is)
    (case k2 => k_is)
  case S =>
    intro K H xs a hO hwi hask hx
    cases hx with
    | cons h1 h2 =>
      cases h2 with
      | cons h2 h3 =>
        cases h3
        cases h1 with
        | lst hs ha =>
          cases h2 with
          | lst hs2 ha2 =>
            have e := L2.ints_dw a.1 _ ha
            have e2 := L2.ints_dw a.2.1 _ ha2
            subst e e2
            have q : ((Codec.inLen 256 256 a.1 && a.1.all (Codec.inInt 0 255)) && ((Codec.inLen 256 256 a.2.1 && a.2.1.all (Codec.inInt 0 255)) && true)) = true := hwi
            simp only [Bool.and_eq_true] at q
            exact ⟨_, _, a.1, a.2.1, rfl, hs, hs2, Lm.len_is q.1.1, Lm.ints_in q.1.2, Lm.len_is q.2.1.1, Lm.ints_in q.2.1.2, fun H' p hp => .lst (L2.SqL.of hp) (L2.dw_ints _)⟩
#print axioms PySem.Challenge.cw_lanemaps_s03_compose_holds
