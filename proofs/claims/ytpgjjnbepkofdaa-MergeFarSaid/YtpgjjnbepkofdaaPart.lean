/-
  The walk of merge.part.
-/
import Derived.Test.YtpgjjnbepkofdaaUpTo
namespace Go.Proofs.Ytpgjjnbepkofdaa
open Go.RowKit
set_option linter.unusedVariables false
set_option linter.unusedSimpArgs false

/-- A side in memory: its cell, and its slice of hunks that are left. -/
structure Side (W : World) (B U g : Nat) (l : List HV) (v : Value) : Prop where
  blk : Blk W g 121 #[v]
  row : OffRow W B 147 3 v l.length (cellsOf hvc l)
  low : ∀ q, offBlock v = some q → q < U
def LinesIn (W : World) (B : Nat) (L : List HV) : Prop := ∀ x ∈ L, OffRow W B 9 1 x.v x.h.ls.length (linesOf x)
theorem Side.below {W W' : World} {B U g : Nat} {l : List HV} {v : Value} (h : Side W B U g l v) (hb : Below W.heap.size W W') : Side W' B U g l v := ⟨h.blk.below hb h.blk.lt, h.row.below hb, h.low⟩
theorem Side.grown {W W' : World} {B U g : Nat} {l : List HV} {v : Value} {row : Option Nat} (h : Side W B U g l v) (hb : W.grownBy W' row) (hg : some g ≠ row) (hr : ∀ q, row = some q → U ≤ q) : Side W' B U g l v :=
  ⟨h.blk.grown hb hg, h.row.kept hb (off_none_or fun q e1 e2 => by have := h.low q e2; have := hr q e1; omega), h.low⟩
theorem Side.far {W : World} {B U g g' : Nat} {l : List HV} {v v2 : Value} (h : Side W B U g l v) (hk : Blk W g' 121 #[v2]) (hne : g ≠ g') (u : Value) : Side (W.setCell ⟨g', 0, none⟩ u) B U g l v :=
  ⟨h.blk.far hne u, h.row.far _ _ (off_blk_ne h.row hk (by decide)), h.low⟩
theorem Side.set {W : World} {B U g : Nat} {l l' : List HV} {v v' : Value} (h : Side W B U g l v) (hr : OffRow W B 147 3 v' l'.length (cellsOf hvc l')) (hl : ∀ q, offBlock v' = some q → offBlock v = some q) : Side (W.setCell ⟨g, 0, none⟩ v') B U g l' v' :=
  ⟨h.blk.set_ 0 v', hr.far _ _ (off_blk_ne hr h.blk (by decide)), fun q e => h.low q (hl q e)⟩
theorem LinesIn.below {W W' : World} {B : Nat} {L : List HV} (h : LinesIn W B L) (hb : Below W.heap.size W W') : LinesIn W' B L := fun x hx => (h x hx).below hb
theorem LinesIn.grown {W W' : World} {B M n : Nat} {L : List HV} {vo : Value} {xs : List Value} (h : LinesIn W B L) (ho : W.ownsRow M 147 3 vo n xs) (hb : W.grownBy W' vo.ownBlock) : LinesIn W' B L := fun x hx =>
  (h x hx).kept hb (off_none_or fun g eg => by
    rcases own_blk ho with e1 | ⟨g', cs, e1, e2⟩
    · rw [e1] at eg; cases eg
    · rw [e1] at eg; injection eg with eg; subst eg
      exact off_blk_ne (h x hx) e2 (by decide))
theorem LinesIn.set {W : World} {B g : Nat} {L : List HV} {v2 : Value} (h : LinesIn W B L) (hk : Blk W g 121 #[v2]) (u : Value) : LinesIn (W.setCell ⟨g, 0, none⟩ u) B L := fun x hx => (h x hx).far _ _ (off_blk_ne (h x hx) hk (by decide))
theorem upTo_bound (l : List (Hk ByteArray)) (hi M : Nat) (h : ∀ x ∈ l, x.hi ≤ M) (hm : hi ≤ M) : (upTo l hi).2 ≤ M := by
  induction l generalizing hi with
  | nil => exact hm
  | cons g t ih =>
    rw [upTo_cons]
    split
    · exact ih _ (fun x hx => h x (by simp [hx])) (by have := h g (by simp); omega)
    · exact hm
/-- What a slice in hand reads as. -/
theorem off_reads {W : World} {B : Nat} {e : TypeId} {A : Option Addr} {n c : Nat} {xs : List Value} (h : OffRow W B e 3 (.slice A n c) n xs) : Reads W W.heap.size 3 A n xs := by
  refine ⟨h.1, fun hp => ?_⟩
  obtain ⟨g, o, cap, e1, _, hl, _, _, _, hc, _⟩ := h.form hp
  injection e1 with e1 _ _
  exact ⟨_, e1, hl, fun q u hu => by rw [add_plain]; exact hc q u hu⟩
/-- The first hunk's cell. -/
theorem first_cell {W : World} {B U g : Nat} {l : List HV} {A : Option Addr} {c : Nat} (h : Side W B U g l (.slice A l.length c)) (hp : 0 < l.length) : ∃ b o, A = some ⟨b, o, none⟩ ∧ W.cell? ⟨b, o, none⟩ = some (.int .i64 ((fst (l.map HV.h) [] : Nat) : Int)) := by
  obtain ⟨b, o, cap, e1, _⟩ := h.row.form hp
  injection e1 with e1 _ _
  subst e1
  refine ⟨b, o, rfl, ?_⟩
  have := off_cell h.row 0 hp 0 (by decide) _ rfl
  simp only [Nat.zero_mul, Nat.add_zero] at this
  rw [this]
  cases l with
  | nil => simp at hp
  | cons x t => rfl
theorem fst_eq (a b : List (Hk ByteArray)) (h0 : 0 < a.length + b.length) : fst a b = if a.length = 0 then fst b [] else if b.length = 0 then fst a [] else min (fst a []) (fst b []) := by
  cases a <;> cases b <;> simp [fst] at *
theorem fst_le (l : List HV) (M : Nat) (h : ∀ x ∈ l, x.h.lo ≤ M ∧ x.h.hi ≤ M) : fst (l.map HV.h) [] ≤ M := by
  cases l with
  | nil => exact Nat.zero_le _
  | cons x t => exact (h x (by simp)).1
theorem Side.drewN {W : World} {B U g : Nat} {l : List HV} {v : Value} (h : Side W B U g l v) (q : Nat) : Side (W.drewN q) B U g l v := ⟨h.blk, h.row, h.low⟩
/-- All that the walk of 'part' holds. -/
structure PSt (W Wk : World) (B ga gb i j : Nat) (L xa xb sa sb : List HV) (va vb vx vy : Value) : Prop where
  ox : Wk.ownsRow W.heap.size 147 3 vx i (cellsOf hvc xa)
  oy : Wk.ownsRow W.heap.size 147 3 vy j (cellsOf hvc xb)
  xy : ∀ g, vx.ownBlock = some g → vy.ownBlock ≠ some g
  a : Side Wk B W.heap.size ga sa va
  b : Side Wk B W.heap.size gb sb vb
  l : LinesIn Wk B L
  be : Below B W Wk
  z : W.heap.size ≤ Wk.heap.size
  ne : ga ≠ gb
  ba : B ≤ ga
  bb : B ≤ gb
  bw : B ≤ W.heap.size
  kp : ∀ k, k < W.heap.size → k ≠ ga → k ≠ gb → Wk.heap[k]? = W.heap[k]?
section
variable {W Wk W' : World} {B ga gb i j : Nat} {L xa xb sa sb : List HV} {va vb vx vy : Value}
theorem PSt.swap (h : PSt W Wk B ga gb i j L xa xb sa sb va vb vx vy) : PSt W Wk B gb ga j i L xb xa sb sa vb va vy vx :=
  ⟨h.oy, h.ox, fun g e1 e2 => h.xy g e2 e1, h.b, h.a, h.l, h.be, h.z, h.ne.symm, h.bb, h.ba, h.bw, fun k h1 h2 h3 => h.kp k h1 h3 h2⟩
theorem own_none_or {v : Value} {g : Nat} (h : v.ownBlock ≠ some g) : v.ownBlock = none ∨ v.ownBlock ≠ some g := .inr h
theorem PSt.upTo {n q : Nat} {v' : Value} (h : PSt W Wk B ga gb i j L xa xb sa sb va vb vx vy) (hr : OffRow Wk B 147 3 v' (sa.length - n) (cellsOf hvc (sa.drop n))) (hl : ∀ g, offBlock v' = some g → offBlock va = some g) :
    PSt W ((Wk.setCell ⟨ga, 0, none⟩ v').drewN q) B ga gb i j L xa xb (sa.drop n) sb v' vb vx vy :=
  have hg := grown_set Wk ⟨ga, 0, none⟩ v'
  ⟨(h.ox.kept hg (own_none_or (own_blk_ne h.ox h.a.blk (by decide))) : (Wk.setCell ⟨ga, 0, none⟩ v').ownsRow _ _ _ _ _ _), (h.oy.kept hg (own_none_or (own_blk_ne h.oy h.a.blk (by decide))) : (Wk.setCell ⟨ga, 0, none⟩ v').ownsRow _ _ _ _ _ _), h.xy,
   (h.a.set (by rw [List.length_drop]; exact hr) hl).drewN q, (h.b.far h.a.blk h.ne.symm v').drewN q, fun x hx => (h.l.set h.a.blk v') x hx,
   ⟨h.be.os, h.be.tape, h.be.output, by simpa [World.setCell] using h.be.size, fun k hk => (Below.heap_setCell Wk ⟨ga, 0, none⟩ v' k (by have := h.ba; simp only; omega)).trans (h.be.block k hk)⟩,
   by simpa [World.setCell] using h.z, h.ne, h.ba, h.bb, h.bw, fun k h1 h2 h3 => (Below.heap_setCell Wk ⟨ga, 0, none⟩ v' k h2).trans (h.kp k h1 h2 h3)⟩
theorem PSt.app {i' : Nat} {xa' : List HV} {vx' : Value} (h : PSt W Wk B ga gb i j L xa xb sa sb va vb vx vy) (ho : W'.ownsRow W.heap.size 147 3 vx' i' (cellsOf hvc xa')) (hg : Wk.grownBy W' vx.ownBlock)
    (hat : vx'.ownBlock = vx.ownBlock ∨ vx'.ownBlock = some Wk.heap.size) : PSt W W' B ga gb i' j L xa' xb sa sb va vb vx' vy :=
  have h1 : ∀ q, vx.ownBlock = some q → W.heap.size ≤ q := fun q e => (h.ox.lt q e).1
  ⟨ho, h.oy.kept hg (by
    cases e : vy.ownBlock with
    | none => exact .inl rfl
    | some g => exact .inr fun e2 => h.xy g e2.symm e), fun g e1 e2 => by
      rcases hat with e3 | e3
      · exact h.xy g (e3 ▸ e1) e2
      · rw [e3] at e1; injection e1 with e1
        have := (h.oy.lt g e2).2
        omega,
   h.a.grown hg (fun e => own_blk_ne h.ox h.a.blk (by decide) e.symm) h1, h.b.grown hg (fun e => own_blk_ne h.ox h.b.blk (by decide) e.symm) h1, h.l.grown h.ox hg,
   ⟨hg.os.trans h.be.os, hg.tape.trans h.be.tape, hg.output.trans h.be.output, Nat.le_trans h.be.size hg.size, fun k hk => (hg.block k (Nat.lt_of_lt_of_le hk (Nat.le_trans h.bw h.z)) (fun e => by have := h1 k e.symm; have := h.bw; omega)).trans (h.be.block k hk)⟩,
   Nat.le_trans h.z hg.size, h.ne, h.ba, h.bb, h.bw, fun k k1 k2 k3 => (hg.block k (Nat.lt_of_lt_of_le k1 h.z) (fun e => by have := h1 k e.symm; omega)).trans (h.kp k k1 k2 k3)⟩
/-- A part in hand. -/
structure Hand (W Wk : World) (B : Nat) (v : Value) (n : Nat) (xs : List Value) : Prop where
  row : OffRow Wk B 147 3 v n xs
  low : ∀ q, offBlock v = some q → q < W.heap.size
theorem Hand.upTo {g q n : Nat} {v v2 v' : Value} {xs : List Value} (h : Hand W Wk B v n xs) (hk : Blk Wk g 121 #[v2]) : Hand W ((Wk.setCell ⟨g, 0, none⟩ v').drewN q) B v n xs :=
  ⟨(h.row.far ⟨g, 0, none⟩ v' (off_blk_ne h.row hk (by decide))).drewN q, h.low⟩
theorem Hand.app {n m : Nat} {v vo : Value} {xs ys : List Value} (h : Hand W Wk B v n xs) (ho : Wk.ownsRow W.heap.size 147 3 vo m ys) (hg : Wk.grownBy W' vo.ownBlock) : Hand W W' B v n xs :=
  ⟨h.row.kept hg (off_none_or fun g eg e => by have := (ho.lt g eg).1; have := h.low g e; omega), h.low⟩
end
theorem hvc_ones {l : List HV} (h : ∀ x ∈ l, x.v.oneCell' = true) : ∀ u ∈ cellsOf hvc l, u.oneCell' = true := by
  intro u hu
  unfold cellsOf at hu
  obtain ⟨x, hx0, hx⟩ := List.mem_flatMap.1 hu
  simp only [hvc, List.mem_cons, List.not_mem_nil, or_false] at hx
  rcases hx with rfl | rfl | rfl
  · rfl
  · rfl
  · exact h x hx0
theorem hvc_ones2 {l : List HV} {i n : Nat} (h : ∀ x ∈ l, x.v.oneCell' = true) : ∀ u ∈ cellsOf hvc ((l.drop i).take n), u.oneCell' = true := hvc_ones fun x hx => h x (List.mem_of_mem_drop (List.mem_of_mem_take hx))
theorem Side.up {W : World} {B U U' g : Nat} {l : List HV} {v : Value} (h : Side W B U g l v) (hu : U ≤ U') : Side W B U' g l v := ⟨h.blk, h.row, fun q e => Nat.lt_of_lt_of_le (h.low q e) hu⟩
theorem results_tmp4 {fn : Func} {t u v x : Tmp} (h : fn.results = #[.tmp t, .tmp u, .tmp v, .tmp x]) (tmps : Array Value) (P : Program) (w : World) :
    (results fn tmps).run P w = .ok (.tuple #[tmps.getD t undef, tmps.getD u undef, tmps.getD v undef, tmps.getD x undef]) w := by
  simp [results, h]
def lenV : Value → Nat
  | .slice _ n _ => n
  | _ => 0
def PartPost (B ga gb : Nat) (L la lb : List HV) (P : Nat × Nat × Nat) (lo : Nat) (W : World) (e : Ending) (w' : World) : Prop :=
  ∃ vx vy va vb, e = .returned (.tuple #[.int .i64 (lo : Int), .int .i64 (P.2.2 : Int), vx, vy]) ∧ w'.ownsRow W.heap.size 147 3 vx (la.take P.1).length (cellsOf hvc (la.take P.1)) ∧ w'.ownsRow W.heap.size 147 3 vy (lb.take P.2.1).length (cellsOf hvc (lb.take P.2.1)) ∧
    Side w' B w'.heap.size ga (la.drop P.1) va ∧ Side w' B w'.heap.size gb (lb.drop P.2.1) vb ∧ LinesIn w' B L ∧ Below B W w' ∧ (∀ k, k < W.heap.size → k ≠ ga → k ≠ gb → w'.heap[k]? = W.heap[k]?)
/-- A row of another kind is kept by all that keeps all but the two sides. -/
theorem own_kp {W W' : World} {ga gb B n size : Nat} {e : TypeId} {va vb v : Value} {xs : List Value} (h : W.ownsRow B e size v n xs) (ba : Blk W ga 121 #[va]) (bb : Blk W gb 121 #[vb]) (hne : e ≠ 121)
    (kp : ∀ k, k < W.heap.size → k ≠ ga → k ≠ gb → W'.heap[k]? = W.heap[k]?) : W'.ownsRow B e size v n xs := by
  refine ⟨h.1, ?_⟩
  rcases h.2 with hn | ⟨g, cap, cur, rfl, hb, hh, rest⟩
  · exact .inl hn
  · refine .inr ⟨g, cap, cur, rfl, hb, ?_, rest⟩
    rw [kp g (Array.getElem?_eq_some_iff.1 hh).1 (Blk.ne_ (t := e) hh ba hne) (Blk.ne_ (t := e) hh bb hne)]
    exact hh
set_option maxRecDepth 100000 in
set_option maxHeartbeats 8000000 in
theorem part_any (B ga gb : Nat) (va vb : Value) (L la lb : List HV) (W : World) (ha : Side W B W.heap.size ga la va) (hb : Side W B W.heap.size gb lb vb) (hL : LinesIn W B L) (hne : ga ≠ gb) (hBa : B ≤ ga) (hBb : B ≤ gb) (hla : la.length ≤ 400) (hlb : lb.length ≤ 400) (h0 : 0 < la.length + lb.length) (hoa : ∀ x ∈ la, x.v.oneCell' = true) (hob : ∀ x ∈ lb, x.v.oneCell' = true)
    (hxa : ∀ x ∈ la, x.h.lo ≤ 1000 ∧ x.h.hi ≤ 1000) (hxb : ∀ x ∈ lb, x.h.lo ≤ 1000 ∧ x.h.hi ≤ 1000) :
    Calls Try.prog 69 #[.pointer (some ⟨ga, 0, none⟩), .pointer (some ⟨gb, 0, none⟩)] W (PartPost B ga gb L la lb (partN (la.length + lb.length + 1) (la.map HV.h) (lb.map HV.h) (fst (la.map HV.h) (lb.map HV.h))) (fst (la.map HV.h) (lb.map HV.h)) W) := by
  obtain ⟨P, hP⟩ : ∃ P, partN (la.length + lb.length + 1) (la.map HV.h) (lb.map HV.h) (fst (la.map HV.h) (lb.map HV.h)) = P := ⟨_, rfl⟩
  obtain ⟨lo, hlo⟩ : ∃ lo, fst (la.map HV.h) (lb.map HV.h) = lo := ⟨_, rfl⟩
  rw [hP, hlo]
  rw [hlo] at hP
  obtain ⟨iS, hi_, hz0, hz1, hz2⟩ := info_parts hunk_info
  obtain ⟨Aa, ca, rfl, hca, hcam⟩ := off_slice ha.row
  obtain ⟨Ab, cb, rfl, hcb, hcbm⟩ := off_slice hb.row
  have b0 : W.cell? ⟨ga, 0, none⟩ = some (.slice Aa la.length ca) := ha.blk.cell 0
  have b1 : W.cell? ⟨gb, 0, none⟩ = some (.slice Ab lb.length cb) := hb.blk.cell 0
  have HA := Lib.hid ha
  have HB := Lib.hid hb
  have HL := Lib.hid hL
  have HP := Lib.hid hP
  have HLO := Lib.hid hlo
  have HXA := Lib.hid hxa
  have HXB := Lib.hid hxb
  have FA := Lib.hid (first_cell ha)
  have FB := Lib.hid (first_cell hb)
  have hlo' := hlo
  rw [fst_eq _ _ (by simpa using h0)] at hlo'
  simp only [List.length_map] at hlo'
  have la1 := fst_le la 1000 hxa
  have lb1 := fst_le lb 1000 hxb
  generalize fst (la.map HV.h) [] = la0 at *
  generalize fst (lb.map HV.h) [] = lb0 at *
  have hlo1 : lo ≤ 1000 := by rw [← hlo']; repeat (first | omega | split)
  obtain ⟨l1, hl1⟩ : ∃ l1, (if la.length = 0 then 1099511627776 else la0) = l1 := ⟨_, rfl⟩
  have hl1b : l1 ≤ 1099511627776 := by rw [← hl1]; split <;> omega
  have HL1 := Lib.hid hl1
  have HLE := Lib.hid hlo'
  clear ha hb hL hP hlo hxa hxb hl1 hlo'
  have i0 : ∀ w, (Instr.index 149 (.agg #[.pointer (some ⟨ga, 0, none⟩), .pointer (some ⟨gb, 0, none⟩)]) (.int .i64 0)).run Try.prog w = .ok (.pointer (some ⟨ga, 0, none⟩)) w := fun _ => by kernel_rfl
  have i1 : ∀ w, (Instr.index 149 (.agg #[.pointer (some ⟨ga, 0, none⟩), .pointer (some ⟨gb, 0, none⟩)]) (.int .i64 1)).run Try.prog w = .ok (.pointer (some ⟨gb, 0, none⟩)) w := fun _ => by kernel_rfl
  go_enter Try.func69, Try.ntmps69
  go_wp2_with fail
  go_loopw [4, 17] (fun vl vk wr => ∃ q : Nat, ((vk = .int .i64 (0 : Int) ∧ vl = .int .i64 (1099511627776 : Int)) ∨ (vk = .int .i64 (1 : Int) ∧ vl = .int .i64 (l1 : Int)) ∨ (vk = .int .i64 (2 : Int) ∧ vl = .int .i64 (lo : Int))) ∧ wr = W.drewN q) (fun _ vk _ => 2 - (intOf vk).toNat)
  case atStart => exact ⟨0, .inl ⟨rfl, rfl⟩, rfl⟩
  case round =>
    obtain ⟨q, h, rfl⟩ := hrel
    rcases h with ⟨rfl, rfl⟩ | ⟨rfl, rfl⟩ | ⟨rfl, rfl⟩
    · rcases Nat.eq_zero_or_pos la.length with z | z
      · have t1 : decide ((0 : Int) < (la.length : Int)) = false := decide_eq_false (by omega)
        have t2 : ¬ (0 : Int) < (la.length : Int) := by omega
        have e1 := HL1.out
        rw [if_pos z] at e1
        go_wp2_with fail
        exact ⟨⟨q, .inr (.inl ⟨rfl, by rw [← e1]; rfl⟩), rfl⟩, by simp [intOf]⟩
      · obtain ⟨b, o, rfl, c0⟩ := FA.out z
        have t2 : (0 : Int) < (la.length : Int) := by omega
        have e1 := HL1.out
        rw [if_neg (by omega)] at e1
        have e2 : (la0 : Int) ≤ 1099511627776 := by omega
        go_wp2_with fail
        exact ⟨⟨q, .inr (.inl ⟨rfl, by rw [← e1]; try (congr 1; split <;> omega)⟩), rfl⟩, by simp [intOf]⟩
    · rcases Nat.eq_zero_or_pos lb.length with z | z
      · have t1 : decide ((0 : Int) < (lb.length : Int)) = false := decide_eq_false (by omega)
        have t2 : ¬ (0 : Int) < (lb.length : Int) := by omega
        have e1 : l1 = lo := by
          have e1 := HL1.out
          have e2 := HLE.out
          rw [if_neg (by omega)] at e1
          rw [if_neg (by omega), if_pos z] at e2
          omega
        go_wp2_with fail
        exact ⟨⟨q, .inr (.inr ⟨rfl, by rw [← e1]⟩), rfl⟩, by simp [intOf]⟩
      · obtain ⟨b, o, rfl, c0⟩ := FB.out z
        have t2 : (0 : Int) < (lb.length : Int) := by omega
        have e1 : min l1 lb0 = lo := by
          have e1 := HL1.out
          have e2 := HLE.out
          rw [← e1, ← e2]
          split
          · omega
          · rw [if_neg (by omega)]
        go_wp2_with fail
        exact ⟨⟨q, .inr (.inr ⟨rfl, by rw [← e1]; congr 1; split <;> omega⟩), rfl⟩, by simp [intOf]⟩
    · clear HL1 HLE FA FB i0 i1 b0 b1
      have SA : Side (W.drewN q) B W.heap.size ga la (.slice Aa la.length ca) := HA.out.drewN q
      have SB : Side (W.drewN q) B W.heap.size gb lb (.slice Ab lb.length cb) := HB.out.drewN q
      have SL : LinesIn (W.drewN q) B L := HL.out
      have BE : Below B W (W.drewN q) := ⟨rfl, rfl, rfl, Nat.le_refl _, fun _ _ => rfl⟩
      have hBW : B ≤ W.heap.size := by have := HA.out.blk.lt; omega
      have zsz : W.heap.size ≤ (W.drewN q).heap.size := Nat.le_refl _
      have KP : ∀ k, k < W.heap.size → k ≠ ga → k ≠ gb → (W.drewN q).heap[k]? = W.heap[k]? := fun _ _ _ _ => rfl
      have HKP := Lib.hid KP
      clear KP
      clear HA HB HL
      generalize W.drewN q = W2 at *
      go_wp2_with fail
      go_loopw [4, 5, 6, 7] (fun vl vh vx vy Wk => ∃ (i j hk f : Nat) (va' vb' : Value), i ≤ la.length ∧ j ≤ lb.length ∧ hk ≤ 1000 ∧ vl = .int .i64 (lo : Int) ∧ vh = .int .i64 (hk : Int) ∧ (la.length - i) + (lb.length - j) < f ∧ (i + (partN f ((la.map HV.h).drop i) ((lb.map HV.h).drop j) hk).1, j + (partN f ((la.map HV.h).drop i) ((lb.map HV.h).drop j) hk).2.1, (partN f ((la.map HV.h).drop i) ((lb.map HV.h).drop j) hk).2.2) = P ∧
        PSt W Wk B ga gb i j L (la.take i) (lb.take j) (la.drop i) (lb.drop j) va' vb' vx vy) (fun _ _ vx vy _ => la.length + lb.length - (lenV vx + lenV vy))
      case atStart => exact ⟨0, 0, lo, la.length + lb.length + 1, _, _, Nat.zero_le _, Nat.zero_le _, hlo1, rfl, rfl, by omega, by simpa using HP.out, ⟨World.ownsRow_nil _ _ _ _, World.ownsRow_nil _ _ _ _, fun g e => by simp [Value.ownBlock] at e, SA, SB, SL, BE, zsz, hne, hBa, hBb, hBW, HKP.out⟩⟩
      case round =>
        clear HP HLO SA SB SL BE zsz HKP
        obtain ⟨i, j, hk, f, va', vb', hi, hj, hk1, rfl, rfl, hf, hp, ps⟩ := hrel
        obtain ⟨f, rfl⟩ : ∃ g, f = g + 1 := ⟨f - 1, by omega⟩
        obtain ⟨Ax, cx, rfl, hx1, hx2⟩ := own_slice ps.ox
        obtain ⟨Ay, cy, rfl, hy1, hy2⟩ := own_slice ps.oy
        unfold maxLen at hx2 hy2
        have bda : ∀ x ∈ la.drop i, x.h.lo ≤ 1000 ∧ x.h.hi ≤ 1000 := fun x hx => HXA.out x (List.mem_of_mem_drop hx)
        have bdb : ∀ x ∈ lb.drop j, x.h.lo ≤ 1000 ∧ x.h.hi ≤ 1000 := fun x hx => HXB.out x (List.mem_of_mem_drop hx)
        have hn1 := upTo_le ((la.map HV.h).drop i) hk
        have hn2 := upTo_bound ((la.map HV.h).drop i) hk 1000 (fun x hx => by
          rw [← List.map_drop] at hx
          obtain ⟨y, hy, rfl⟩ := List.mem_map.1 hx
          exact (bda y hy).2) hk1
        rw [partN] at hp
        rw [List.drop_drop, List.drop_drop] at hp
        have UA := Lib.hid (fun W' (h1 : Side W' B W.heap.size ga (la.drop i) va') => upTo_any B ga va' (la.drop i) hk W' h1.blk h1.row (by simp; omega) hk1 bda)
        have UB := Lib.hid (fun W' H (hH : H ≤ 1000) (h1 : Side W' B W.heap.size gb (lb.drop j) vb') => upTo_any B gb vb' (lb.drop j) H W' h1.blk h1.row (by simp; omega) hH bdb)
        rw [List.map_drop] at UA
        rw [List.map_drop] at UB
        generalize hua : upTo ((la.map HV.h).drop i) hk = ua at *
        obtain ⟨n, H⟩ := ua
        simp only at hp hn1 hn2
        have hm1 := upTo_le ((lb.map HV.h).drop j) H
        have hm2 := upTo_bound ((lb.map HV.h).drop j) H 1000 (fun x hx => by
          rw [← List.map_drop] at hx
          obtain ⟨y, hy, rfl⟩ := List.mem_map.1 hx
          exact (bdb y hy).2) hn2
        have UB2 := Lib.hid (fun W' h1 => UB.out W' H hn2 h1)
        clear UB
        generalize hub : upTo ((lb.map HV.h).drop j) H = ub at *
        obtain ⟨m, H2⟩ := ub
        simp only [List.length_drop, List.length_map] at hp hm1 hm2 hn1
        have HP := Lib.hid hp
        have HPS := Lib.hid ps
        clear hp ps bda bdb hua hub
        go_wp2_with fail
        refine (UA.out _ HPS.out.a).mono ?_
        rintro e w1 ⟨vp, v1, q1, rfl, hp1, hv1, hs1, hs2, rfl⟩
        have HPS1 := Lib.hid (HPS.out.upTo (q := q1) hv1 hs2)
        have HH1 := Lib.hid (Hand.upTo (g := ga) (q := q1) (v' := v1) (Hand.mk (W := W) hp1 (fun q e => HPS.out.a.low q (hs1 q e))) HPS.out.a.blk)
        obtain ⟨Ap, cp, rfl, hp2, hp3⟩ := off_slice hp1
        unfold maxLen at hp3
        generalize (wr.setCell ⟨ga, 0, none⟩ v1).drewN q1 = w1 at *
        clear hp1 hv1 hs1 hs2 HPS UA
        go_wp2_with fail
        refine (UB2.out _ HPS1.out.b).mono ?_
        rintro e w2 ⟨vq, v2, q2, rfl, hp1, hv1, hs1, hs2, rfl⟩
        have HPS2 := Lib.hid ((HPS1.out.swap.upTo (q := q2) hv1 hs2).swap)
        have HH2 := Lib.hid (Hand.upTo (g := gb) (q := q2) (v' := v2) (Hand.mk (W := W) hp1 (fun q e => HPS1.out.b.low q (hs1 q e))) HPS1.out.b.blk)
        have HH1b := Lib.hid (Hand.upTo (g := gb) (q := q2) (v' := v2) HH1.out HPS1.out.b.blk)
        obtain ⟨Aq, cq, rfl, hq2, hq3⟩ := off_slice hp1
        unfold maxLen at hq3
        generalize (w1.setCell ⟨gb, 0, none⟩ v2).drewN q2 = w2 at *
        clear hp1 hv1 hs1 hs2 HPS1 UB2 HH1
        go_wp2_with (at_builtin; refine wpList_append_any _ rfl (.tmp 49) (.tmp 50) _ rfl W.heap.size 147 iS _ 3 40 Try.underlying118 hi_ hz0 hz1 hz2 rfl (by decide) (.slice Ax i cx) i (cellsOf hvc (la.take i)) rfl HPS2.out.ox w2.heap.size _ n _ (cellsOf hvc ((la.drop i).take n)) rfl (off_reads HH1b.out.row) (hvc_ones2 hoa) (by unfold maxLen; omega) (by omega) HPS2.out.z ?_)
        intro x3 w3 h31 h32 h33
        have e3 : cellsOf hvc (la.take i) ++ cellsOf hvc ((la.drop i).take n) = cellsOf hvc (la.take (i + n)) := by rw [← cellsOf_append, ← List.take_add]
        rw [e3] at h31
        have HPS3 := Lib.hid (HPS2.out.app h31 h32 h33)
        have HH3 := Lib.hid (HH2.out.app HPS2.out.ox h32)
        obtain ⟨Ax3, cx3, rfl, hx31, hx32⟩ := own_slice h31
        unfold maxLen at hx32
        clear h31 h32 h33 e3 HPS2 HH2 HH1b
        go_wp2_with (at_builtin; refine wpList_append_any _ rfl (.tmp 52) (.tmp 53) _ rfl W.heap.size 147 iS _ 3 40 Try.underlying118 hi_ hz0 hz1 hz2 rfl (by decide) (.slice Ay j cy) j (cellsOf hvc (lb.take j)) rfl HPS3.out.oy w3.heap.size _ m _ (cellsOf hvc ((lb.drop j).take m)) rfl (off_reads HH3.out.row) (hvc_ones2 hob) (by unfold maxLen; omega) (by omega) HPS3.out.z ?_)
        intro y3 w4 h31 h32 h33
        have e3 : cellsOf hvc (lb.take j) ++ cellsOf hvc ((lb.drop j).take m) = cellsOf hvc (lb.take (j + m)) := by rw [← cellsOf_append, ← List.take_add]
        rw [e3] at h31
        have ps4 := (HPS3.out.swap.app h31 h32 h33).swap
        rw [List.drop_drop, List.drop_drop] at ps4
        have HPS4 := Lib.hid ps4
        obtain ⟨Ay3, cy3, rfl, hy31, hy32⟩ := own_slice h31
        unfold maxLen at hy32
        clear h31 h32 h33 e3 HPS3 HH3 ps4
        by_cases hz : n + m = 0
        · obtain rfl : n = 0 := by omega
          obtain rfl : m = 0 := by omega
          have hp := HP.out
          rw [if_pos rfl] at hp
          simp only [Nat.add_zero] at hp
          subst hp
          clear HP
          have HPS5 : Hid (PSt W w4 B ga gb i j L (la.take i) (lb.take j) (la.drop i) (lb.drop j) v1 v2 (.slice Ax3 (i + 0) cx3) (.slice Ay3 (j + 0) cy3)) := HPS4
          clear HPS4
          go_wp2_with fail
          (try simp only [Exit.inBlock, Exit.then]); refine bodyPost_ret (results_tmp4 rfl _ _ _) rfl ?_
          have l1 : (la.take i).length = i := by rw [List.length_take]; omega
          have l2 : (lb.take j).length = j := by rw [List.length_take]; omega
          have hzz := HPS5.out.z
          exact ⟨_, _, v1, v2, rfl, (by rw [l1]; exact HPS5.out.ox), (by rw [l2]; exact HPS5.out.oy), HPS5.out.a.up hzz, HPS5.out.b.up hzz, HPS5.out.l, HPS5.out.be, HPS5.out.kp⟩
        · have t1 : ¬ ((n : Int) + (m : Int) = 0) := by omega
          have t2 : ((n : Int) + (m : Int) == 0) = false := by simpa using t1
          have hp := HP.out
          rw [if_neg hz] at hp
          have HP2 := Lib.hid hp
          clear hp HP
          go_wp2_with fail
          exact ⟨⟨i + n, j + m, H2, f, v1, v2, by omega, by omega, hm2, rfl, rfl, by omega, by rw [← HP2.out]; simp only [Nat.add_assoc], HPS4.out⟩, by simp only [lenV]; omega⟩
end Go.Proofs.Ytpgjjnbepkofdaa
