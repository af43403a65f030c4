/- Plain: how numbers are spelled in a base, and read again. -/
import Derived.Test.YtepgjaknkjkpaaaDoorAmNumsB
import Derived.Test.YtepgjaknkjkpaaaDoorAmScal2
import Derived.Test.YtepgjaknkjkpaaaDoorAmNext
import Derived.Test.YtepgjaknkjkpaaaDoorAmNum6
set_option linter.unusedVariables false
set_option linter.unusedSimpArgs false
namespace Go.Am

def hexB (d : Nat) : UInt8 := if d < 10 then UInt8.ofNat (48 + d) else UInt8.ofNat (87 + d)
/-- The digits of a number in a base. -/
def spellD (b : Nat) (n : Nat) : List UInt8 :=
  if h : n < b ∨ b < 2 then [hexB n] else spellD b (n / b) ++ [hexB (n % b)]
termination_by n
decreasing_by
  have : 2 ≤ b := by omega
  exact Nat.div_lt_self (by omega) (by omega)

theorem spellD_small {b n : Nat} (h : n < b) : spellD b n = [hexB n] := by rw [spellD, dif_pos (.inl h)]
theorem spellD_big {b n : Nat} (hb : 2 ≤ b) (h : ¬ n < b) : spellD b n = spellD b (n / b) ++ [hexB (n % b)] := by rw [spellD, dif_neg (by omega)]

theorem spellD_ten : ∀ n : Nat, spellD 10 n = Lib.decDigits n := by
  intro n
  induction n using Nat.strongRecOn with
  | _ n ih =>
    by_cases h : n < 10
    · rw [spellD_small h, decDigits_small h, hexB, if_pos h]
    · rw [spellD_big (by omega) h, decDigits_big h, ih (n / 10) (by omega), hexB, if_pos (by omega)]

theorem hexB_facts : ∀ d : Nat, d < 16 → dv (hexB d) = (d : Int) ∧ hexB d ≠ 95 ∧ hexB d ≠ 120 ∧ (d < 8 → hexB d ≠ 98) ∧ (d ≠ 0 → hexB d ≠ 48) := by decide +kernel

theorem spellD_len {b : Nat} (hb : 2 ≤ b) : ∀ (k n : Nat), n < 2 ^ k → (spellD b n).length ≤ k + 1
  | 0, n, h => by rw [spellD_small (by simp at h; omega)]; simp
  | k + 1, n, h => by
    by_cases h1 : n < b
    · rw [spellD_small h1]; simp
    · rw [spellD_big hb h1, List.length_append]
      have h2 : n / b < 2 ^ k := by
        rw [Nat.pow_succ] at h
        have : n / b ≤ n / 2 := Nat.div_le_div_left hb (by omega)
        omega
      have := spellD_len hb k (n / b) h2
      simp; omega

theorem scan_spell {b : Nat} (hb : b = 2 ∨ b = 8 ∨ b = 10 ∨ b = 16) : ∀ (n : Nat) (t : List UInt8) (l : Bool), n ≤ 9007199254740992 → scan b (spellD b n ++ t) 0 l = scan b t n true := by
  intro n
  induction n using Nat.strongRecOn with
  | _ n ih =>
    intro t l hn
    have hb2 : 2 ≤ b := by omega
    have hb16 : b ≤ 16 := by omega
    by_cases h : n < b
    · obtain ⟨f1, f2, _⟩ := hexB_facts n (by omega)
      rw [spellD_small h, List.singleton_append, scan, if_neg f2, f1, if_pos (by omega)]
      congr 1
      omega
    · have hlt : n / b < n := Nat.div_lt_self (by omega) (by omega)
      have hm : n % b < b := Nat.mod_lt _ (by omega)
      obtain ⟨f1, f2, _⟩ := hexB_facts (n % b) (by omega)
      rw [spellD_big hb2 h, List.append_assoc, ih (n / b) hlt _ l (by omega), List.singleton_append, scan, if_neg f2, f1, if_pos (by omega)]
      congr 1
      have e : b * (n / b) + n % b = n := Nat.div_add_mod n b
      have e2 : ((n / b : Nat) : Int) * (b : Int) + ((n % b : Nat) : Int) = n := by
        rw [← Int.natCast_mul, ← Int.natCast_add, Nat.mul_comm, e]
      rw [e2]; omega

/-- What a text begins with. -/
theorem spellD_head {b : Nat} (hb : 2 ≤ b) : ∀ n : Nat, ∃ d r, spellD b n = hexB d :: r ∧ d < b ∧ (n ≠ 0 → d ≠ 0) := by
  intro n
  induction n using Nat.strongRecOn with
  | _ n ih =>
    by_cases h : n < b
    · exact ⟨n, [], spellD_small h, h, fun h => h⟩
    · obtain ⟨d, r, h1, h2, h3⟩ := ih (n / b) (Nat.div_lt_self (by omega) (by omega))
      refine ⟨d, r ++ [hexB (n % b)], by rw [spellD_big hb h, h1]; rfl, h2, fun _ => h3 ?_⟩
      have := Nat.div_pos (show b ≤ n by omega) (by omega)
      omega

def prefB (b : Nat) (n : Nat) : List UInt8 := if b = 2 then [48, 98] else if b = 16 then [48, 120] else if b = 8 ∧ 0 < n then [48] else []
theorem scan_nil {b : Int} {n : Nat} (h : n ≤ 9007199254740992) : scan b [] n true = some (n : Int) := by rw [scan, if_pos ⟨rfl, by omega⟩]

theorem radix_spell {b n : Nat} (hb : b = 2 ∨ b = 8 ∨ b = 10 ∨ b = 16) (hn : n ≤ 9007199254740992) : radixR (prefB b n ++ spellD b n) = some (n : Int) := by
  have sc := fun l => scan_spell hb n [] l hn
  simp only [List.append_nil] at sc
  have fin := scan_nil (b := (b : Int)) hn
  rcases hb with rfl | rfl | rfl | rfl
  · show scan 2 (spellD 2 n) 0 false = _
    rw [show ((2 : Nat) : Int) = 2 from rfl] at sc fin
    rw [sc, fin]
  · by_cases h0 : n = 0
    · subst h0
      rw [spellD_small (by omega)]; decide
    · obtain ⟨d, r, h1, h2, h3⟩ := spellD_head (b := 8) (by omega) n
      obtain ⟨_, f2, f3, f4, f5⟩ := hexB_facts d (by omega)
      have e : prefB 8 n = [48] := by unfold prefB; rw [if_neg (by omega), if_neg (by omega), if_pos ⟨rfl, by omega⟩]
      rw [show ((8 : Nat) : Int) = 8 from rfl] at sc fin
      rw [e, h1] 
      rw [h1] at sc
      show radixR (48 :: hexB d :: r) = _
      have : radixR (48 :: hexB d :: r) = scan 8 (hexB d :: r) 0 true := by
        unfold radixR
        split
        · rename_i e2; simp at e2; exact absurd e2.1 f3
        · rename_i e2; simp at e2; exact absurd e2.1 (f4 h2)
        · rename_i e2; simp at e2; rw [e2]
        · rename_i q; exact (q _ rfl).elim
      rw [this, sc, fin]
  · by_cases h0 : n = 0
    · subst h0
      rw [spellD_small (by omega)]; decide
    · obtain ⟨d, r, h1, h2, h3⟩ := spellD_head (b := 10) (by omega) n
      obtain ⟨_, f2, f3, f4, f5⟩ := hexB_facts d (by omega)
      have e : prefB 10 n = [] := by unfold prefB; rw [if_neg (by omega), if_neg (by omega), if_neg (by omega)]
      rw [show ((10 : Nat) : Int) = 10 from rfl] at sc fin
      rw [e, h1]
      rw [h1] at sc
      show radixR (hexB d :: r) = _
      have : radixR (hexB d :: r) = scan 10 (hexB d :: r) 0 false := by
        unfold radixR
        split
        · rename_i e2; simp at e2; exact absurd e2.1 (f5 (h3 h0))
        · rename_i e2; simp at e2; exact absurd e2.1 (f5 (h3 h0))
        · rename_i e2; simp at e2; exact absurd e2.1 (f5 (h3 h0))
        · rfl
      rw [this, sc, fin]
  · show scan 16 (spellD 16 n) 0 false = _
    rw [show ((16 : Nat) : Int) = 16 from rfl] at sc fin
    rw [sc, fin]
end Go.Am

/- Contracts: how numbers are spelled in a base. -/
set_option linter.unusedVariables false
set_option linter.unusedSimpArgs false
namespace Go.Am
variable {T : Tab}

theorem wrapu64 {n : Int} (h0 : 0 ≤ n) (h1 : n < 18446744073709551616) : IntKind.u64.wrap n = n := by
  simp [IntKind.wrap, IntKind.bits, IntKind.signed]; omega
theorem ofU {a : Nat} (h : a < 2 ^ 64) : (BitVec.ofInt 64 (a : Int)).toNat = a := by
  rw [BitVec.toNat_ofInt]
  have : ((a : Int) % ((2 ^ 64 : Nat) : Int)) = a := Int.emod_eq_of_lt (by omega) (by omega)
  rw [this]; simp
theorem psem_and_u64 {x k : Nat} (hk : k < 64) (hx : x < 2 ^ 64) : psem (.bin .and) [.int .u64 (x : Int), .int .u64 ((2 ^ k - 1 : Nat) : Int)] = some (.int .u64 ((x % 2 ^ k : Nat) : Int)) := by
  have hp : 2 ^ k ≤ 2 ^ 63 := Nat.pow_le_pow_right (by omega) (by omega)
  have e : (BitVec.ofInt 64 (x : Int) &&& BitVec.ofInt 64 ((2 ^ k - 1 : Nat) : Int)).toNat = x % 2 ^ k := by
    rw [BitVec.toNat_and, ofU hx, ofU (by omega), Nat.and_two_pow_sub_one_eq_mod]
  have hm : x % 2 ^ k < 2 ^ 64 := Nat.lt_of_le_of_lt (Nat.mod_le _ _) hx
  show some (AV.int .u64 (IntKind.u64.wrap ((BitVec.ofInt 64 (x : Int) &&& BitVec.ofInt 64 ((2 ^ k - 1 : Nat) : Int)).toNat : Int))) = _
  rw [e, wrapu64 (by omega) (by omega)]

def DIGS : List UInt8 := [48,49,50,51,52,53,54,55,56,57,97,98,99,100,101,102,103,104,105,106,107,108,109,110,111,112,113,114,115,116,117,118,119,120,121,122]
theorem digs_at : ∀ d : Nat, d < 16 → nth DIGS (d : Int) = hexB d := by decide +kernel

theorem c303 (D : D303 T) {H : AHeap} {b s : Nat} (hb : (b = 2 ∧ s = 1) ∨ (b = 8 ∧ s = 3) ∨ (b = 16 ∧ s = 4)) : Calls T 303 [.int .i64 (b : Int)] H fun r H' => H' = H ∧ r = .bool true := by
  refine Calls.fn D.pr D.fn ?_
  rcases hb with ⟨rfl, rfl⟩ | ⟨rfl, rfl⟩ | ⟨rfl, rfl⟩ <;> simp [ir303, wrap64] <;> decide

theorem c299 (D : D299 T) {H : AHeap} (hw : WF H) {b s n : Nat} (hb : (b = 2 ∧ s = 1) ∨ (b = 8 ∧ s = 3) ∨ (b = 16 ∧ s = 4)) (hn : n ≤ 9007199254740992) :
    Calls T 299 [.slc none 0 0 none, .int .u64 (n : Int), .int .i64 (b : Int), .bool false, .bool false] H fun r H' => Fr H H' ∧ r = .tup [.slc none 0 0 none, .str (spellD b n)] := by
  refine Calls.fn D.pr D.fn ?_
  have hb2 : 2 ≤ b := by omega
  have hbs : b = 2 ^ s := by rcases hb with ⟨rfl, rfl⟩ | ⟨rfl, rfl⟩ | ⟨rfl, rfl⟩ <;> rfl
  have hs : s < 64 := by omega
  have hctz : Lib.ctz 64 b = s := by rcases hb with ⟨rfl, rfl⟩ | ⟨rfl, rfl⟩ | ⟨rfl, rfl⟩ <;> decide
  have hsl := spellD_len hb2 54 n (by omega)
  obtain ⟨Z, hZ⟩ : ∃ Z : List AV, List.replicate 65 (AV.int .u8 0) = Z := ⟨_, rfl⟩
  have hZl : Z.length = 65 := by rw [← hZ]; simp
  have f0 : Fr H (H.new Z) := hw.fr_new
  have bx0 : Box (H.new Z) H.next H.next Z := Box.new
  have hZ' : ([.int .u8 0, .int .u8 0, .int .u8 0, .int .u8 0, .int .u8 0, .int .u8 0, .int .u8 0, .int .u8 0, .int .u8 0, .int .u8 0, .int .u8 0, .int .u8 0, .int .u8 0, .int .u8 0, .int .u8 0, .int .u8 0, .int .u8 0, .int .u8 0, .int .u8 0, .int .u8 0, .int .u8 0, .int .u8 0, .int .u8 0, .int .u8 0, .int .u8 0, .int .u8 0, .int .u8 0, .int .u8 0, .int .u8 0, .int .u8 0, .int .u8 0, .int .u8 0, .int .u8 0, .int .u8 0, .int .u8 0, .int .u8 0, .int .u8 0, .int .u8 0, .int .u8 0, .int .u8 0, .int .u8 0, .int .u8 0, .int .u8 0, .int .u8 0, .int .u8 0, .int .u8 0, .int .u8 0, .int .u8 0, .int .u8 0, .int .u8 0, .int .u8 0, .int .u8 0, .int .u8 0, .int .u8 0, .int .u8 0, .int .u8 0, .int .u8 0, .int .u8 0, .int .u8 0, .int .u8 0, .int .u8 0, .int .u8 0, .int .u8 0, .int .u8 0, .int .u8 0] : List AV) = Z := hZ
  have hbox : wsem0 .box [.agg Z] H = some (.ptr (some (H.next, 0)), H.new Z) := by
    rw [wsem0_box, if_pos]; · rfl
    · rw [← hZ]; rfl
  simp only [ir299, hZ']
  simp (disch := omega) [show ¬ ((b : Int) < 2) by omega, show ¬ ((b : Int) = 10) by omega, show ¬ ((36 : Int) < b) by omega, hbox]
  refine WC.of (c303 D.d303 (b := b) (s := s) hb) ?_
  rintro r K ⟨rfl, rfl⟩
  simp (disch := omega) [wrapu64]
  refine WC.of (Calls.prim D.p304 (Q := fun r H' => H' = H.new Z ∧ r = .int .i64 (s : Int)) (by simp [tzPrim, hctz]; omega) ⟨rfl, rfl⟩) ?_
  rintro r K ⟨rfl, rfl⟩
  simp (disch := omega) [wrapu64]
  refine W_loop (fun (u : Nat) e K => Fr H K ∧ e 0 = .slc none 0 0 none ∧ e 1 = .int .u64 (u : Int) ∧ e 3 = .bool false ∧ e 4 = .bool false ∧ e 10 = .slc none 0 0 none ∧ e 12 = .ptr (some (H.next, 0)) ∧ e 14 = .int .u64 (s : Int) ∧ e 15 = .int .u64 (b : Int) ∧ e 16 = .int .u64 ((b : Int) - 1) ∧ u ≤ n ∧
    ∃ (i : Nat) (t : List UInt8) (cs : List AV), e 13 = .int .i64 (i : Int) ∧ Box K H.next H.next cs ∧ cs.length = 65 ∧ cs.drop i = t.map encU ∧ i + t.length = 65 ∧ spellD b u ++ t = spellD b n) id n ?_ ?_
  · exact ⟨f0, by simp, by simp, by simp, by simp, by simp, by simp, by simp, by simp, by simp, Nat.le_refl _, 65, [], Z, by simp, bx0, hZl, by simp [← hZl], by simp, by simp⟩
  · rintro u e K ⟨fr, g0, g1, g3, g4, g10, g12, g14, g15, g16, hun, i, t, cs, g13, bx, hcl, hcd, hit, hsp⟩
    have hlen : (spellD b u).length + t.length ≤ 55 := by
      have := congrArg List.length hsp
      rw [List.length_append] at this; omega
    have hpos : 1 ≤ (spellD b u).length := by
      obtain ⟨d, r, h1, _⟩ := spellD_head hb2 u
      rw [h1]; simp
    obtain ⟨p, rfl⟩ : ∃ p, i = p + 1 := ⟨i - 1, by omega⟩
    have step : ∀ d : Nat, d < 16 → ∃ K', wsem0 (.st 1) [.ptr (some (H.next, p)), .int .u8 ((hexB d).toNat : Int)] K = some (.undef, K') ∧ Fr H K' ∧ ∃ cs', Box K' H.next H.next cs' ∧ cs'.length = 65 ∧ cs'.drop p = (hexB d :: t).map encU := by
      intro d hd
      obtain ⟨K', q1, q2, q3, q4, q5⟩ := bx.st fr.wf (off := p) (vs := [.int .u8 ((hexB d).toNat : Int)]) (by simp; omega) (by simp [AV.cell])
      refine ⟨K', ?_, fr.step q2 q4 (fun g hg => by omega), _, q3, ?_, ?_⟩
      · rw [wsem0_st]; simp [AV.cells, q1]
      · rw [splice_one (by omega), List.length_set]; exact hcl
      · rw [splice_one (by omega), List.drop_set, if_neg (by omega), Nat.sub_self]
        have e9 : cs.drop p = cs[p]'(by omega) :: cs.drop (p + 1) := List.drop_eq_getElem_cons (by omega)
        rw [e9, hcd]
        rfl
    by_cases hub : b ≤ u
    · have hd16 : u % b < 16 := Nat.lt_of_lt_of_le (Nat.mod_lt _ (by omega)) (by omega)
      obtain ⟨K', q1, q2, cs', q3, q4, q5⟩ := step (u % b) hd16
      have hsb := spellD_big hb2 (show ¬ u < b by omega)
      have hq : u / b < u := Nat.div_lt_self (by omega) (by omega)
      have hand : psem (.bin .and) [.int .u64 (u : Int), .int .u64 ((b : Int) - 1)] = some (.int .u64 ((u % b : Nat) : Int)) := by
        have := psem_and_u64 (x := u) (k := s) hs (by omega)
        rw [← hbs, show ((b - 1 : Nat) : Int) = (b : Int) - 1 by omega] at this
        exact this
      have hshr : psem (.bin .shr) [.int .u64 (u : Int), .int .u64 (s : Int)] = some (.int .u64 ((u / b : Nat) : Int)) := by
        rw [psem_shr, if_neg (by omega)]
        congr 2
        rw [show (s : Int).toNat = s by simp, show Nat.min s IntKind.u64.bits = s from Nat.min_eq_left (by show s ≤ 64; omega)]
        rw [Int.natCast_ediv, hbs, Int.natCast_pow]
        exact Int.fdiv_eq_ediv_of_nonneg _ (by exact_mod_cast Nat.zero_le (2 ^ s))
      have hdx := digs_at (u % b) hd16
      unfold DIGS at hdx
      generalize u % b = d at *
      generalize u / b = q at *
      simp (disch := omega) [-psem_shr, -psem_and, g0, g1, g3, g4, g10, g12, g13, g14, g15, g16, hub, wrap64, hand, hshr, hdx, q1]
      exact ⟨by omega, by omega, q, hq, q2, rfl, by omega, p, rfl, hexB d :: t, cs', q3, q4, q5, by simp; omega, by rw [← hsp, hsb, List.append_assoc]; rfl⟩
    · have hub' : u < b := by omega
      have hd16 : u < 16 := by omega
      obtain ⟨K', q1, q2, cs', q3, q4, q5⟩ := step u hd16
      have hdx := digs_at u hd16
      unfold DIGS at hdx
      have hslp : rsem (.slp 65 1 true false) [.ptr (some (H.next, 0)), .int .i64 (p : Int)] K' = some (.slc (some (H.next, p)) 1 (65 - p) (some (65 - p))) := by
        simp [rsem, bound, natOf, q3.row, q3.fam, q4]
        omega
      have hb2s : rsem .b2s [.slc (some (H.next, p)) 1 (65 - p) (some (65 - p))] K' = some (.str (hexB u :: t)) := by
        have e1 : (cs'.drop p).take (65 - p) = (hexB u :: t).map encU := by
          rw [List.take_of_length_le (by rw [List.length_drop]; omega), q5]
        have e2 : K'.ld H.next p (65 - p) = some ((hexB u :: t).map encU) := by
          simp only [AHeap.ld, q3.row]
          rw [if_pos (by omega), e1]
        have e3 : K'.cellsOf 1 (.slc (some (H.next, p)) 1 (65 - p) (some (65 - p))) = some ((hexB u :: t).map encU) := by
          simp only [AHeap.cellsOf, Nat.mul_one]
          rw [if_neg (by omega), e2]
        simp only [rsem, e3, bytes_back]
      have hfin : spellD b n = hexB u :: t := by rw [← hsp, spellD_small hub']; rfl
      rw [hfin]
      simp (disch := omega) [g0, g1, g3, g4, g10, g12, g13, g14, g15, g16, hub, wrap64, hdx, q1, hslp, hb2s]
      exact ⟨by omega, by omega, q2⟩
end Go.Am

/- Contracts: numbers spelled in a base; the law. -/
set_option linter.unusedVariables false
set_option linter.unusedSimpArgs false
namespace Go.Am
variable {T : Tab}

theorem c294 (D : D294 T) {H : AHeap} (hw : WF H) {b s n : Nat} (hb : (b = 2 ∧ s = 1) ∨ (b = 8 ∧ s = 3) ∨ (b = 16 ∧ s = 4)) (hn : n ≤ 9007199254740992) :
    Calls T 294 [.int .i64 (n : Int), .int .i64 (b : Int)] H fun r H' => Fr H H' ∧ r = .str (spellD b n) := by
  refine Calls.fn D.pr D.fn ?_
  simp (disch := omega) [ir294, show ¬ ((b : Int) = 10) by omega, show ¬ ((n : Int) < 0) by omega, wrapu64]
  refine WC.of (c299 D.d299 hw hb hn) ?_
  rintro r K ⟨f1, rfl⟩
  simp
  exact f1

def baseOk (b : Int) : Prop := b = 2 ∨ b = 8 ∨ b = 10 ∨ b = 16

theorem c289 (D : D289 T) {H : AHeap} (hw : WF H) {b n : Nat} (hb : b = 2 ∨ b = 8 ∨ b = 10 ∨ b = 16) (hn : n ≤ 9007199254740992) :
    Calls T 289 [.int .i64 (n : Int), .int .i64 (b : Int)] H fun r H' => Fr H H' ∧ r = .str (spellD b n) := by
  by_cases h10 : b = 10
  · subst h10
    refine Calls.prim D.pr (v := .str (Lib.itoa (n : Int))) (H' := H) ?_ ⟨.refl hw, ?_⟩
    · simp [fmtPrim]; omega
    · rw [spellD_ten]; unfold Lib.itoa; rw [if_neg (by omega)]; simp
  · obtain ⟨s, hs⟩ : ∃ s, (b = 2 ∧ s = 1) ∨ (b = 8 ∧ s = 3) ∨ (b = 16 ∧ s = 4) := by
      rcases hb with rfl | rfl | rfl | rfl
      · exact ⟨1, .inl ⟨rfl, rfl⟩⟩
      · exact ⟨3, .inr (.inl ⟨rfl, rfl⟩)⟩
      · exact absurd rfl h10
      · exact ⟨4, .inr (.inr ⟨rfl, rfl⟩)⟩
    refine Calls.fnP ?_ D.fn ?_
    · rw [D.pr]
      simp only [told, fmtPrim]
      rw [if_neg (by omega)]
    · simp [ir289]
      refine WC.of (c294 D.d294 hw hs hn) ?_
      rintro r K ⟨f1, rfl⟩
      simp
      exact f1

theorem dig16 : ∀ d : Nat, d < 16 → (([48,49,50,51,52,53,54,55,56,57,97,98,99,100,101,102] : List UInt8).take (d + 1)).drop d = [hexB d] := by decide +kernel

theorem c288 (D : D288 T) {H : AHeap} {b : Nat} (hb : b = 2 ∨ b = 8 ∨ b = 10 ∨ b = 16) : ∀ (n : Nat), n ≤ 9007199254740992 → Calls T 288 [.int .i64 (n : Int), .int .i64 (b : Int)] H fun r H' => H' = H ∧ r = .str (spellD b n) := by
  intro n
  induction n using Nat.strongRecOn with
  | _ n ih =>
    intro hn
    refine Calls.fn D.pr D.fn ?_
    have hb2 : 2 ≤ b := by omega
    have hm : (n : Int).tmod (b : Int) = ((n % b : Nat) : Int) := by rw [Int.tmod_eq_emod_of_nonneg (by omega), Int.natCast_emod]
    have hq : (n : Int).tdiv (b : Int) = ((n / b : Nat) : Int) := by rw [Int.tdiv_eq_ediv_of_nonneg (by omega), Int.natCast_ediv]
    have hrem : psem (.bin .rem) [.int .i64 (n : Int), .int .i64 (b : Int)] = some (.int .i64 ((n % b : Nat) : Int)) := by
      simp only [psem, binOp, intOp]
      rw [if_pos trivial, if_neg (by omega), hm]
    have hquo : psem (.bin .quo) [.int .i64 (n : Int), .int .i64 (b : Int)] = some (.int .i64 ((n / b : Nat) : Int)) := by
      have hle : n / b ≤ n := Nat.div_le_self _ _
      simp only [psem, binOp, intOp]
      rw [if_pos trivial, if_neg (by omega), hq]
      generalize n / b = q at hle
      rw [wrap64 (by omega) (by omega)]
    have hd16 : n % b < 16 := Nat.lt_of_lt_of_le (Nat.mod_lt _ (by omega)) (by omega)
    have hdg := dig16 (n % b) hd16
    have hsl : psem (.slS true true) [.str [48,49,50,51,52,53,54,55,56,57,97,98,99,100,101,102], .int .i64 ((n % b : Nat) : Int), .int .i64 (((n % b : Nat) : Int) + 1)] = some (.str [hexB (n % b)]) := by
      rw [psem_slS, if_pos ⟨by omega, by omega, by simp; omega⟩]
      rw [show (((n % b : Nat) : Int) + 1).toNat = n % b + 1 by omega, Int.toNat_natCast, hdg]
    have hlen := spellD_len hb2 54 (n / b) (by have : n / b ≤ n := Nat.div_le_self _ _; omega)
    by_cases hnb : n < b
    · have hmod : n % b = n := Nat.mod_eq_of_lt hnb
      rw [spellD_small hnb]
      rw [hmod] at hrem hsl hd16
      simp (disch := omega) [-psem_slS, ir288, hrem, hsl, wrap64, show (n : Int) < b by omega]
    · have hlt : n / b < n := Nat.div_lt_self (by omega) (by omega)
      have hsp := spellD_big hb2 hnb
      have hih := ih (n / b) hlt (by omega)
      rw [hsp]
      generalize n % b = d at *
      generalize n / b = q at *
      simp (disch := omega) [-psem_slS, ir288, hrem, hsl, hquo, wrap64, show ¬ ((n : Int) < b) by omega]
      refine WC.of hih ?_
      rintro r K ⟨rfl, rfl⟩
      generalize spellD b q = u at *
      simp [show ¬ (4611686018427387904 : Int) < u.length + 1 by omega]

def spellT (b n : Nat) : List UInt8 := prefB b n ++ spellD b n
def spellR (n b : Int) : List UInt8 × Int :=
  if ¬ (b = 2 ∨ b = 8 ∨ b = 10 ∨ b = 16) ∨ ¬ inN n then ([], 1) else (if n < 0 then 45 :: spellT b.toNat n.natAbs else spellT b.toNat n.toNat, 0)
theorem spellT_len {b n : Nat} (hb : 2 ≤ b) (hn : n ≤ 9007199254740992) : (spellT b n).length ≤ 57 := by
  have h1 := spellD_len hb 54 n (by omega)
  have h2 : (prefB b n).length ≤ 2 := by
    unfold prefB
    split
    · simp
    · split
      · simp
      · split <;> simp
  unfold spellT
  rw [List.length_append]; omega

theorem c279p (D : D279 T) {H : AHeap} {b : Nat} (hb : b = 2 ∨ b = 8 ∨ b = 10 ∨ b = 16) {n : Nat} (hn : n ≤ 9007199254740992) :
    Calls T 279 [.int .i64 (n : Int), .int .i64 (b : Int)] H fun r H' => H' = H ∧ r = .tup [.str (spellT b n), .int .i64 0] := by
  have h88 := c288 D.d288 (H := H) hb n hn
  have hin : inN (n : Int) := by unfold inN; omega
  have hl := spellD_len (b := b) (by omega) 54 n (by omega)
  have fin : ∀ p : List UInt8, prefB b n = p → spellT b n = p ++ spellD b n := fun p h => by unfold spellT; rw [h]
  refine Calls.fn D.pr D.fn ?_
  rcases hb with rfl | rfl | rfl | rfl
  · rw [fin [48, 98] rfl]
    simp [ir279]
    refine WC.of (c165 D.d165) ?_
    rintro r K ⟨rfl, rfl⟩
    simp [hin, show ¬ ((n : Int) < 0) by omega]
    refine WC.of h88 ?_
    rintro r K ⟨rfl, rfl⟩
    generalize spellD 2 n = u at *
    simp
    omega
  · by_cases h0 : 0 < n
    · rw [fin [48] (by unfold prefB; rw [if_neg (by omega), if_neg (by omega), if_pos ⟨rfl, h0⟩])]
      simp [ir279]
      refine WC.of (c165 D.d165) ?_
      rintro r K ⟨rfl, rfl⟩
      simp [hin, show ¬ ((n : Int) < 0) by omega, show (0 : Int) < n by omega, h0]
      refine WC.of h88 ?_
      rintro r K ⟨rfl, rfl⟩
      generalize spellD 8 n = u at *
      simp
      omega
    · obtain rfl : n = 0 := by omega
      rw [fin [] (by unfold prefB; simp)]
      simp [ir279]
      refine WC.of (c165 D.d165) ?_
      rintro r K ⟨rfl, rfl⟩
      have hin : inN 0 := by unfold inN; omega
      simp [hin]
      refine WC.of h88 ?_
      rintro r K ⟨rfl, rfl⟩
      generalize spellD 8 0 = u at *
      simp
      omega
  · rw [fin [] rfl]
    simp [ir279]
    refine WC.of (c165 D.d165) ?_
    rintro r K ⟨rfl, rfl⟩
    simp [hin, show ¬ ((n : Int) < 0) by omega]
    refine WC.of h88 ?_
    rintro r K ⟨rfl, rfl⟩
    generalize spellD 10 n = u at *
    simp
    omega
  · rw [fin [48, 120] rfl]
    simp [ir279]
    refine WC.of (c165 D.d165) ?_
    rintro r K ⟨rfl, rfl⟩
    simp [hin, show ¬ ((n : Int) < 0) by omega]
    refine WC.of h88 ?_
    rintro r K ⟨rfl, rfl⟩
    generalize spellD 16 n = u at *
    simp
    omega

theorem c279 (D : D279 T) {H : AHeap} {n b : Int} : Calls T 279 [.int .i64 n, .int .i64 b] H fun r H' => H' = H ∧ r = .tup [.str (spellR n b).1, .int .i64 (spellR n b).2] := by
  by_cases hb : b = 2 ∨ b = 8 ∨ b = 10 ∨ b = 16
  · obtain ⟨c, rfl⟩ : ∃ c : Nat, b = c := ⟨b.toNat, by omega⟩
    have hc : c = 2 ∨ c = 8 ∨ c = 10 ∨ c = 16 := by omega
    by_cases hin : inN n
    · have eR : spellR n c = (if n < 0 then 45 :: spellT c n.natAbs else spellT c n.toNat, 0) := by
        unfold spellR; rw [if_neg (by simp [hin]; omega)]; simp
      rw [eR]
      have hin' := hin
      unfold inN at hin
      by_cases hneg : n < 0
      · rw [if_pos hneg]
        have hrec := c279p D (H := H) hc (n := n.natAbs) (by omega)
        rw [show ((n.natAbs : Nat) : Int) = -n by omega] at hrec
        have hl := spellT_len (b := c) (by omega) (show n.natAbs ≤ 9007199254740992 by omega)
        refine Calls.fn D.pr D.fn ?_
        rcases hc with rfl | rfl | rfl | rfl
        all_goals
          simp [ir279]
          refine WC.of (c165 D.d165) ?_
          rintro r K ⟨rfl, rfl⟩
          simp (disch := omega) [hin', hneg, wrap64]
          refine WC.of hrec ?_
          rintro r K ⟨rfl, rfl⟩
          simp
          omega
      · rw [if_neg hneg]
        have h := c279p D (H := H) hc (n := n.toNat) (by omega)
        rwa [show ((n.toNat : Nat) : Int) = n by omega] at h
    · have eR : spellR n c = ([], 1) := by unfold spellR; rw [if_pos (.inr hin)]
      rw [eR]
      refine Calls.fn D.pr D.fn ?_
      rcases hc with rfl | rfl | rfl | rfl
      all_goals
        simp [ir279]
        refine WC.of (c165 D.d165) ?_
        rintro r K ⟨rfl, rfl⟩
        simp [hin]
  · have eR : spellR n b = ([], 1) := by unfold spellR; rw [if_pos (.inl hb)]
    rw [eR]
    refine Calls.fn D.pr D.fn ?_
    have h2 : ¬ b = 2 := by omega
    have h8 : ¬ b = 8 := by omega
    have h10 : ¬ b = 10 := by omega
    have h16 : ¬ b = 16 := by omega
    simp [ir279, h2, h8, h10, h16]
end Go.Am

/- Contracts: num.Spell and the law of numbers that are spelled. -/
set_option linter.unusedVariables false
set_option linter.unusedSimpArgs false
namespace Go.Am
variable {T : Tab}

def leadsM : List (AV × AV) := [(encI 2, .str [48, 98]), (encI 8, .str [48]), (encI 10, .str []), (encI 16, .str [48, 120])]
theorem look_ok {H : AHeap} {m : Nat} {es : List (AV × AV)} (h : Mp H m es) {k zero : AV} {r : Option (Nat × AV)} (hk : keyOk .int k = true) (hf : findK .int k es 0 = some r) :
    rsem (.look .int zero true) [.map (some m), k] H = some (match r with | some (_, v) => .tup [v, .bool true] | none => .tup [zero, .bool false]) := by
  simp only [rsem, AHeap.ents, show H.blk m = _ from h, hk, hf, if_true]
  cases r <;> simp
def leadOf (b : Int) : Option (List UInt8) := if b = 2 then some [48, 98] else if b = 8 then some [48] else if b = 10 then some [] else if b = 16 then some [48, 120] else none

theorem look_lead {H : AHeap} {m : Nat} (h : Mp H m leadsM) (b : Int) : rsem (.look .int (.str []) true) [.map (some m), .int .i64 b] H = some (match leadOf b with | some l => .tup [.str l, .bool true] | none => .tup [.str [], .bool false]) := by
  by_cases h2 : b = 2
  · subst h2; exact look_ok h (k := encI 2) rfl rfl
  · by_cases h8 : b = 8
    · subst h8; exact look_ok h (k := encI 8) rfl rfl
    · by_cases h10 : b = 10
      · subst h10; exact look_ok h (k := encI 10) rfl rfl
      · by_cases h16 : b = 16
        · subst h16; exact look_ok h (k := encI 16) rfl rfl
        · have hf : findK .int (encI b) leadsM 0 = some none := by
            have e : ∀ k : Int, ¬ b = k → (b == k) = false := fun k h => by simpa using h
            simp [findK, leadsM, keyEq, encI, e 2 h2, e 8 h8, e 10 h10, e 16 h16]
          rw [show leadOf b = none by simp [leadOf, h2, h8, h10, h16]]
          exact look_ok h (k := encI b) rfl hf

theorem c280 (D : D280 T) {H : AHeap} (hw : WF H) {n b : Int} : Calls T 280 [.int .i64 n, .int .i64 b] H fun r H' => Fr H H' ∧ r = .tup [.str (spellR n b).1, .int .i64 (spellR n b).2] := by
  obtain ⟨w0, m0, k0⟩ := hw.newMap
  have f0 : Fr H H.newMap := ⟨w0, k0 _⟩
  obtain ⟨K1, s1, f1, m1, -, -⟩ := mset_new (i := 2) (v := .str [48, 98]) f0 (Nat.le_refl _) m0 rfl
  obtain ⟨K2, s2, f2, m2, -, -⟩ := mset_new (i := 8) (v := .str [48]) f1 (Nat.le_refl _) m1 rfl
  obtain ⟨K3, s3, f3, m3, -, -⟩ := mset_new (i := 10) (v := .str []) f2 (Nat.le_refl _) m2 rfl
  obtain ⟨K4, s4, f4, m4, -, -⟩ := mset_new (i := 16) (v := .str [48, 120]) f3 (Nat.le_refl _) m3 rfl
  have hlk := look_lead (show Mp K4 H.next leadsM from m4) b
  have go : ∀ (c : Nat), b = c → (c = 2 ∨ c = 8 ∨ c = 10 ∨ c = 16) → ∀ l, leadOf b = some l → (∀ k : Nat, ¬ (k = 0 ∧ c = 8) → prefB c k = l) → l.length ≤ 2 → Calls T 280 [.int .i64 n, .int .i64 b] H fun r H' => Fr H H' ∧ r = .tup [.str (spellR n b).1, .int .i64 (spellR n b).2] := by
    intro c hbc hc l hl hpre hll
    rw [hl] at hlk
    subst hbc
    refine Calls.fn D.pr D.fn ?_
    simp [ir280, s1, s2, s3, s4, hlk]
    refine WC.of (c185 D.d185) ?_
    rintro r K ⟨rfl, rfl⟩
    by_cases hin : inN n
    · have eR : spellR n c = (if n < 0 then 45 :: spellT c n.natAbs else spellT c n.toNat, 0) := by
        unfold spellR; rw [if_neg (by simp [hin]; omega)]; simp
      rw [eR]
      have hin' := hin
      unfold inN at hin
      by_cases hneg : n < 0
      · rw [if_pos hneg]
        have hrec := c289 D.d289 (H := K) f4.wf hc (n := n.natAbs) (by omega)
        rw [show ((n.natAbs : Nat) : Int) = -n by omega] at hrec
        have hln := spellD_len (b := c) (by omega) 54 n.natAbs (by omega)
        simp (disch := omega) [hin', hneg, wrap64, show ¬ -n = 0 by omega, show ¬ n = 0 by omega]
        refine ⟨by omega, WC.of hrec ?_⟩
        rintro r K' ⟨fk, rfl⟩
        simp
        refine ⟨by omega, f4.trans fk, ?_⟩
        unfold spellT
        rw [hpre _ (by omega)]
        try simp
      · rw [if_neg hneg]
        have hrec := c289 D.d289 (H := K) f4.wf hc (n := n.toNat) (by omega)
        rw [show ((n.toNat : Nat) : Int) = n by omega] at hrec
        have hln := spellD_len (b := c) (by omega) 54 n.toNat (by omega)
        by_cases h08 : n = 0 ∧ c = 8
        · obtain ⟨rfl, rfl⟩ := h08
          simp [hin']
          refine ⟨f4, ?_⟩
          decide +kernel
        · have h08' : ¬ (n = 0 ∧ (c : Int) = 8) := by omega
          by_cases h0 : n = 0
          · have hc8 : ¬ (c : Int) = 8 := by omega
            have hp := hpre 0 (by omega)
            subst h0
            simp [hin', hc8]
            refine ⟨by omega, WC.of hrec ?_⟩
            rintro r K' ⟨fk, rfl⟩
            simp at hln ⊢
            refine ⟨by omega, f4.trans fk, ?_⟩
            unfold spellT
            rw [hp]
          · simp [hin', hneg, h0]
            refine ⟨by omega, WC.of hrec ?_⟩
            rintro r K' ⟨fk, rfl⟩
            simp
            refine ⟨by omega, f4.trans fk, ?_⟩
            unfold spellT
            rw [hpre _ (by omega)]
    · have eR : spellR n c = ([], 1) := by unfold spellR; rw [if_pos (.inr hin)]
      rw [eR]
      simp [hin]
      exact f4
  by_cases hb : b = 2 ∨ b = 8 ∨ b = 10 ∨ b = 16
  · rcases hb with h | h | h | h
    · exact go 2 h (by omega) [48, 98] (by rw [h]; rfl) (fun k _ => rfl) (by simp)
    · exact go 8 h (by omega) [48] (by rw [h]; rfl) (fun k hk => by unfold prefB; rw [if_neg (by omega), if_neg (by omega), if_pos ⟨rfl, by omega⟩]) (by simp)
    · exact go 10 h (by omega) [] (by rw [h]; rfl) (fun k _ => rfl) (by simp)
    · exact go 16 h (by omega) [48, 120] (by rw [h]; rfl) (fun k _ => rfl) (by simp)
  · have hn : leadOf b = none := by unfold leadOf; rw [if_neg (by omega), if_neg (by omega), if_neg (by omega), if_neg (by omega)]
    rw [hn] at hlk
    have eR : spellR n b = ([], 1) := by unfold spellR; rw [if_pos (.inl hb)]
    rw [eR]
    refine Calls.fn D.pr D.fn ?_
    simp [ir280, s1, s2, s3, s4, hlk]
    exact f4

theorem c271 (D : D271 T) {H : AHeap} (hw : WF H) {n b : Int} : Calls T 271 [.int .i64 n, .int .i64 b] H fun r _ => r = .bool true := by
  refine Calls.fn D.pr D.fn ?_
  simp [ir271]
  refine WC.of (c279 D.d279) ?_
  rintro r K ⟨rfl, rfl⟩
  simp
  refine WC.of (c280 D.d280 hw) ?_
  rintro r K' ⟨f1, rfl⟩
  simp
  by_cases hbad : ¬ (b = 2 ∨ b = 8 ∨ b = 10 ∨ b = 16) ∨ ¬ inN n
  · have eR : spellR n b = ([], 1) := by unfold spellR; rw [if_pos hbad]
    simp [eR]
    refine WC.of (c241 D.d241 f1.wf) ?_
    rintro r K2 rfl
    simp
  · have eR : spellR n b = (if n < 0 then 45 :: spellT b.toNat n.natAbs else spellT b.toNat n.toNat, 0) := by unfold spellR; rw [if_neg hbad]
    obtain ⟨hb, hin⟩ : (b = 2 ∨ b = 8 ∨ b = 10 ∨ b = 16) ∧ inN n := by
      constructor
      · exact Classical.byContradiction fun h => hbad (.inl h)
      · exact Classical.byContradiction fun h => hbad (.inr h)
    by_cases hneg : n < 0
    · simp [eR, hneg]
      refine WC.of (c241 D.d241 f1.wf) ?_
      rintro r K2 rfl
      simp
    · have hin' := hin
      unfold inN at hin
      have hr := radix_spell (b := b.toNat) (n := n.toNat) (by omega) (by omega)
      rw [show prefB b.toNat n.toNat ++ spellD b.toNat n.toNat = spellT b.toNat n.toNat from rfl, show ((n.toNat : Nat) : Int) = n by omega] at hr
      have hl := spellT_len (b := b.toNat) (n := n.toNat) (by omega) (by omega)
      simp [eR, hneg]
      refine WC.of (c248 D.d248 (by omega)) ?_
      rintro r K2 ⟨rfl, rfl⟩
      rw [hr]
      simp [optV]
      refine WC.of (c241 D.d241 f1.wf) ?_
      rintro r K2 rfl
      simp

theorem law271 (D : D271 T) {K : AHeap} {as : List AV} (hw : WF K) (hg : Goods K [.int .i64, .int .i64] as) : Calls T 271 as K fun v _ => v = .bool true := by
  obtain ⟨a, r, rfl, g1, b, r2, rfl, g2, rfl⟩ := hg
  obtain ⟨n, rfl, _⟩ := g1.int
  obtain ⟨b, rfl, _⟩ := g2.int
  exact c271 D hw
end Go.Am
